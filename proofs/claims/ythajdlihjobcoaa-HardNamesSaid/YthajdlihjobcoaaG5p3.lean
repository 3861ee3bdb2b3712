/- The functions foghorn foghornlaw22.HardThinned, foghorn foghornlaw22.HardNames, foghorn foghornlaw22.HardPaths, foghorn foghornlaw22.HardLeast, foghorn foghornlaw22.HardReach: what each answers, as a plain function, and that its call answers it; printed by gen.py. -/
import Derived.Test.YthajdlihjobcoaaProg
import Derived.Test.YthajdlihjobcoaaGlT
import Derived.KernelRfl
import Derived.Test.YthajdlihjobcoaaG5p2
set_option linter.unusedVariables false
set_option linter.unusedSimpArgs false
set_option maxRecDepth 100000
set_option maxHeartbeats 4000000
namespace Go.Proofs.Ythajdlihjobcoaa
open GL
noncomputable def f_foghornlaw22_HardThinned.j2 (q35 : ((List Int) × Int)) (i11 : Int) (want12 : Int) : Option (Int ⊕ (Unit ⊕ Bool)) := (if 0 ≤ i11 ∧ i11 < (q35.1.length : Int) then (if ((gt q35.1 i11) != want12) = true then (some (Sum.inr (Sum.inr false))) else (some (Sum.inl (IntKind.i64.wrap (i11 + (1 : Int)))))) else none)
noncomputable def f_foghornlaw22_HardThinned.j1 (keep1 : (List Bool)) (q35 : ((List Int) × Int)) (i11 : Int) (want12 : Int) : Option (Int ⊕ (Unit ⊕ Bool)) := (if (((([] : List Bool) ++ ((keep1.drop 0).take (((imin (keep1.length : Int) (63 : Int))).toNat - 0))) ++ [true]).length : Int) ≠ 0 then (if 0 ≤ ((i11).tmod (((([] : List Bool) ++ ((keep1.drop 0).take (((imin (keep1.length : Int) (63 : Int))).toNat - 0))) ++ [true]).length : Int)) ∧ ((i11).tmod (((([] : List Bool) ++ ((keep1.drop 0).take (((imin (keep1.length : Int) (63 : Int))).toNat - 0))) ++ [true]).length : Int)) < (((([] : List Bool) ++ ((keep1.drop 0).take (((imin (keep1.length : Int) (63 : Int))).toNat - 0))) ++ [true]).length : Int) then (if (!(gt ((([] : List Bool) ++ ((keep1.drop 0).take (((imin (keep1.length : Int) (63 : Int))).toNat - 0))) ++ [true]) ((i11).tmod (((([] : List Bool) ++ ((keep1.drop 0).take (((imin (keep1.length : Int) (63 : Int))).toNat - 0))) ++ [true]).length : Int)))) = true then (f_foghornlaw22_HardThinned.j2 q35 i11 (2 : Int)) else (f_foghornlaw22_HardThinned.j2 q35 i11 want12)) else none) else none)
noncomputable def f_foghornlaw22_HardThinned.s1c (l0 : (List Bool)) (keep1 : (List Bool)) (q35 : ((List Int) × Int)) (i11 : Int) : Option (Int ⊕ (Unit ⊕ Bool)) := (if (decide (i11 < ((([] : List Bool) ++ ((l0.drop 0).take (((imin (l0.length : Int) (32768 : Int))).toNat - 0))).length : Int))) = true then (if 0 ≤ i11 ∧ i11 < ((([] : List Bool) ++ ((l0.drop 0).take (((imin (l0.length : Int) (32768 : Int))).toNat - 0))).length : Int) then (if (gt (([] : List Bool) ++ ((l0.drop 0).take (((imin (l0.length : Int) (32768 : Int))).toNat - 0))) i11) = true then (f_foghornlaw22_HardThinned.j1 keep1 q35 i11 (1 : Int)) else (f_foghornlaw22_HardThinned.j1 keep1 q35 i11 (0 : Int))) else none) else (some (Sum.inr (Sum.inl ()))))
noncomputable def f_foghornlaw22_HardThinned.s1 (l0 : (List Bool)) (keep1 : (List Bool)) (q35 : ((List Int) × Int)) (s : Int) : Option (Int ⊕ (Unit ⊕ Bool)) := f_foghornlaw22_HardThinned.s1c l0 keep1 q35 s
noncomputable def f_foghornlaw22_HardThinned (l0 : (List Bool)) (keep1 : (List Bool)) : Option Bool := ((f_foghornlaw22_works).bind fun q1 => (if (!q1) = true then (some false) else (if 0 ≤ (imin (l0.length : Int) (32768 : Int)) ∧ (imin (l0.length : Int) (32768 : Int)) ≤ (l0.length : Int) then (if (([] : List Bool).length + ((l0.drop 0).take (((imin (l0.length : Int) (32768 : Int))).toNat - 0)).length) * 1 ≤ 140737488355328 then (if 0 ≤ (imin (keep1.length : Int) (63 : Int)) ∧ (imin (keep1.length : Int) (63 : Int)) ≤ (keep1.length : Int) then (if (([] : List Bool).length + ((keep1.drop 0).take (((imin (keep1.length : Int) (63 : Int))).toNat - 0)).length) * 1 ≤ 140737488355328 then (if ((([] : List Bool) ++ ((keep1.drop 0).take (((imin (keep1.length : Int) (63 : Int))).toNat - 0))).length + ([true]).length) * 1 ≤ 140737488355328 then ((f_hard_Thin (([] : List Bool) ++ ((l0.drop 0).take (((imin (l0.length : Int) (32768 : Int))).toNat - 0))) ((([] : List Bool) ++ ((keep1.drop 0).take (((imin (keep1.length : Int) (63 : Int))).toNat - 0))) ++ [true])).bind fun q21 => ((f_hard_Fill q21.1 ((([] : List Bool) ++ ((keep1.drop 0).take (((imin (keep1.length : Int) (63 : Int))).toNat - 0))) ++ [true]) ((([] : List Bool) ++ ((l0.drop 0).take (((imin (l0.length : Int) (32768 : Int))).toNat - 0))).length : Int)).bind fun q35 => ((f_hard_Thin (([] : List Bool) ++ ((l0.drop 0).take (((imin (l0.length : Int) (32768 : Int))).toNat - 0))) ([true])).bind fun q51 => ((if ((((q21.2 != (0 : Int)) || (q35.2 != (0 : Int))) || (q51.2 != (0 : Int))) || ((q35.1.length : Int) != ((([] : List Bool) ++ ((l0.drop 0).take (((imin (l0.length : Int) (32768 : Int))).toNat - 0))).length : Int))) = true then (some true) else ((f_foghornlaw22_sameBits q51.1 (([] : List Bool) ++ ((l0.drop 0).take (((imin (l0.length : Int) (32768 : Int))).toNat - 0)))).bind fun q74 => (some (!q74)))).bind fun z73 => (if (z73 || (decide (((([] : List Bool) ++ ((l0.drop 0).take (((imin (l0.length : Int) (32768 : Int))).toNat - 0))).length : Int) < (q21.1.length : Int)))) = true then (some false) else ((loop (f_foghornlaw22_HardThinned.s1 l0 keep1 q35) (0 : Int)).bind (fun q92 => sm q92 (fun q93 => (some true)) (fun q94 => (some q94))))))))) else none) else none) else none) else none) else none)))
theorem f_foghornlaw22_HardThinned_c {S : Nat → Prop} {w0 w : World} {ow : List Res} (hp : Hp S w0 w ow) (vl0 : Value) (l0 : (List Bool)) (hl0 : RdS Ek.bool S w0 vl0 l0) (vkeep1 : Value) (keep1 : (List Bool)) (hkeep1 : RdS Ek.bool S w0 vkeep1 keep1) {r : Bool} (h : f_foghornlaw22_HardThinned l0 keep1 = some r) :
    Calls Try.prog 7 #[vl0, vkeep1] w (fun e w' => e = .returned (.bool r) ∧ Hp S w0 w' (ow)) := by
  unfold f_foghornlaw22_HardThinned at h
  refine enter (n := 105) (args := [vl0, vkeep1]) Try.func7 rfl rfl (Nat.le_of_ble_eq_true rfl) fun a hf => ?_
  replace hf : Fr 105 a [(0, vl0), (1, vkeep1)] := hf
  refine wp_mono (Q := fun e a w => e = .ret ∧ Fr 105 a [(4, .bool r)] ∧ Hp S w0 w (ow)) ?_ ?_
  rotate_left
  · rintro e a w ⟨rfl, hf, hp⟩
    exact ret1 hf rfl rfl ⟨rfl, hp⟩
  refine wp_seq ?_
  refine wp_reg ?_
  refine st_assign hf rfl rfl (by decide) ?_
  clear hf; intro a ha hf; clear ha
  refine st_nil hf ?_
  refine th_n ?_
  refine wp_seq ?_
  refine wp_seq ?_
  refine wp_reg ?_
  obtain ⟨q1, hcall2, h⟩ := bnd h
  refine st_call hf (by decide) Try.func23 rfl rfl rfl rfl rfl (f_foghornlaw22_works_c hp  hcall2) ?_
  rintro _ w ⟨rfl, hp0⟩
  clear hp; have hp := hp0; clear hp0
  replace hp : Hp _ _ _ (ow) := hp
  refine ⟨_, rfl, ?_⟩
  clear hf; intro a hf
  refine st_not hf (by decide) rfl rfl ?_
  clear hf; intro a ha hf; clear ha
  refine st_nil hf ?_
  refine th_n ?_
  refine wp_if hf rfl (fun hb => ?_) (fun hb => ?_)
  · replace h := ifT h hb
    refine wp_seq ?_
    refine wp_reg ?_
    refine st_assign hf rfl rfl (by decide) ?_
    clear hf; intro a ha hf; clear ha
    refine st_nil hf ?_
    refine th_n ?_
    refine wp_ret ?_
    refine th_r ?_
    obtain rfl := Option.some.inj h
    exact ⟨rfl, ⟨hf.sub ⟨rfl, trivial⟩, hp⟩⟩
  replace h := ifF h hb
  refine wp_skip ?_
  refine th_n ?_
  refine wp_seq ?_
  refine wp_reg ?_
  refine st_build0 (E := Ek.bool) hf (by decide) elt4 Try.underlying22 hp rfl ?_
  clear hf; intro a w v3 hf hp0; clear hp; have hp := hp0; clear hp0
  replace hp : Hp _ _ _ (Res.sl Ek.bool 4 v3 ([] : List Bool) :: ow) := hp
  refine st_move hf rfl rfl (by decide) ?_
  clear hf; intro a ha hf; clear ha
  refine st_move hf rfl rfl (by decide) ?_
  clear hf; intro a ha hf; clear ha
  refine st_len (E := Ek.bool) hf (by decide) Try.underlying22 rfl rfl (hl0.sl hp) ?_
  clear hf; intro a ha hf; clear ha
  refine st_imin hf (by decide) rfl rfl rfl ?_
  clear hf; intro a ha hf; clear ha
  obtain ⟨hc5, h⟩ := chk h
  have hc6 : 0 ≤ ((imin (l0.length : Int) (32768 : Int))).toNat := by omega
  have hc7 : ((imin (l0.length : Int) (32768 : Int))).toNat ≤ l0.length := by omega
  refine st_cutS (E := Ek.bool) hf (by decide) Try.underlying22 elt4 rfl rfl (hl0.sl hp) (.inl ⟨rfl, rfl⟩) (.inr ⟨_, _, rfl, evI rfl (by omega)⟩) hc6 hc7 ?_
  clear hf; intro a ha hf; clear ha
  obtain ⟨hc8, h⟩ := chk h
  refine st_append (E := Ek.bool) hf (by decide) elt4 Try.underlying22 (by decide) hp (i := 0) rfl rfl rfl rfl ((RdS.cut hl0 hc6 hc7).sl hp) hc8 ?_
  clear hf; intro a w v9 hf hp0; clear hp; have hp := hp0; clear hp0
  replace hp : Hp _ _ _ (Res.sl Ek.bool 4 v9 (([] : List Bool) ++ ((l0.drop 0).take (((imin (l0.length : Int) (32768 : Int))).toNat - 0))) :: ow) := hp
  refine st_assign hf rfl rfl (by decide) ?_
  clear hf; intro a ha hf; clear ha
  refine st_nil hf ?_
  refine th_n ?_
  refine wp_seq ?_
  refine wp_reg ?_
  refine st_build0 (E := Ek.bool) hf (by decide) elt4 Try.underlying22 hp rfl ?_
  clear hf; intro a w v10 hf hp0; clear hp; have hp := hp0; clear hp0
  replace hp : Hp _ _ _ (Res.sl Ek.bool 4 v10 ([] : List Bool) :: Res.sl Ek.bool 4 v9 (([] : List Bool) ++ ((l0.drop 0).take (((imin (l0.length : Int) (32768 : Int))).toNat - 0))) :: ow) := hp
  refine st_move hf rfl rfl (by decide) ?_
  clear hf; intro a ha hf; clear ha
  refine st_move hf rfl rfl (by decide) ?_
  clear hf; intro a ha hf; clear ha
  refine st_len (E := Ek.bool) hf (by decide) Try.underlying22 rfl rfl (hkeep1.sl hp) ?_
  clear hf; intro a ha hf; clear ha
  refine st_imin hf (by decide) rfl rfl rfl ?_
  clear hf; intro a ha hf; clear ha
  obtain ⟨hc12, h⟩ := chk h
  have hc13 : 0 ≤ ((imin (keep1.length : Int) (63 : Int))).toNat := by omega
  have hc14 : ((imin (keep1.length : Int) (63 : Int))).toNat ≤ keep1.length := by omega
  refine st_cutS (E := Ek.bool) hf (by decide) Try.underlying22 elt4 rfl rfl (hkeep1.sl hp) (.inl ⟨rfl, rfl⟩) (.inr ⟨_, _, rfl, evI rfl (by omega)⟩) hc13 hc14 ?_
  clear hf; intro a ha hf; clear ha
  obtain ⟨hc15, h⟩ := chk h
  refine st_append (E := Ek.bool) hf (by decide) elt4 Try.underlying22 (by decide) hp (i := 0) rfl rfl rfl rfl ((RdS.cut hkeep1 hc13 hc14).sl hp) hc15 ?_
  clear hf; intro a w v16 hf hp0; clear hp; have hp := hp0; clear hp0
  replace hp : Hp _ _ _ (Res.sl Ek.bool 4 v16 (([] : List Bool) ++ ((keep1.drop 0).take (((imin (keep1.length : Int) (63 : Int))).toNat - 0))) :: Res.sl Ek.bool 4 v9 (([] : List Bool) ++ ((l0.drop 0).take (((imin (l0.length : Int) (32768 : Int))).toNat - 0))) :: ow) := hp
  refine st_build (E := Ek.bool) (xs := [true]) hf (by decide) elt4 Try.underlying22 hp (vals := #[(0, .bool true)]) (cells := #[.bool true]) rfl (by simp [hf.ev (x := (Operand.const (.bool true))) rfl]) (by decide) (by decide) (z := .bool false) (by kernel_rfl) (by kernel_rfl) rfl (reps_cons (cs := [.bool true]) rfl (reps_nil _)) ?_
  clear hf; intro a w v17 hf hp0; clear hp; have hp := hp0; clear hp0
  replace hp : Hp _ _ _ (Res.sl Ek.bool 4 v17 ([true]) :: Res.sl Ek.bool 4 v16 (([] : List Bool) ++ ((keep1.drop 0).take (((imin (keep1.length : Int) (63 : Int))).toNat - 0))) :: Res.sl Ek.bool 4 v9 (([] : List Bool) ++ ((l0.drop 0).take (((imin (l0.length : Int) (32768 : Int))).toNat - 0))) :: ow) := hp
  obtain ⟨hc19, h⟩ := chk h
  refine st_append (E := Ek.bool) hf (by decide) elt4 Try.underlying22 (by decide) hp (i := 1) rfl rfl rfl rfl (hp.sl (i := 0) rfl) hc19 ?_
  clear hf; intro a w v20 hf hp0; clear hp; have hp := hp0; clear hp0
  replace hp : Hp _ _ _ (Res.sl Ek.bool 4 v17 ([true]) :: Res.sl Ek.bool 4 v20 ((([] : List Bool) ++ ((keep1.drop 0).take (((imin (keep1.length : Int) (63 : Int))).toNat - 0))) ++ [true]) :: Res.sl Ek.bool 4 v9 (([] : List Bool) ++ ((l0.drop 0).take (((imin (l0.length : Int) (32768 : Int))).toNat - 0))) :: ow) := hp
  refine st_assign hf rfl rfl (by decide) ?_
  clear hf; intro a ha hf; clear ha
  refine st_nil hf ?_
  refine th_n ?_
  refine wp_seq ?_
  refine wp_reg ?_
  refine st_move hf rfl rfl (by decide) ?_
  clear hf; intro a ha hf; clear ha
  refine st_move hf rfl rfl (by decide) ?_
  clear hf; intro a ha hf; clear ha
  obtain ⟨q21, hcall22, h⟩ := bnd h
  obtain ⟨S23, hp24, rd25, up26, bk27⟩ := Hp.lendS hp (i := 2) rfl
  obtain ⟨S28, hp29, rd30, up31, bk32⟩ := Hp.lendS hp24 (i := 1) rfl
  refine st_call hf (by decide) Try.func9 rfl rfl rfl rfl rfl (f_hard_Thin_c hp29 _ _ ((rd25.now hp24).mono up31) _ _ rd30 hcall22) ?_
  rintro _ w ⟨v33, rfl, hp0⟩
  have hp0 := bk32 _ _ hp0
  have hp0 := bk27 _ _ hp0
  clear hp; have hp := hp0; clear hp0
  replace hp : Hp _ _ _ (Res.sl Ek.bool 4 v9 (([] : List Bool) ++ ((l0.drop 0).take (((imin (l0.length : Int) (32768 : Int))).toNat - 0))) :: Res.sl Ek.bool 4 v20 ((([] : List Bool) ++ ((keep1.drop 0).take (((imin (keep1.length : Int) (63 : Int))).toNat - 0))) ++ [true]) :: Res.sl Ek.bool 4 v33 q21.1 :: Res.sl Ek.bool 4 v17 ([true]) :: ow) := hp
  refine ⟨_, rfl, ?_⟩
  clear hf; intro a hf
  refine st_move hf rfl rfl (by decide) ?_
  clear hf; intro a ha hf; clear ha
  refine st_extract hf (by decide) rfl rfl rfl ?_
  clear hf; intro a ha hf; clear ha
  refine st_extract hf (by decide) rfl rfl rfl ?_
  clear hf; intro a ha hf; clear ha
  refine st_assign hf rfl rfl (by decide) ?_
  clear hf; intro a ha hf; clear ha
  refine st_assign hf rfl rfl (by decide) ?_
  clear hf; intro a ha hf; clear ha
  refine st_nil hf ?_
  refine th_n ?_
  refine wp_seq ?_
  refine wp_reg ?_
  refine st_move hf rfl rfl (by decide) ?_
  clear hf; intro a ha hf; clear ha
  refine st_move hf rfl rfl (by decide) ?_
  clear hf; intro a ha hf; clear ha
  refine st_move hf rfl rfl (by decide) ?_
  clear hf; intro a ha hf; clear ha
  refine st_len (E := Ek.bool) hf (by decide) Try.underlying22 rfl rfl (hp.sl (i := 0) rfl) ?_
  clear hf; intro a ha hf; clear ha
  obtain ⟨q35, hcall36, h⟩ := bnd h
  obtain ⟨S37, hp38, rd39, up40, bk41⟩ := Hp.lendS hp (i := 2) rfl
  obtain ⟨S42, hp43, rd44, up45, bk46⟩ := Hp.lendS hp38 (i := 1) rfl
  refine st_call hf (by decide) Try.func11 rfl rfl rfl rfl rfl (f_hard_Fill_c hp43 _ _ ((rd39.now hp38).mono up45) _ _ rd44 _ hcall36) ?_
  rintro _ w ⟨v47, rfl, hp0⟩
  have hp0 := bk46 _ _ hp0
  have hp0 := bk41 _ _ hp0
  clear hp; have hp := hp0; clear hp0
  replace hp : Hp _ _ _ (Res.sl Ek.bool 4 v33 q21.1 :: Res.sl Ek.bool 4 v20 ((([] : List Bool) ++ ((keep1.drop 0).take (((imin (keep1.length : Int) (63 : Int))).toNat - 0))) ++ [true]) :: Res.sl (Ek.int .u8) 51 v47 q35.1 :: Res.sl Ek.bool 4 v9 (([] : List Bool) ++ ((l0.drop 0).take (((imin (l0.length : Int) (32768 : Int))).toNat - 0))) :: Res.sl Ek.bool 4 v17 ([true]) :: ow) := hp
  refine ⟨_, rfl, ?_⟩
  clear hf; intro a hf
  refine st_move hf rfl rfl (by decide) ?_
  clear hf; intro a ha hf; clear ha
  refine st_extract hf (by decide) rfl rfl rfl ?_
  clear hf; intro a ha hf; clear ha
  refine st_extract hf (by decide) rfl rfl rfl ?_
  clear hf; intro a ha hf; clear ha
  refine st_assign hf rfl rfl (by decide) ?_
  clear hf; intro a ha hf; clear ha
  refine st_assign hf rfl rfl (by decide) ?_
  clear hf; intro a ha hf; clear ha
  refine st_nil hf ?_
  refine th_n ?_
  refine wp_seq ?_
  refine wp_reg ?_
  refine st_move hf rfl rfl (by decide) ?_
  clear hf; intro a ha hf; clear ha
  refine st_build (E := Ek.bool) (xs := [true]) hf (by decide) elt4 Try.underlying22 hp (vals := #[(0, .bool true)]) (cells := #[.bool true]) rfl (by simp [hf.ev (x := (Operand.const (.bool true))) rfl]) (by decide) (by decide) (z := .bool false) (by kernel_rfl) (by kernel_rfl) rfl (reps_cons (cs := [.bool true]) rfl (reps_nil _)) ?_
  clear hf; intro a w v49 hf hp0; clear hp; have hp := hp0; clear hp0
  replace hp : Hp _ _ _ (Res.sl Ek.bool 4 v49 ([true]) :: Res.sl Ek.bool 4 v33 q21.1 :: Res.sl Ek.bool 4 v20 ((([] : List Bool) ++ ((keep1.drop 0).take (((imin (keep1.length : Int) (63 : Int))).toNat - 0))) ++ [true]) :: Res.sl (Ek.int .u8) 51 v47 q35.1 :: Res.sl Ek.bool 4 v9 (([] : List Bool) ++ ((l0.drop 0).take (((imin (l0.length : Int) (32768 : Int))).toNat - 0))) :: Res.sl Ek.bool 4 v17 ([true]) :: ow) := hp
  obtain ⟨q51, hcall52, h⟩ := bnd h
  obtain ⟨S53, hp54, rd55, up56, bk57⟩ := Hp.lendS hp (i := 4) rfl
  obtain ⟨S58, hp59, rd60, up61, bk62⟩ := Hp.lendS hp54 (i := 0) rfl
  refine st_call hf (by decide) Try.func9 rfl rfl rfl rfl rfl (f_hard_Thin_c hp59 _ _ ((rd55.now hp54).mono up61) _ _ rd60 hcall52) ?_
  rintro _ w ⟨v63, rfl, hp0⟩
  have hp0 := bk62 _ _ hp0
  have hp0 := bk57 _ _ hp0
  clear hp; have hp := hp0; clear hp0
  replace hp : Hp _ _ _ (Res.sl Ek.bool 4 v9 (([] : List Bool) ++ ((l0.drop 0).take (((imin (l0.length : Int) (32768 : Int))).toNat - 0))) :: Res.sl Ek.bool 4 v49 ([true]) :: Res.sl Ek.bool 4 v63 q51.1 :: Res.sl Ek.bool 4 v33 q21.1 :: Res.sl Ek.bool 4 v20 ((([] : List Bool) ++ ((keep1.drop 0).take (((imin (keep1.length : Int) (63 : Int))).toNat - 0))) ++ [true]) :: Res.sl (Ek.int .u8) 51 v47 q35.1 :: Res.sl Ek.bool 4 v17 ([true]) :: ow) := hp
  refine ⟨_, rfl, ?_⟩
  clear hf; intro a hf
  refine st_move hf rfl rfl (by decide) ?_
  clear hf; intro a ha hf; clear ha
  refine st_extract hf (by decide) rfl rfl rfl ?_
  clear hf; intro a ha hf; clear ha
  refine st_extract hf (by decide) rfl rfl rfl ?_
  clear hf; intro a ha hf; clear ha
  refine st_assign hf rfl rfl (by decide) ?_
  clear hf; intro a ha hf; clear ha
  refine st_assign hf rfl rfl (by decide) ?_
  clear hf; intro a ha hf; clear ha
  refine st_nil hf ?_
  refine th_n ?_
  refine wp_seq ?_
  refine wp_seq ?_
  refine wp_reg ?_
  refine st_move hf rfl rfl (by decide) ?_
  clear hf; intro a ha hf; clear ha
  refine st_ineq hf (by decide) rfl rfl rfl ?_
  clear hf; intro a ha hf; clear ha
  refine st_move hf rfl rfl (by decide) ?_
  clear hf; intro a ha hf; clear ha
  refine wpList_cut 3 (fun a w => Fr 105 a [(0, v9), (1, v20), (5, v33), (7, v47), (9, v63), (10, .int .i64 q51.2), (56, .bool ((q21.2 != (0 : Int)) || (q35.2 != (0 : Int))))] ∧ Hp S w0 w (Res.sl Ek.bool 4 v9 (([] : List Bool) ++ ((l0.drop 0).take (((imin (l0.length : Int) (32768 : Int))).toNat - 0))) :: Res.sl Ek.bool 4 v49 ([true]) :: Res.sl Ek.bool 4 v63 q51.1 :: Res.sl Ek.bool 4 v33 q21.1 :: Res.sl Ek.bool 4 v20 ((([] : List Bool) ++ ((keep1.drop 0).take (((imin (keep1.length : Int) (63 : Int))).toNat - 0))) ++ [true]) :: Res.sl (Ek.int .u8) 51 v47 q35.1 :: Res.sl Ek.bool 4 v17 ([true]) :: ow)) ?_ ?_
  · rcases Bool.eq_false_or_eq_true (q21.2 != (0 : Int)) with hb66 | hb66
    · skip
      refine st_skip hf (wantN hf rfl rfl hb66) rfl (by decide) ?_ rfl
      clear hf; intro a hf
      refine st_skip hf (wantN hf rfl rfl hb66) rfl (by decide) ?_ rfl
      clear hf; intro a hf
      refine st_pick (v := .bool true) hf rfl rfl (fun hb' => ?_) (fun hb' => ?_) (by decide) ?_
      · rfl
      · exact absurd (hb66.symm.trans hb') (by decide)
      clear hf; intro a ha hf; clear ha
      refine st_nil hf (th_n ?_)
      exact ⟨hf.sub ⟨rfl, rfl, rfl, rfl, rfl, rfl, (by rw [hb66]; rfl), trivial⟩, hp⟩
    refine st_move hf (wantY hf rfl rfl hb66) rfl (by decide) ?_
    clear hf; intro a ha hf; clear ha
    refine st_ineq hf (by decide) (wantY hf rfl rfl hb66) rfl rfl ?_
    clear hf; intro a ha hf; clear ha
    refine st_pick (v := .bool (q35.2 != (0 : Int))) hf rfl rfl (fun hb' => ?_) (fun hb' => ?_) (by decide) ?_
    · exact absurd (hb66.symm.trans hb') (by decide)
    · rfl
    clear hf; intro a ha hf; clear ha
    refine st_nil hf (th_n ?_)
    exact ⟨hf.sub ⟨rfl, rfl, rfl, rfl, rfl, rfl, (by rw [hb66]; rfl), trivial⟩, hp⟩
  rintro a w ⟨hf, hp⟩
  refine st_move hf rfl rfl (by decide) ?_
  clear hf; intro a ha hf; clear ha
  refine wpList_cut 3 (fun a w => Fr 105 a [(0, v9), (1, v20), (5, v33), (7, v47), (9, v63), (60, .bool (((q21.2 != (0 : Int)) || (q35.2 != (0 : Int))) || (q51.2 != (0 : Int))))] ∧ Hp S w0 w (Res.sl Ek.bool 4 v9 (([] : List Bool) ++ ((l0.drop 0).take (((imin (l0.length : Int) (32768 : Int))).toNat - 0))) :: Res.sl Ek.bool 4 v49 ([true]) :: Res.sl Ek.bool 4 v63 q51.1 :: Res.sl Ek.bool 4 v33 q21.1 :: Res.sl Ek.bool 4 v20 ((([] : List Bool) ++ ((keep1.drop 0).take (((imin (keep1.length : Int) (63 : Int))).toNat - 0))) ++ [true]) :: Res.sl (Ek.int .u8) 51 v47 q35.1 :: Res.sl Ek.bool 4 v17 ([true]) :: ow)) ?_ ?_
  · rcases Bool.eq_false_or_eq_true ((q21.2 != (0 : Int)) || (q35.2 != (0 : Int))) with hb68 | hb68
    · skip
      refine st_skip hf (wantN hf rfl rfl hb68) rfl (by decide) ?_ rfl
      clear hf; intro a hf
      refine st_skip hf (wantN hf rfl rfl hb68) rfl (by decide) ?_ rfl
      clear hf; intro a hf
      refine st_pick (v := .bool true) hf rfl rfl (fun hb' => ?_) (fun hb' => ?_) (by decide) ?_
      · rfl
      · exact absurd (hb68.symm.trans hb') (by decide)
      clear hf; intro a ha hf; clear ha
      refine st_nil hf (th_n ?_)
      exact ⟨hf.sub ⟨rfl, rfl, rfl, rfl, rfl, (by rw [hb68]; rfl), trivial⟩, hp⟩
    refine st_move hf (wantY hf rfl rfl hb68) rfl (by decide) ?_
    clear hf; intro a ha hf; clear ha
    refine st_ineq hf (by decide) (wantY hf rfl rfl hb68) rfl rfl ?_
    clear hf; intro a ha hf; clear ha
    refine st_pick (v := .bool (q51.2 != (0 : Int))) hf rfl rfl (fun hb' => ?_) (fun hb' => ?_) (by decide) ?_
    · exact absurd (hb68.symm.trans hb') (by decide)
    · rfl
    clear hf; intro a ha hf; clear ha
    refine st_nil hf (th_n ?_)
    exact ⟨hf.sub ⟨rfl, rfl, rfl, rfl, rfl, (by rw [hb68]; rfl), trivial⟩, hp⟩
  rintro a w ⟨hf, hp⟩
  refine st_move hf rfl rfl (by decide) ?_
  clear hf; intro a ha hf; clear ha
  refine wpList_cut 6 (fun a w => Fr 105 a [(0, v9), (1, v20), (5, v33), (7, v47), (9, v63), (67, .bool ((((q21.2 != (0 : Int)) || (q35.2 != (0 : Int))) || (q51.2 != (0 : Int))) || ((q35.1.length : Int) != ((([] : List Bool) ++ ((l0.drop 0).take (((imin (l0.length : Int) (32768 : Int))).toNat - 0))).length : Int))))] ∧ Hp S w0 w (Res.sl Ek.bool 4 v9 (([] : List Bool) ++ ((l0.drop 0).take (((imin (l0.length : Int) (32768 : Int))).toNat - 0))) :: Res.sl Ek.bool 4 v49 ([true]) :: Res.sl Ek.bool 4 v63 q51.1 :: Res.sl Ek.bool 4 v33 q21.1 :: Res.sl Ek.bool 4 v20 ((([] : List Bool) ++ ((keep1.drop 0).take (((imin (keep1.length : Int) (63 : Int))).toNat - 0))) ++ [true]) :: Res.sl (Ek.int .u8) 51 v47 q35.1 :: Res.sl Ek.bool 4 v17 ([true]) :: ow)) ?_ ?_
  · rcases Bool.eq_false_or_eq_true (((q21.2 != (0 : Int)) || (q35.2 != (0 : Int))) || (q51.2 != (0 : Int))) with hb70 | hb70
    · skip
      refine st_skip hf (wantN hf rfl rfl hb70) rfl (by decide) ?_ rfl
      clear hf; intro a hf
      refine st_skip hf (wantN hf rfl rfl hb70) rfl (by decide) ?_ rfl
      clear hf; intro a hf
      refine st_skip hf (wantN hf rfl rfl hb70) rfl (by decide) ?_ rfl
      clear hf; intro a hf
      refine st_skip hf (wantN hf rfl rfl hb70) rfl (by decide) ?_ rfl
      clear hf; intro a hf
      refine st_skip hf (wantN hf rfl rfl hb70) rfl (by decide) ?_ rfl
      clear hf; intro a hf
      refine st_pick (v := .bool true) hf rfl rfl (fun hb' => ?_) (fun hb' => ?_) (by decide) ?_
      · rfl
      · exact absurd (hb70.symm.trans hb') (by decide)
      clear hf; intro a ha hf; clear ha
      refine st_nil hf (th_n ?_)
      exact ⟨hf.sub ⟨rfl, rfl, rfl, rfl, rfl, (by rw [hb70]; rfl), trivial⟩, hp⟩
    refine st_move hf (wantY hf rfl rfl hb70) rfl (by decide) ?_
    clear hf; intro a ha hf; clear ha
    refine st_len (E := (Ek.int .u8)) hf (by decide) Try.underlying26 (wantY hf rfl rfl hb70) rfl (hp.sl (i := 5) rfl) ?_
    clear hf; intro a ha hf; clear ha
    refine st_move hf (wantY hf rfl rfl hb70) rfl (by decide) ?_
    clear hf; intro a ha hf; clear ha
    refine st_len (E := Ek.bool) hf (by decide) Try.underlying22 (wantY hf rfl rfl hb70) rfl (hp.sl (i := 0) rfl) ?_
    clear hf; intro a ha hf; clear ha
    refine st_ineq hf (by decide) (wantY hf rfl rfl hb70) rfl rfl ?_
    clear hf; intro a ha hf; clear ha
    refine st_pick (v := .bool ((q35.1.length : Int) != ((([] : List Bool) ++ ((l0.drop 0).take (((imin (l0.length : Int) (32768 : Int))).toNat - 0))).length : Int))) hf rfl rfl (fun hb' => ?_) (fun hb' => ?_) (by decide) ?_
    · exact absurd (hb70.symm.trans hb') (by decide)
    · rfl
    clear hf; intro a ha hf; clear ha
    refine st_nil hf (th_n ?_)
    exact ⟨hf.sub ⟨rfl, rfl, rfl, rfl, rfl, (by rw [hb70]; rfl), trivial⟩, hp⟩
  rintro a w ⟨hf, hp⟩
  refine st_move hf rfl rfl (by decide) ?_
  clear hf; intro a ha hf; clear ha
  obtain ⟨z73, hz71, h⟩ := bnd h
  refine wpList_cut 5 (fun a w => Fr 105 a [(0, v9), (1, v20), (5, v33), (7, v47), (73, .bool z73)] ∧ Hp S w0 w (Res.sl Ek.bool 4 v9 (([] : List Bool) ++ ((l0.drop 0).take (((imin (l0.length : Int) (32768 : Int))).toNat - 0))) :: Res.sl Ek.bool 4 v49 ([true]) :: Res.sl Ek.bool 4 v63 q51.1 :: Res.sl Ek.bool 4 v33 q21.1 :: Res.sl Ek.bool 4 v20 ((([] : List Bool) ++ ((keep1.drop 0).take (((imin (keep1.length : Int) (63 : Int))).toNat - 0))) ++ [true]) :: Res.sl (Ek.int .u8) 51 v47 q35.1 :: Res.sl Ek.bool 4 v17 ([true]) :: ow)) ?_ ?_
  · rcases Bool.eq_false_or_eq_true ((((q21.2 != (0 : Int)) || (q35.2 != (0 : Int))) || (q51.2 != (0 : Int))) || ((q35.1.length : Int) != ((([] : List Bool) ++ ((l0.drop 0).take (((imin (l0.length : Int) (32768 : Int))).toNat - 0))).length : Int))) with hb72 | hb72
    · skip
      replace hz71 := ifT hz71 hb72
      refine st_skip hf (wantN hf rfl rfl hb72) rfl (by decide) ?_ rfl
      clear hf; intro a hf
      refine st_skip hf (wantN hf rfl rfl hb72) rfl (by decide) ?_ rfl
      clear hf; intro a hf
      refine st_skip hf (wantN hf rfl rfl hb72) rfl (by decide) ?_ rfl
      clear hf; intro a hf
      refine st_skip hf (wantN hf rfl rfl hb72) rfl (by decide) ?_ rfl
      clear hf; intro a hf
      obtain rfl := Option.some.inj hz71
      refine st_pick (v := .bool true) hf rfl rfl (fun hb' => ?_) (fun hb' => ?_) (by decide) ?_
      · rfl
      · exact absurd (hb72.symm.trans hb') (by decide)
      clear hf; intro a ha hf; clear ha
      refine st_nil hf (th_n ?_)
      exact ⟨hf.sub ⟨rfl, rfl, rfl, rfl, rfl, trivial⟩, hp⟩
    replace hz71 := ifF hz71 hb72
    refine st_move hf (wantY hf rfl rfl hb72) rfl (by decide) ?_
    clear hf; intro a ha hf; clear ha
    refine st_move hf (wantY hf rfl rfl hb72) rfl (by decide) ?_
    clear hf; intro a ha hf; clear ha
    obtain ⟨q74, hcall75, hz71⟩ := bnd hz71
    obtain ⟨S76, hp77, rd78, up79, bk80⟩ := Hp.lendS hp (i := 2) rfl
    obtain ⟨S81, hp82, rd83, up84, bk85⟩ := Hp.lendS hp77 (i := 0) rfl
    refine st_call hf (by decide) Try.func13 rfl rfl (wantY hf rfl rfl hb72) rfl rfl (f_foghornlaw22_sameBits_c hp82 _ _ ((rd78.now hp77).mono up84) _ _ rd83 hcall75) ?_
    rintro _ w ⟨rfl, hp0⟩
    have hp0 := bk85 _ _ hp0
    have hp0 := bk80 _ _ hp0
    clear hp; have hp := hp0; clear hp0
    replace hp : Hp _ _ _ (Res.sl Ek.bool 4 v63 q51.1 :: Res.sl Ek.bool 4 v9 (([] : List Bool) ++ ((l0.drop 0).take (((imin (l0.length : Int) (32768 : Int))).toNat - 0))) :: Res.sl Ek.bool 4 v49 ([true]) :: Res.sl Ek.bool 4 v33 q21.1 :: Res.sl Ek.bool 4 v20 ((([] : List Bool) ++ ((keep1.drop 0).take (((imin (keep1.length : Int) (63 : Int))).toNat - 0))) ++ [true]) :: Res.sl (Ek.int .u8) 51 v47 q35.1 :: Res.sl Ek.bool 4 v17 ([true]) :: ow) := hp
    refine ⟨_, rfl, ?_⟩
    clear hf; intro a hf
    refine st_not hf (by decide) (wantY hf rfl rfl hb72) rfl ?_
    clear hf; intro a ha hf; clear ha
    obtain rfl := Option.some.inj hz71
    refine st_pick (v := .bool (!q74)) hf rfl rfl (fun hb' => ?_) (fun hb' => ?_) (by decide) ?_
    · exact absurd (hb72.symm.trans hb') (by decide)
    · rfl
    clear hf; intro a ha hf; clear ha
    refine st_nil hf (th_n ?_)
    have hp : Hp _ _ _ (Res.sl Ek.bool 4 v9 (([] : List Bool) ++ ((l0.drop 0).take (((imin (l0.length : Int) (32768 : Int))).toNat - 0))) :: Res.sl Ek.bool 4 v49 ([true]) :: Res.sl Ek.bool 4 v63 q51.1 :: Res.sl Ek.bool 4 v33 q21.1 :: Res.sl Ek.bool 4 v20 ((([] : List Bool) ++ ((keep1.drop 0).take (((imin (keep1.length : Int) (63 : Int))).toNat - 0))) ++ [true]) :: Res.sl (Ek.int .u8) 51 v47 q35.1 :: Res.sl Ek.bool 4 v17 ([true]) :: ow) := Hp.sel (pre := [Res.sl Ek.bool 4 v63 q51.1, Res.sl Ek.bool 4 v9 (([] : List Bool) ++ ((l0.drop 0).take (((imin (l0.length : Int) (32768 : Int))).toNat - 0))), Res.sl Ek.bool 4 v49 ([true]), Res.sl Ek.bool 4 v33 q21.1, Res.sl Ek.bool 4 v20 ((([] : List Bool) ++ ((keep1.drop 0).take (((imin (keep1.length : Int) (63 : Int))).toNat - 0))) ++ [true]), Res.sl (Ek.int .u8) 51 v47 q35.1, Res.sl Ek.bool 4 v17 ([true])]) (tail := ow) (rs' := [Res.sl Ek.bool 4 v9 (([] : List Bool) ++ ((l0.drop 0).take (((imin (l0.length : Int) (32768 : Int))).toNat - 0))), Res.sl Ek.bool 4 v49 ([true]), Res.sl Ek.bool 4 v63 q51.1, Res.sl Ek.bool 4 v33 q21.1, Res.sl Ek.bool 4 v20 ((([] : List Bool) ++ ((keep1.drop 0).take (((imin (keep1.length : Int) (63 : Int))).toNat - 0))) ++ [true]), Res.sl (Ek.int .u8) 51 v47 q35.1, Res.sl Ek.bool 4 v17 ([true])]) hp [1, 2, 0, 3, 4, 5, 6] (by decide) (by simp) rfl
    exact ⟨hf.sub ⟨rfl, rfl, rfl, rfl, rfl, trivial⟩, hp⟩
  rintro a w ⟨hf, hp⟩
  refine st_move hf rfl rfl (by decide) ?_
  clear hf; intro a ha hf; clear ha
  refine wpList_cut 6 (fun a w => Fr 105 a [(0, v9), (1, v20), (7, v47), (80, .bool (z73 || (decide (((([] : List Bool) ++ ((l0.drop 0).take (((imin (l0.length : Int) (32768 : Int))).toNat - 0))).length : Int) < (q21.1.length : Int)))))] ∧ Hp S w0 w (Res.sl Ek.bool 4 v9 (([] : List Bool) ++ ((l0.drop 0).take (((imin (l0.length : Int) (32768 : Int))).toNat - 0))) :: Res.sl Ek.bool 4 v49 ([true]) :: Res.sl Ek.bool 4 v63 q51.1 :: Res.sl Ek.bool 4 v33 q21.1 :: Res.sl Ek.bool 4 v20 ((([] : List Bool) ++ ((keep1.drop 0).take (((imin (keep1.length : Int) (63 : Int))).toNat - 0))) ++ [true]) :: Res.sl (Ek.int .u8) 51 v47 q35.1 :: Res.sl Ek.bool 4 v17 ([true]) :: ow)) ?_ ?_
  · rcases Bool.eq_false_or_eq_true z73 with hb87 | hb87
    · skip
      refine st_skip hf (wantN hf rfl rfl hb87) rfl (by decide) ?_ rfl
      clear hf; intro a hf
      refine st_skip hf (wantN hf rfl rfl hb87) rfl (by decide) ?_ rfl
      clear hf; intro a hf
      refine st_skip hf (wantN hf rfl rfl hb87) rfl (by decide) ?_ rfl
      clear hf; intro a hf
      refine st_skip hf (wantN hf rfl rfl hb87) rfl (by decide) ?_ rfl
      clear hf; intro a hf
      refine st_skip hf (wantN hf rfl rfl hb87) rfl (by decide) ?_ rfl
      clear hf; intro a hf
      refine st_pick (v := .bool true) hf rfl rfl (fun hb' => ?_) (fun hb' => ?_) (by decide) ?_
      · rfl
      · exact absurd (hb87.symm.trans hb') (by decide)
      clear hf; intro a ha hf; clear ha
      refine st_nil hf (th_n ?_)
      exact ⟨hf.sub ⟨rfl, rfl, rfl, (by rw [hb87]; rfl), trivial⟩, hp⟩
    refine st_move hf (wantY hf rfl rfl hb87) rfl (by decide) ?_
    clear hf; intro a ha hf; clear ha
    refine st_len (E := Ek.bool) hf (by decide) Try.underlying22 (wantY hf rfl rfl hb87) rfl (hp.sl (i := 3) rfl) ?_
    clear hf; intro a ha hf; clear ha
    refine st_move hf (wantY hf rfl rfl hb87) rfl (by decide) ?_
    clear hf; intro a ha hf; clear ha
    refine st_len (E := Ek.bool) hf (by decide) Try.underlying22 (wantY hf rfl rfl hb87) rfl (hp.sl (i := 0) rfl) ?_
    clear hf; intro a ha hf; clear ha
    refine st_igtr hf (by decide) (wantY hf rfl rfl hb87) rfl rfl ?_
    clear hf; intro a ha hf; clear ha
    refine st_pick (v := .bool (decide (((([] : List Bool) ++ ((l0.drop 0).take (((imin (l0.length : Int) (32768 : Int))).toNat - 0))).length : Int) < (q21.1.length : Int)))) hf rfl rfl (fun hb' => ?_) (fun hb' => ?_) (by decide) ?_
    · exact absurd (hb87.symm.trans hb') (by decide)
    · rfl
    clear hf; intro a ha hf; clear ha
    refine st_nil hf (th_n ?_)
    exact ⟨hf.sub ⟨rfl, rfl, rfl, (by rw [hb87]; rfl), trivial⟩, hp⟩
  rintro a w ⟨hf, hp⟩
  refine st_nil hf ?_
  refine th_n ?_
  refine wp_if hf rfl (fun hb => ?_) (fun hb => ?_)
  · replace h := ifT h hb
    refine wp_seq ?_
    refine wp_reg ?_
    refine st_assign hf rfl rfl (by decide) ?_
    clear hf; intro a ha hf; clear ha
    refine st_nil hf ?_
    refine th_n ?_
    refine wp_ret ?_
    refine th_r ?_
    obtain rfl := Option.some.inj h
    have hp : Hp _ _ _ (ow) := Hp.sel (pre := [Res.sl Ek.bool 4 v9 (([] : List Bool) ++ ((l0.drop 0).take (((imin (l0.length : Int) (32768 : Int))).toNat - 0))), Res.sl Ek.bool 4 v49 ([true]), Res.sl Ek.bool 4 v63 q51.1, Res.sl Ek.bool 4 v33 q21.1, Res.sl Ek.bool 4 v20 ((([] : List Bool) ++ ((keep1.drop 0).take (((imin (keep1.length : Int) (63 : Int))).toNat - 0))) ++ [true]), Res.sl (Ek.int .u8) 51 v47 q35.1, Res.sl Ek.bool 4 v17 ([true])]) (tail := ow) (rs' := []) hp [] (by decide) (by simp) rfl
    exact ⟨rfl, ⟨hf.sub ⟨rfl, trivial⟩, hp⟩⟩
  replace h := ifF h hb
  refine wp_skip ?_
  refine th_n ?_
  refine wp_seq ?_
  refine wp_seq ?_
  refine wp_reg ?_
  refine st_assign hf rfl rfl (by decide) ?_
  clear hf; intro a ha hf; clear ha
  refine st_nil hf ?_
  refine th_n ?_
  refine wp_block ?_
  obtain ⟨q92, hl, h⟩ := bnd h
  have hp : Hp _ _ _ (Res.sl Ek.bool 4 v9 (([] : List Bool) ++ ((l0.drop 0).take (((imin (l0.length : Int) (32768 : Int))).toNat - 0))) :: Res.sl Ek.bool 4 v20 ((([] : List Bool) ++ ((keep1.drop 0).take (((imin (keep1.length : Int) (63 : Int))).toNat - 0))) ++ [true]) :: Res.sl (Ek.int .u8) 51 v47 q35.1 :: ow) := Hp.sel (pre := [Res.sl Ek.bool 4 v9 (([] : List Bool) ++ ((l0.drop 0).take (((imin (l0.length : Int) (32768 : Int))).toNat - 0))), Res.sl Ek.bool 4 v49 ([true]), Res.sl Ek.bool 4 v63 q51.1, Res.sl Ek.bool 4 v33 q21.1, Res.sl Ek.bool 4 v20 ((([] : List Bool) ++ ((keep1.drop 0).take (((imin (keep1.length : Int) (63 : Int))).toNat - 0))) ++ [true]), Res.sl (Ek.int .u8) 51 v47 q35.1, Res.sl Ek.bool 4 v17 ([true])]) (tail := ow) (rs' := [Res.sl Ek.bool 4 v9 (([] : List Bool) ++ ((l0.drop 0).take (((imin (l0.length : Int) (32768 : Int))).toNat - 0))), Res.sl Ek.bool 4 v20 ((([] : List Bool) ++ ((keep1.drop 0).take (((imin (keep1.length : Int) (63 : Int))).toNat - 0))) ++ [true]), Res.sl (Ek.int .u8) 51 v47 q35.1]) hp [0, 4, 5] (by decide) (by simp) rfl
  refine wp_loop_pure (f := (f_foghornlaw22_HardThinned.s1 l0 keep1 q35)) (s := (0 : Int)) (fun s a w => Fr 105 a [(0, v9), (1, v20), (7, v47), (11, .int .i64 s)] ∧ Hp S w0 w (Res.sl Ek.bool 4 v9 (([] : List Bool) ++ ((l0.drop 0).take (((imin (l0.length : Int) (32768 : Int))).toNat - 0))) :: Res.sl Ek.bool 4 v20 ((([] : List Bool) ++ ((keep1.drop 0).take (((imin (keep1.length : Int) (63 : Int))).toNat - 0))) ++ [true]) :: Res.sl (Ek.int .u8) 51 v47 q35.1 :: ow)) (fun q e a w => match q with | (Sum.inl q) => e = .exit 0 ∧ Fr 105 a [] ∧ Hp S w0 w (ow) | (Sum.inr q) => e = .ret ∧ Fr 105 a [(4, .bool q)] ∧ Hp S w0 w (ow)) ?_ hl ⟨hf.sub ⟨rfl, rfl, rfl, rfl, trivial⟩, hp⟩ ?_
  · clear hl hf hp
    intro s x a w h hI
    obtain ⟨i11, hs⟩ : ∃ z, z = s := ⟨s, rfl⟩; subst hs
    obtain ⟨hf, hp⟩ : Fr 105 a [(0, v9), (1, v20), (7, v47), (11, .int .i64 i11)] ∧ Hp S w0 w (Res.sl Ek.bool 4 v9 (([] : List Bool) ++ ((l0.drop 0).take (((imin (l0.length : Int) (32768 : Int))).toNat - 0))) :: Res.sl Ek.bool 4 v20 ((([] : List Bool) ++ ((keep1.drop 0).take (((imin (keep1.length : Int) (63 : Int))).toNat - 0))) ++ [true]) :: Res.sl (Ek.int .u8) 51 v47 q35.1 :: ow) := hI
    replace h : f_foghornlaw22_HardThinned.s1c l0 keep1 q35 i11 = some x := h
    unfold f_foghornlaw22_HardThinned.s1c at h
    refine wp_seq ?_
    refine wp_seq ?_
    refine wp_reg ?_
    refine st_move hf rfl rfl (by decide) ?_
    clear hf; intro a ha hf; clear ha
    refine st_move hf rfl rfl (by decide) ?_
    clear hf; intro a ha hf; clear ha
    refine st_len (E := Ek.bool) hf (by decide) Try.underlying22 rfl rfl (hp.sl (i := 0) rfl) ?_
    clear hf; intro a ha hf; clear ha
    refine st_ilss hf (by decide) rfl rfl rfl ?_
    clear hf; intro a ha hf; clear ha
    refine st_nil hf ?_
    refine th_n ?_
    refine wp_if hf rfl (fun hb => ?_) (fun hb => ?_)
    · replace h := ifT h hb
      refine wp_skip ?_
      refine th_n ?_
      refine wp_seq ?_
      refine wp_block ?_
      refine wp_seq ?_
      refine wp_reg ?_
      refine st_assign hf rfl rfl (by decide) ?_
      clear hf; intro a ha hf; clear ha
      refine st_nil hf ?_
      refine th_n ?_
      refine wp_seq_cut (fun a w => ∃ (want12 : Int), f_foghornlaw22_HardThinned.j1 keep1 q35 i11 want12 = some x ∧ Fr 105 a [(0, v9), (1, v20), (7, v47), (11, .int .i64 i11), (12, .int .u8 want12)] ∧ Hp S w0 w (Res.sl Ek.bool 4 v9 (([] : List Bool) ++ ((l0.drop 0).take (((imin (l0.length : Int) (32768 : Int))).toNat - 0))) :: Res.sl Ek.bool 4 v20 ((([] : List Bool) ++ ((keep1.drop 0).take (((imin (keep1.length : Int) (63 : Int))).toNat - 0))) ++ [true]) :: Res.sl (Ek.int .u8) 51 v47 q35.1 :: ow)) ?_ ?_
      · skip
        refine wp_seq ?_
        refine wp_reg ?_
        refine st_move hf rfl rfl (by decide) ?_
        clear hf; intro a ha hf; clear ha
        refine st_move hf rfl rfl (by decide) ?_
        clear hf; intro a ha hf; clear ha
        obtain ⟨hc91, h⟩ := chk h
        refine st_index (E := Ek.bool) hf (by decide) Try.underlying22 elt4 rfl rfl rfl (hp.sl (i := 0) rfl) hc91.1 hc91.2 ?_
        clear hf; intro a ha hf; clear ha
        refine st_ldB hf (by decide) pl4 rfl rfl (hp.sl (i := 0) rfl) hc91.1 hc91.2 ?_
        clear hf; intro a ha hf; clear ha
        refine st_nil hf ?_
        refine th_n ?_
        refine wp_if hf rfl (fun hb => ?_) (fun hb => ?_)
        · replace h := ifT h hb
          refine wp_reg ?_
          refine st_assign hf rfl rfl (by decide) ?_
          clear hf; intro a ha hf; clear ha
          refine st_nil hf ?_
          refine th_n ?_
          exact ⟨_, h, hf.sub ⟨rfl, rfl, rfl, rfl, rfl, trivial⟩, hp⟩
        replace h := ifF h hb
        refine wp_skip ?_
        refine th_n ?_
        exact ⟨_, h, hf.sub ⟨rfl, rfl, rfl, rfl, rfl, trivial⟩, hp⟩
      rintro a w ⟨want12, h, hf, hp⟩
      unfold f_foghornlaw22_HardThinned.j1 at h
      refine wp_seq_cut (fun a w => ∃ (want12 : Int), f_foghornlaw22_HardThinned.j2 q35 i11 want12 = some x ∧ Fr 105 a [(0, v9), (1, v20), (7, v47), (11, .int .i64 i11), (12, .int .u8 want12)] ∧ Hp S w0 w (Res.sl Ek.bool 4 v9 (([] : List Bool) ++ ((l0.drop 0).take (((imin (l0.length : Int) (32768 : Int))).toNat - 0))) :: Res.sl Ek.bool 4 v20 ((([] : List Bool) ++ ((keep1.drop 0).take (((imin (keep1.length : Int) (63 : Int))).toNat - 0))) ++ [true]) :: Res.sl (Ek.int .u8) 51 v47 q35.1 :: ow)) ?_ ?_
      · skip
        refine wp_seq ?_
        refine wp_reg ?_
        refine st_move hf rfl rfl (by decide) ?_
        clear hf; intro a ha hf; clear ha
        refine st_move hf rfl rfl (by decide) ?_
        clear hf; intro a ha hf; clear ha
        refine st_move hf rfl rfl (by decide) ?_
        clear hf; intro a ha hf; clear ha
        refine st_len (E := Ek.bool) hf (by decide) Try.underlying22 rfl rfl (hp.sl (i := 1) rfl) ?_
        clear hf; intro a ha hf; clear ha
        obtain ⟨hc89, h⟩ := chk h
        refine st_irem hf (by decide) rfl rfl rfl hc89 ?_
        clear hf; intro a ha hf; clear ha
        obtain ⟨hc90, h⟩ := chk h
        refine st_index (E := Ek.bool) hf (by decide) Try.underlying22 elt4 rfl rfl rfl (hp.sl (i := 1) rfl) hc90.1 hc90.2 ?_
        clear hf; intro a ha hf; clear ha
        refine st_ldB hf (by decide) pl4 rfl rfl (hp.sl (i := 1) rfl) hc90.1 hc90.2 ?_
        clear hf; intro a ha hf; clear ha
        refine st_not hf (by decide) rfl rfl ?_
        clear hf; intro a ha hf; clear ha
        refine st_nil hf ?_
        refine th_n ?_
        refine wp_if hf rfl (fun hb => ?_) (fun hb => ?_)
        · replace h := ifT h hb
          refine wp_reg ?_
          refine st_assign hf rfl rfl (by decide) ?_
          clear hf; intro a ha hf; clear ha
          refine st_nil hf ?_
          refine th_n ?_
          exact ⟨_, h, hf.sub ⟨rfl, rfl, rfl, rfl, rfl, trivial⟩, hp⟩
        replace h := ifF h hb
        refine wp_skip ?_
        refine th_n ?_
        exact ⟨_, h, hf.sub ⟨rfl, rfl, rfl, rfl, rfl, trivial⟩, hp⟩
      rintro a w ⟨want12, h, hf, hp⟩
      unfold f_foghornlaw22_HardThinned.j2 at h
      refine wp_seq ?_
      refine wp_reg ?_
      refine st_move hf rfl rfl (by decide) ?_
      clear hf; intro a ha hf; clear ha
      refine st_move hf rfl rfl (by decide) ?_
      clear hf; intro a ha hf; clear ha
      obtain ⟨hc88, h⟩ := chk h
      refine st_index (E := (Ek.int .u8)) hf (by decide) Try.underlying26 elt51 rfl rfl rfl (hp.sl (i := 2) rfl) hc88.1 hc88.2 ?_
      clear hf; intro a ha hf; clear ha
      refine st_ldI hf (by decide) pl51 rfl rfl (hp.sl (i := 2) rfl) hc88.1 hc88.2 ?_
      clear hf; intro a ha hf; clear ha
      refine st_move hf rfl rfl (by decide) ?_
      clear hf; intro a ha hf; clear ha
      refine st_ineq hf (by decide) rfl rfl rfl ?_
      clear hf; intro a ha hf; clear ha
      refine st_nil hf ?_
      refine th_n ?_
      refine wp_if hf rfl (fun hb => ?_) (fun hb => ?_)
      · replace h := ifT h hb
        refine wp_seq ?_
        refine wp_reg ?_
        refine st_assign hf rfl rfl (by decide) ?_
        clear hf; intro a ha hf; clear ha
        refine st_nil hf ?_
        refine th_n ?_
        refine wp_ret ?_
        refine ib_r ?_
        refine th_r ?_
        obtain rfl := Option.some.inj h
        have hp : Hp _ _ _ (ow) := Hp.sel (pre := [Res.sl Ek.bool 4 v9 (([] : List Bool) ++ ((l0.drop 0).take (((imin (l0.length : Int) (32768 : Int))).toNat - 0))), Res.sl Ek.bool 4 v20 ((([] : List Bool) ++ ((keep1.drop 0).take (((imin (keep1.length : Int) (63 : Int))).toNat - 0))) ++ [true]), Res.sl (Ek.int .u8) 51 v47 q35.1]) (tail := ow) (rs' := []) hp [] (by decide) (by simp) rfl
        exact rnd_r (by simp) ⟨rfl, ⟨hf.sub ⟨rfl, trivial⟩, hp⟩⟩
      replace h := ifF h hb
      refine wp_skip ?_
      refine ib_n ?_
      refine th_n ?_
      refine wp_reg ?_
      refine st_move hf rfl rfl (by decide) ?_
      clear hf; intro a ha hf; clear ha
      refine st_iadd hf (by decide) rfl rfl rfl ?_
      clear hf; intro a ha hf; clear ha
      refine st_assign hf rfl rfl (by decide) ?_
      clear hf; intro a ha hf; clear ha
      refine st_nil hf ?_
      obtain rfl := Option.some.inj h
      exact rnd_l ⟨hf.sub ⟨rfl, rfl, rfl, rfl, trivial⟩, hp⟩
    replace h := ifF h hb
    refine wp_exit ?_
    refine th_e ?_
    obtain rfl := Option.some.inj h
    have hp : Hp _ _ _ (ow) := Hp.sel (pre := [Res.sl Ek.bool 4 v9 (([] : List Bool) ++ ((l0.drop 0).take (((imin (l0.length : Int) (32768 : Int))).toNat - 0))), Res.sl Ek.bool 4 v20 ((([] : List Bool) ++ ((keep1.drop 0).take (((imin (keep1.length : Int) (63 : Int))).toNat - 0))) ++ [true]), Res.sl (Ek.int .u8) 51 v47 q35.1]) (tail := ow) (rs' := []) hp [] (by decide) (by simp) rfl
    exact rnd_r (by simp) ⟨rfl, hf.sub trivial, hp⟩
  clear hl hf hp
  intro e a w hne hO
  rcases q92 with q93 | q94
  · replace h := smL h
    obtain ⟨rfl, hf, hp⟩ := hO
    refine ib_same ?_
    refine th_n ?_
    refine wp_seq ?_
    refine wp_reg ?_
    refine st_assign hf rfl rfl (by decide) ?_
    clear hf; intro a ha hf; clear ha
    refine st_nil hf ?_
    refine th_n ?_
    refine wp_ret ?_
    obtain rfl := Option.some.inj h
    exact ⟨rfl, ⟨hf.sub ⟨rfl, trivial⟩, hp⟩⟩
  replace h := smR h
  obtain ⟨rfl, hf, hp⟩ := hO
  refine ib_r ?_
  refine th_r ?_
  obtain rfl := Option.some.inj h
  exact ⟨rfl, ⟨hf.sub ⟨rfl, trivial⟩, hp⟩⟩

noncomputable def f_foghornlaw22_HardNames.s1c (gone1 : (List Int)) (i2 : Int) : Option (((List Int) × Int) ⊕ (List Int)) := (if (decide (i2 < (gone1.length : Int))) = true then (if 0 ≤ i2 ∧ i2 < (gone1.length : Int) then (some (Sum.inl ((gone1.set (i2).toNat (2 : Int)), (IntKind.i64.wrap (i2 + (1 : Int)))))) else none) else (some (Sum.inr gone1)))
noncomputable def f_foghornlaw22_HardNames.s1  (s : ((List Int) × Int)) : Option (((List Int) × Int) ⊕ (List Int)) := f_foghornlaw22_HardNames.s1c s.1 s.2
noncomputable def f_foghornlaw22_HardNames.s2c (q23 : ((List Bool) × Int × Int)) (i24 : Int) : Option (Int ⊕ (Unit ⊕ Bool)) := (if (decide (i24 < (q23.1.length : Int))) = true then (if 0 ≤ i24 ∧ i24 < (q23.1.length : Int) then (if (gt q23.1 i24) = true then (some (Sum.inr (Sum.inr false))) else (some (Sum.inl (IntKind.i64.wrap (i24 + (1 : Int)))))) else none) else (some (Sum.inr (Sum.inl ()))))
noncomputable def f_foghornlaw22_HardNames.s2 (q23 : ((List Bool) × Int × Int)) (s : Int) : Option (Int ⊕ (Unit ⊕ Bool)) := f_foghornlaw22_HardNames.s2c q23 s
noncomputable def f_foghornlaw22_HardNames  : Option Bool := ((f_foghornlaw22_works).bind fun q1 => (if (!q1) = true then (some false) else (if 0 ≤ (32770 : Int) ∧ (32770 : Int) ≤ (32770 : Int) ∧ (32770 : Int) * 1 ≤ 281474976710656 then ((loop f_foghornlaw22_HardNames.s1 ((mk0 (32770 : Int) (0 : Int)), (0 : Int))).bind (fun q11 => ((f_foghornlaw22_short).bind fun q18 => (if 0 ≤ (32768 : Int) ∧ (32768 : Int) ≤ (q11.length : Int) then ((f_hard_Path q18.1 q18.2.1 q18.2.2 ((q11.drop 0).take (((32768 : Int)).toNat - 0))).bind fun q23 => ((f_foghornlaw22_short).bind fun q27 => ((f_hard_Path q27.1 q27.2.1 q27.2.2 q11).bind fun q29 => ((f_foghornlaw22_short).bind fun q44 => (if 0 ≤ (2 : Int) ∧ (2 : Int) ≤ (q11.length : Int) then ((f_hard_Path q44.1 q44.2.1 q44.2.2 ((q11.drop 0).take (((2 : Int)).toNat - 0))).bind fun q49 => ((f_foghornlaw22_short).bind fun q59 => (if 0 ≤ (4 : Int) ∧ (4 : Int) ≤ (q11.length : Int) then ((f_hard_Path q59.1 q59.2.1 q59.2.2 ((q11.drop 0).take (((4 : Int)).toNat - 0))).bind fun q64 => ((f_foghornlaw22_short).bind fun q74 => (if 0 ≤ (5 : Int) ∧ (5 : Int) ≤ (q11.length : Int) then ((f_hard_Path q74.1 q74.2.1 q74.2.2 ((q11.drop 0).take (((5 : Int)).toNat - 0))).bind fun q79 => (if 0 ≤ (6 : Int) ∧ (6 : Int) ≤ (q11.length : Int) then ((f_hard_Path (3 : Int) (3 : Int) (3 : Int) ((q11.drop 0).take (((6 : Int)).toNat - 0))).bind fun q86 => (if 0 ≤ (0 : Int) ∧ (0 : Int) < (q11.length : Int) then ((f_foghornlaw22_short).bind fun q102 => (if 0 ≤ (6 : Int) ∧ (6 : Int) ≤ ((q11.set ((0 : Int)).toNat (3 : Int)).length : Int) then ((f_hard_Path q102.1 q102.2.1 q102.2.2 (((q11.set ((0 : Int)).toNat (3 : Int)).drop 0).take (((6 : Int)).toNat - 0))).bind fun q107 => (if ((((((((((q23.2.2 != (0 : Int)) || (q29.2.2 != (1 : Int))) || (q49.2.2 != (1 : Int))) || (q64.2.2 != (0 : Int))) || (q79.2.2 != (1 : Int))) || (q86.2.2 != (1 : Int))) || (q107.2.2 != (1 : Int))) || (q23.2.1 != (0 : Int))) || ((q23.1.length : Int) != (16382 : Int))) || ((q64.1.length : Int) != (0 : Int))) = true then (some false) else ((loop (f_foghornlaw22_HardNames.s2 q23) (0 : Int)).bind (fun q130 => sm q130 (fun q131 => (if 0 ≤ (65 : Int) ∧ (65 : Int) ≤ (65 : Int) ∧ (65 : Int) * 1 ≤ 281474976710656 then (if 0 ≤ (0 : Int) ∧ (0 : Int) < ((mk0 (65 : Int) false).length : Int) then ((f_hard_Thin ([]) ((mk0 (65 : Int) false).set ((0 : Int)).toNat true)).bind fun q137 => (if 0 ≤ (32768 : Int) ∧ (32768 : Int) ≤ (32768 : Int) ∧ (32768 : Int) * 1 ≤ 281474976710656 then (if 0 ≤ (64 : Int) ∧ (64 : Int) ≤ (((mk0 (65 : Int) false).set ((0 : Int)).toNat true).length : Int) then ((f_hard_Thin (mk0 (32768 : Int) false) ((((mk0 (65 : Int) false).set ((0 : Int)).toNat true).drop 0).take (((64 : Int)).toNat - 0))).bind fun q158 => (if 0 ≤ (32769 : Int) ∧ (32769 : Int) ≤ (32769 : Int) ∧ (32769 : Int) * 1 ≤ 281474976710656 then (if 0 ≤ (64 : Int) ∧ (64 : Int) ≤ (((mk0 (65 : Int) false).set ((0 : Int)).toNat true).length : Int) then ((f_hard_Thin (mk0 (32769 : Int) false) ((((mk0 (65 : Int) false).set ((0 : Int)).toNat true).drop 0).take (((64 : Int)).toNat - 0))).bind fun q179 => (if 0 ≤ (64 : Int) ∧ (64 : Int) ≤ (((mk0 (65 : Int) false).set ((0 : Int)).toNat true).length : Int) then ((f_hard_Fill q158.1 ((((mk0 (65 : Int) false).set ((0 : Int)).toNat true).drop 0).take (((64 : Int)).toNat - 0)) (32768 : Int)).bind fun q191 => (if 0 ≤ (1 : Int) ∧ (1 : Int) ≤ (2 : Int) ∧ (2 : Int) ≤ (((mk0 (65 : Int) false).set ((0 : Int)).toNat true).length : Int) then ((f_hard_Fill ([]) ((((mk0 (65 : Int) false).set ((0 : Int)).toNat true).drop (((1 : Int)).toNat)).take (((2 : Int)).toNat - ((1 : Int)).toNat)) (1 : Int)).bind fun q208 => ((f_hard_Fill ([]) ([]) (0 : Int)).bind fun q217 => (some ((((((((q137.2 == (1 : Int)) && (q158.2 == (0 : Int))) && (q179.2 == (1 : Int))) && (q191.2 == (0 : Int))) && (q208.2 == (1 : Int))) && (q217.2 == (1 : Int))) && ((q158.1.length : Int) == (512 : Int))) && ((q191.1.length : Int) == (32768 : Int)))))) else none)) else none)) else none) else none)) else none) else none)) else none) else none)) (fun q132 => (some q132)))))) else none)) else none)) else none)) else none))) else none))) else none))))) else none)))) else none)))
theorem f_foghornlaw22_HardNames_c {S : Nat → Prop} {w0 w : World} {ow : List Res} (hp : Hp S w0 w ow) {r : Bool} (h : f_foghornlaw22_HardNames = some r) :
    Calls Try.prog 6 #[] w (fun e w' => e = .returned (.bool r) ∧ Hp S w0 w' (ow)) := by
  unfold f_foghornlaw22_HardNames at h
  refine enter (n := 230) (args := []) Try.func6 rfl rfl (Nat.le_of_ble_eq_true rfl) fun a hf => ?_
  replace hf : Fr 230 a [] := hf
  refine wp_mono (Q := fun e a w => e = .ret ∧ Fr 230 a [(0, .bool r)] ∧ Hp S w0 w (ow)) ?_ ?_
  rotate_left
  · rintro e a w ⟨rfl, hf, hp⟩
    exact ret1 hf rfl rfl ⟨rfl, hp⟩
  refine wp_seq ?_
  refine wp_reg ?_
  refine st_assign hf rfl rfl (by decide) ?_
  clear hf; intro a ha hf; clear ha
  refine st_nil hf ?_
  refine th_n ?_
  refine wp_seq ?_
  refine wp_seq ?_
  refine wp_reg ?_
  obtain ⟨q1, hcall2, h⟩ := bnd h
  refine st_call hf (by decide) Try.func23 rfl rfl rfl rfl rfl (f_foghornlaw22_works_c hp  hcall2) ?_
  rintro _ w ⟨rfl, hp0⟩
  clear hp; have hp := hp0; clear hp0
  replace hp : Hp _ _ _ (ow) := hp
  refine ⟨_, rfl, ?_⟩
  clear hf; intro a hf
  refine st_not hf (by decide) rfl rfl ?_
  clear hf; intro a ha hf; clear ha
  refine st_move hf rfl rfl (by decide) ?_
  clear hf; intro a ha hf; clear ha
  refine st_pick (v := .bool (!q1)) hf rfl rfl (fun hb9 => by rw [hb9]; rfl) (fun hb9 => by rw [hb9]; rfl) (by decide) ?_
  clear hf; intro a ha hf; clear ha
  refine st_move hf rfl rfl (by decide) ?_
  clear hf; intro a ha hf; clear ha
  refine st_pick (v := .bool (!q1)) hf rfl rfl (fun hb9 => by rw [hb9]; rfl) (fun hb9 => by rw [hb9]; rfl) (by decide) ?_
  clear hf; intro a ha hf; clear ha
  refine st_move hf rfl rfl (by decide) ?_
  clear hf; intro a ha hf; clear ha
  refine st_pick (v := .bool (!q1)) hf rfl rfl (fun hb9 => by rw [hb9]; rfl) (fun hb9 => by rw [hb9]; rfl) (by decide) ?_
  clear hf; intro a ha hf; clear ha
  refine st_move hf rfl rfl (by decide) ?_
  clear hf; intro a ha hf; clear ha
  refine st_pick (v := .bool (!q1)) hf rfl rfl (fun hb9 => by rw [hb9]; rfl) (fun hb9 => by rw [hb9]; rfl) (by decide) ?_
  clear hf; intro a ha hf; clear ha
  refine st_move hf rfl rfl (by decide) ?_
  clear hf; intro a ha hf; clear ha
  refine st_pick (v := .bool (!q1)) hf rfl rfl (fun hb9 => by rw [hb9]; rfl) (fun hb9 => by rw [hb9]; rfl) (by decide) ?_
  clear hf; intro a ha hf; clear ha
  refine st_move hf rfl rfl (by decide) ?_
  clear hf; intro a ha hf; clear ha
  refine st_pick (v := .bool (!q1)) hf rfl rfl (fun hb9 => by rw [hb9]; rfl) (fun hb9 => by rw [hb9]; rfl) (by decide) ?_
  clear hf; intro a ha hf; clear ha
  refine st_nil hf ?_
  refine th_n ?_
  refine wp_if hf rfl (fun hb => ?_) (fun hb => ?_)
  · replace h := ifT h hb
    refine wp_seq ?_
    refine wp_reg ?_
    refine st_assign hf rfl rfl (by decide) ?_
    clear hf; intro a ha hf; clear ha
    refine st_nil hf ?_
    refine th_n ?_
    refine wp_ret ?_
    refine th_r ?_
    obtain rfl := Option.some.inj h
    exact ⟨rfl, ⟨hf.sub ⟨rfl, trivial⟩, hp⟩⟩
  replace h := ifF h hb
  refine wp_skip ?_
  refine th_n ?_
  refine wp_seq ?_
  refine wp_reg ?_
  obtain ⟨hc3, h⟩ := chk h
  refine st_make (E := (Ek.int .u8)) hf (by decide) elt51 Try.underlying26 (by decide) hp rfl rfl rfl hc3.1 hc3.2.1 hc3.2.2 ?_
  clear hf; intro a w v4 hf hp0; clear hp; have hp := hp0; clear hp0
  rw [← mk0_eq] at hp
  replace hp : Hp _ _ _ (Res.sl (Ek.int .u8) 51 v4 (mk0 (32770 : Int) (0 : Int)) :: ow) := hp
  refine st_assign hf rfl rfl (by decide) ?_
  clear hf; intro a ha hf; clear ha
  refine st_nil hf ?_
  refine th_n ?_
  refine wp_seq ?_
  refine wp_seq ?_
  refine wp_reg ?_
  refine st_assign hf rfl rfl (by decide) ?_
  clear hf; intro a ha hf; clear ha
  refine st_nil hf ?_
  refine th_n ?_
  refine wp_block ?_
  obtain ⟨q11, hl, h⟩ := bnd h
  refine wp_loop_pure (f := f_foghornlaw22_HardNames.s1) (s := ((mk0 (32770 : Int) (0 : Int)), (0 : Int))) (fun s a w => ∃ (v6 : Value), Fr 230 a [(1, v6), (2, .int .i64 s.2)] ∧ Hp S w0 w (Res.sl (Ek.int .u8) 51 v6 s.1 :: ow)) (fun q e a w => e = .exit 0 ∧ ∃ (v8 : Value), Fr 230 a [(1, v8)] ∧ Hp S w0 w (Res.sl (Ek.int .u8) 51 v8 q :: ow)) ?_ hl ⟨_, hf.sub ⟨rfl, rfl, trivial⟩, hp⟩ ?_
  · clear hl hf hp
    intro s x a w h hI
    obtain ⟨gone1, i2⟩ := s
    obtain ⟨v6, hf, hp⟩ : ∃ (v6 : Value), Fr 230 a [(1, v6), (2, .int .i64 i2)] ∧ Hp S w0 w (Res.sl (Ek.int .u8) 51 v6 gone1 :: ow) := hI
    replace h : f_foghornlaw22_HardNames.s1c gone1 i2 = some x := h
    unfold f_foghornlaw22_HardNames.s1c at h
    refine wp_seq ?_
    refine wp_seq ?_
    refine wp_reg ?_
    refine st_move hf rfl rfl (by decide) ?_
    clear hf; intro a ha hf; clear ha
    refine st_move hf rfl rfl (by decide) ?_
    clear hf; intro a ha hf; clear ha
    refine st_len (E := (Ek.int .u8)) hf (by decide) Try.underlying26 rfl rfl (hp.sl (i := 0) rfl) ?_
    clear hf; intro a ha hf; clear ha
    refine st_ilss hf (by decide) rfl rfl rfl ?_
    clear hf; intro a ha hf; clear ha
    refine st_nil hf ?_
    refine th_n ?_
    refine wp_if hf rfl (fun hb => ?_) (fun hb => ?_)
    · replace h := ifT h hb
      refine wp_skip ?_
      refine th_n ?_
      refine wp_seq ?_
      refine wp_block ?_
      refine wp_reg ?_
      refine st_move hf rfl rfl (by decide) ?_
      clear hf; intro a ha hf; clear ha
      refine st_move hf rfl rfl (by decide) ?_
      clear hf; intro a ha hf; clear ha
      obtain ⟨hc10, h⟩ := chk h
      refine st_index (E := (Ek.int .u8)) hf (by decide) Try.underlying26 elt51 rfl rfl rfl (hp.sl (i := 0) rfl) hc10.1 hc10.2 ?_
      clear hf; intro a ha hf; clear ha
      refine st_store (E := (Ek.int .u8)) hf elt51 hp (i := 0) rfl rfl rfl rfl rfl hc10.1 hc10.2 ?_
      clear hf; intro a w hf hp0; clear hp; have hp := hp0; clear hp0
      replace hp : Hp _ _ _ (Res.sl (Ek.int .u8) 51 v6 (gone1.set (i2).toNat (2 : Int)) :: ow) := hp
      refine st_nil hf ?_
      refine ib_n ?_
      refine th_n ?_
      refine wp_reg ?_
      refine st_move hf rfl rfl (by decide) ?_
      clear hf; intro a ha hf; clear ha
      refine st_iadd hf (by decide) rfl rfl rfl ?_
      clear hf; intro a ha hf; clear ha
      refine st_assign hf rfl rfl (by decide) ?_
      clear hf; intro a ha hf; clear ha
      refine st_nil hf ?_
      obtain rfl := Option.some.inj h
      exact rnd_l ⟨_, hf.sub ⟨rfl, rfl, trivial⟩, hp⟩
    replace h := ifF h hb
    refine wp_exit ?_
    refine th_e ?_
    obtain rfl := Option.some.inj h
    exact rnd_r (by simp) ⟨rfl, _, hf.sub ⟨rfl, trivial⟩, hp⟩
  clear hl hf hp
  intro e a w hne hO
  obtain ⟨rfl, v8, hf, hp⟩ := hO
  refine ib_same ?_
  refine th_n ?_
  refine wp_seq ?_
  obtain ⟨S12, hp13, rd14, up15, bk16⟩ := Hp.lendS hp (i := 0) rfl
  have rl17 := rd14
  obtain ⟨q18, hcall19, h⟩ := bnd h
  obtain ⟨hc20, h⟩ := chk h
  have hc21 : 0 ≤ ((32768 : Int)).toNat := by omega
  have hc22 : ((32768 : Int)).toNat ≤ q11.length := by omega
  obtain ⟨q23, hcall24, h⟩ := bnd h
  refine wp_cutN (fun a w => ∃ (v25 : Value), Fr 230 a [(1, v8), (3, v25), (4, .int .i64 q23.2.1), (5, .int .i64 q23.2.2)] ∧ Hp S w0 w (Res.sl (Ek.int .u8) 51 v8 q11 :: Res.sl Ek.bool 4 v25 q23.1 :: ow)) ?_ ?_
  · have hp := hp13.same (Same.drew w)
    refine dr_begin' (fun a w => ∃ (v25 : Value), Fr 230 a [(1, v8), (3, v25), (4, .int .i64 q23.2.1), (5, .int .i64 q23.2.2)] ∧ Hp S w0 w (Res.sl (Ek.int .u8) 51 v8 q11 :: Res.sl Ek.bool 4 v25 q23.1 :: ow)) (fun w' => ∃ l, Hp S12 w w' l) [] (by kernel_rfl) ?_
    refine dr_take 1 (v8) rfl (by kernel_rfl) (by kernel_rfl) (by kernel_rfl) (by kernel_rfl) rfl rfl hf (by decide) rfl (fun w hp => ?_) ⟨_, hp⟩ ?_
    · obtain ⟨_, hp⟩ := hp
      refine st_move hf rfl rfl (by decide) ?_
      clear hf; intro a ha hf
      exact st_nil hf (th_n ⟨ha, rfl⟩)
    clear hf; intro a hf
    refine dr_take 2 ((GL.cut v8 0 (((32768 : Int)).toNat) 1)) rfl (by kernel_rfl) (by kernel_rfl) (by kernel_rfl) (by kernel_rfl) rfl rfl hf (by decide) rfl (fun w hp => ?_) ⟨_, hp⟩ ?_
    · obtain ⟨_, hp⟩ := hp
      refine st_cutS (E := (Ek.int .u8)) hf (by decide) Try.underlying26 elt51 rfl rfl (rl17.sl hp) (.inl ⟨rfl, rfl⟩) (.inr ⟨_, _, rfl, evI rfl (by omega)⟩) hc21 hc22 ?_
      clear hf; intro a ha hf
      exact st_nil hf (th_n ⟨ha, rfl⟩)
    clear hf; intro a hf
    refine dr_one 0 rfl (by kernel_rfl) ?_
    refine st_call hf (by decide) Try.func26 rfl rfl rfl rfl rfl (f_foghornlaw22_short_c hp  hcall19) ?_
    rintro _ w ⟨rfl, hp0⟩
    clear hp; have hp := hp0; clear hp0
    replace hp : Hp _ _ _ (ow) := hp
    refine ⟨_, rfl, ?_⟩
    clear hf; intro a hf
    refine st_nil hf (th_n ⟨fun _ _ => ⟨_, hp⟩, ?_⟩)
    refine dr_one 3 rfl (by kernel_rfl) ?_
    refine st_call hf (by decide) Try.func19 rfl rfl rfl rfl rfl (f_hard_Path_c hp _ _ _ _ _ (RdS.cut rl17 hc21 hc22) hcall24) ?_
    rintro _ w ⟨v25, rfl, hp0⟩
    clear hp; have hp := hp0; clear hp0
    replace hp : Hp _ _ _ (Res.sl Ek.bool 4 v25 q23.1 :: ow) := hp
    refine ⟨_, rfl, ?_⟩
    clear hf; intro a hf
    refine st_nil hf (th_n ⟨fun _ _ => ⟨_, hp⟩, ?_⟩)
    refine dr_take 4 (.tuple #[v25, .int .i64 q23.2.1, .int .i64 q23.2.2]) rfl (by kernel_rfl) (by kernel_rfl) (by kernel_rfl) (by kernel_rfl) rfl rfl hf (by decide) rfl (fun w hp => ?_) ⟨_, hp⟩ ?_
    · obtain ⟨_, hp⟩ := hp
      refine st_move hf rfl rfl (by decide) ?_
      clear hf; intro a ha hf
      exact st_nil hf (th_n ⟨ha, rfl⟩)
    clear hf; intro a hf
    refine dr_take 5 (v25) rfl (by kernel_rfl) (by kernel_rfl) (by kernel_rfl) (by kernel_rfl) rfl rfl hf (by decide) rfl (fun w hp => ?_) ⟨_, hp⟩ ?_
    · obtain ⟨_, hp⟩ := hp
      refine st_extract hf (by decide) rfl rfl rfl ?_
      clear hf; intro a ha hf
      exact st_nil hf (th_n ⟨ha, rfl⟩)
    clear hf; intro a hf
    refine dr_take 6 (.int .i64 q23.2.1) rfl (by kernel_rfl) (by kernel_rfl) (by kernel_rfl) (by kernel_rfl) rfl rfl hf (by decide) rfl (fun w hp => ?_) ⟨_, hp⟩ ?_
    · obtain ⟨_, hp⟩ := hp
      refine st_extract hf (by decide) rfl rfl rfl ?_
      clear hf; intro a ha hf
      exact st_nil hf (th_n ⟨ha, rfl⟩)
    clear hf; intro a hf
    refine dr_take 7 (.int .i64 q23.2.2) rfl (by kernel_rfl) (by kernel_rfl) (by kernel_rfl) (by kernel_rfl) rfl rfl hf (by decide) rfl (fun w hp => ?_) ⟨_, hp⟩ ?_
    · obtain ⟨_, hp⟩ := hp
      refine st_extract hf (by decide) rfl rfl rfl ?_
      clear hf; intro a ha hf
      exact st_nil hf (th_n ⟨ha, rfl⟩)
    clear hf; intro a hf
    refine dr_take 8 (v25) rfl (by kernel_rfl) (by kernel_rfl) (by kernel_rfl) (by kernel_rfl) rfl rfl hf (by decide) rfl (fun w hp => ?_) ⟨_, hp⟩ ?_
    · obtain ⟨_, hp⟩ := hp
      refine st_assign hf rfl rfl (by decide) ?_
      clear hf; intro a ha hf
      exact st_nil hf (th_n ⟨ha, rfl⟩)
    clear hf; intro a hf
    refine dr_take 9 (.int .i64 q23.2.1) rfl (by kernel_rfl) (by kernel_rfl) (by kernel_rfl) (by kernel_rfl) rfl rfl hf (by decide) rfl (fun w hp => ?_) ⟨_, hp⟩ ?_
    · obtain ⟨_, hp⟩ := hp
      refine st_assign hf rfl rfl (by decide) ?_
      clear hf; intro a ha hf
      exact st_nil hf (th_n ⟨ha, rfl⟩)
    clear hf; intro a hf
    refine dr_take 10 (.int .i64 q23.2.2) rfl (by kernel_rfl) (by kernel_rfl) (by kernel_rfl) (by kernel_rfl) rfl rfl hf (by decide) rfl (fun w hp => ?_) ⟨_, hp⟩ ?_
    · obtain ⟨_, hp⟩ := hp
      refine st_assign hf rfl rfl (by decide) ?_
      clear hf; intro a ha hf
      exact st_nil hf (th_n ⟨ha, rfl⟩)
    clear hf; intro a hf
    refine dr_end (by kernel_rfl) ?_ _
    have hp := bk16 _ _ hp
    exact ⟨v25, hf.sub ⟨rfl, rfl, rfl, rfl, trivial⟩, hp⟩
  rintro a w ⟨v25, hf, hp⟩
  refine th_n ?_
  refine wp_seq ?_
  refine wp_reg ?_
  obtain ⟨q27, hcall28, h⟩ := bnd h
  refine st_call hf (by decide) Try.func26 rfl rfl rfl rfl rfl (f_foghornlaw22_short_c hp  hcall28) ?_
  rintro _ w ⟨rfl, hp0⟩
  clear hp; have hp := hp0; clear hp0
  replace hp : Hp _ _ _ (Res.sl (Ek.int .u8) 51 v8 q11 :: Res.sl Ek.bool 4 v25 q23.1 :: ow) := hp
  refine ⟨_, rfl, ?_⟩
  clear hf; intro a hf
  refine st_move hf rfl rfl (by decide) ?_
  clear hf; intro a ha hf; clear ha
  obtain ⟨q29, hcall30, h⟩ := bnd h
  obtain ⟨S31, hp32, rd33, up34, bk35⟩ := Hp.lendS hp (i := 0) rfl
  refine st_call hf (by decide) Try.func19 rfl rfl rfl rfl rfl (f_hard_Path_c hp32 _ _ _ _ _ rd33 hcall30) ?_
  rintro _ w ⟨v36, rfl, hp0⟩
  have hp0 := bk35 _ _ hp0
  clear hp; have hp := hp0; clear hp0
  replace hp : Hp _ _ _ (Res.sl (Ek.int .u8) 51 v8 q11 :: Res.sl Ek.bool 4 v36 q29.1 :: Res.sl Ek.bool 4 v25 q23.1 :: ow) := hp
  refine ⟨_, rfl, ?_⟩
  clear hf; intro a hf
  refine st_move hf rfl rfl (by decide) ?_
  clear hf; intro a ha hf; clear ha
  refine st_extract hf (by decide) rfl rfl rfl ?_
  clear hf; intro a ha hf; clear ha
  refine st_extract hf (by decide) rfl rfl rfl ?_
  clear hf; intro a ha hf; clear ha
  refine st_extract hf (by decide) rfl rfl rfl ?_
  clear hf; intro a ha hf; clear ha
  refine st_assign hf rfl rfl (by decide) ?_
  clear hf; intro a ha hf; clear ha
  refine st_assign hf rfl rfl (by decide) ?_
  clear hf; intro a ha hf; clear ha
  refine st_assign hf rfl rfl (by decide) ?_
  clear hf; intro a ha hf; clear ha
  refine st_nil hf ?_
  refine th_n ?_
  refine wp_seq ?_
  obtain ⟨S38, hp39, rd40, up41, bk42⟩ := Hp.lendS hp (i := 0) rfl
  have rl43 := rd40
  obtain ⟨q44, hcall45, h⟩ := bnd h
  obtain ⟨hc46, h⟩ := chk h
  have hc47 : 0 ≤ ((2 : Int)).toNat := by omega
  have hc48 : ((2 : Int)).toNat ≤ q11.length := by omega
  obtain ⟨q49, hcall50, h⟩ := bnd h
  refine wp_cutN (fun a w => ∃ (v51 : Value), Fr 230 a [(1, v8), (3, v25), (4, .int .i64 q23.2.1), (5, .int .i64 q23.2.2), (8, .int .i64 q29.2.2), (11, .int .i64 q49.2.2)] ∧ Hp S w0 w (Res.sl (Ek.int .u8) 51 v8 q11 :: Res.sl Ek.bool 4 v51 q49.1 :: Res.sl Ek.bool 4 v36 q29.1 :: Res.sl Ek.bool 4 v25 q23.1 :: ow)) ?_ ?_
  · have hp := hp39.same (Same.drew w)
    refine dr_begin' (fun a w => ∃ (v51 : Value), Fr 230 a [(1, v8), (3, v25), (4, .int .i64 q23.2.1), (5, .int .i64 q23.2.2), (8, .int .i64 q29.2.2), (11, .int .i64 q49.2.2)] ∧ Hp S w0 w (Res.sl (Ek.int .u8) 51 v8 q11 :: Res.sl Ek.bool 4 v51 q49.1 :: Res.sl Ek.bool 4 v36 q29.1 :: Res.sl Ek.bool 4 v25 q23.1 :: ow)) (fun w' => ∃ l, Hp S38 w w' l) [] (by kernel_rfl) ?_
    refine dr_take 1 (v8) rfl (by kernel_rfl) (by kernel_rfl) (by kernel_rfl) (by kernel_rfl) rfl rfl hf (by decide) rfl (fun w hp => ?_) ⟨_, hp⟩ ?_
    · obtain ⟨_, hp⟩ := hp
      refine st_move hf rfl rfl (by decide) ?_
      clear hf; intro a ha hf
      exact st_nil hf (th_n ⟨ha, rfl⟩)
    clear hf; intro a hf
    refine dr_take 2 ((GL.cut v8 0 (((2 : Int)).toNat) 1)) rfl (by kernel_rfl) (by kernel_rfl) (by kernel_rfl) (by kernel_rfl) rfl rfl hf (by decide) rfl (fun w hp => ?_) ⟨_, hp⟩ ?_
    · obtain ⟨_, hp⟩ := hp
      refine st_cutS (E := (Ek.int .u8)) hf (by decide) Try.underlying26 elt51 rfl rfl (rl43.sl hp) (.inl ⟨rfl, rfl⟩) (.inr ⟨_, _, rfl, evI rfl (by omega)⟩) hc47 hc48 ?_
      clear hf; intro a ha hf
      exact st_nil hf (th_n ⟨ha, rfl⟩)
    clear hf; intro a hf
    refine dr_one 0 rfl (by kernel_rfl) ?_
    refine st_call hf (by decide) Try.func26 rfl rfl rfl rfl rfl (f_foghornlaw22_short_c hp  hcall45) ?_
    rintro _ w ⟨rfl, hp0⟩
    clear hp; have hp := hp0; clear hp0
    replace hp : Hp _ _ _ (Res.sl Ek.bool 4 v36 q29.1 :: Res.sl Ek.bool 4 v25 q23.1 :: ow) := hp
    refine ⟨_, rfl, ?_⟩
    clear hf; intro a hf
    refine st_nil hf (th_n ⟨fun _ _ => ⟨_, hp⟩, ?_⟩)
    refine dr_one 3 rfl (by kernel_rfl) ?_
    refine st_call hf (by decide) Try.func19 rfl rfl rfl rfl rfl (f_hard_Path_c hp _ _ _ _ _ (RdS.cut rl43 hc47 hc48) hcall50) ?_
    rintro _ w ⟨v51, rfl, hp0⟩
    clear hp; have hp := hp0; clear hp0
    replace hp : Hp _ _ _ (Res.sl Ek.bool 4 v51 q49.1 :: Res.sl Ek.bool 4 v36 q29.1 :: Res.sl Ek.bool 4 v25 q23.1 :: ow) := hp
    refine ⟨_, rfl, ?_⟩
    clear hf; intro a hf
    refine st_nil hf (th_n ⟨fun _ _ => ⟨_, hp⟩, ?_⟩)
    refine dr_take 4 (.tuple #[v51, .int .i64 q49.2.1, .int .i64 q49.2.2]) rfl (by kernel_rfl) (by kernel_rfl) (by kernel_rfl) (by kernel_rfl) rfl rfl hf (by decide) rfl (fun w hp => ?_) ⟨_, hp⟩ ?_
    · obtain ⟨_, hp⟩ := hp
      refine st_move hf rfl rfl (by decide) ?_
      clear hf; intro a ha hf
      exact st_nil hf (th_n ⟨ha, rfl⟩)
    clear hf; intro a hf
    refine dr_take 5 (v51) rfl (by kernel_rfl) (by kernel_rfl) (by kernel_rfl) (by kernel_rfl) rfl rfl hf (by decide) rfl (fun w hp => ?_) ⟨_, hp⟩ ?_
    · obtain ⟨_, hp⟩ := hp
      refine st_extract hf (by decide) rfl rfl rfl ?_
      clear hf; intro a ha hf
      exact st_nil hf (th_n ⟨ha, rfl⟩)
    clear hf; intro a hf
    refine dr_take 6 (.int .i64 q49.2.1) rfl (by kernel_rfl) (by kernel_rfl) (by kernel_rfl) (by kernel_rfl) rfl rfl hf (by decide) rfl (fun w hp => ?_) ⟨_, hp⟩ ?_
    · obtain ⟨_, hp⟩ := hp
      refine st_extract hf (by decide) rfl rfl rfl ?_
      clear hf; intro a ha hf
      exact st_nil hf (th_n ⟨ha, rfl⟩)
    clear hf; intro a hf
    refine dr_take 7 (.int .i64 q49.2.2) rfl (by kernel_rfl) (by kernel_rfl) (by kernel_rfl) (by kernel_rfl) rfl rfl hf (by decide) rfl (fun w hp => ?_) ⟨_, hp⟩ ?_
    · obtain ⟨_, hp⟩ := hp
      refine st_extract hf (by decide) rfl rfl rfl ?_
      clear hf; intro a ha hf
      exact st_nil hf (th_n ⟨ha, rfl⟩)
    clear hf; intro a hf
    refine dr_take 8 (v51) rfl (by kernel_rfl) (by kernel_rfl) (by kernel_rfl) (by kernel_rfl) rfl rfl hf (by decide) rfl (fun w hp => ?_) ⟨_, hp⟩ ?_
    · obtain ⟨_, hp⟩ := hp
      refine st_assign hf rfl rfl (by decide) ?_
      clear hf; intro a ha hf
      exact st_nil hf (th_n ⟨ha, rfl⟩)
    clear hf; intro a hf
    refine dr_take 9 (.int .i64 q49.2.1) rfl (by kernel_rfl) (by kernel_rfl) (by kernel_rfl) (by kernel_rfl) rfl rfl hf (by decide) rfl (fun w hp => ?_) ⟨_, hp⟩ ?_
    · obtain ⟨_, hp⟩ := hp
      refine st_assign hf rfl rfl (by decide) ?_
      clear hf; intro a ha hf
      exact st_nil hf (th_n ⟨ha, rfl⟩)
    clear hf; intro a hf
    refine dr_take 10 (.int .i64 q49.2.2) rfl (by kernel_rfl) (by kernel_rfl) (by kernel_rfl) (by kernel_rfl) rfl rfl hf (by decide) rfl (fun w hp => ?_) ⟨_, hp⟩ ?_
    · obtain ⟨_, hp⟩ := hp
      refine st_assign hf rfl rfl (by decide) ?_
      clear hf; intro a ha hf
      exact st_nil hf (th_n ⟨ha, rfl⟩)
    clear hf; intro a hf
    refine dr_end (by kernel_rfl) ?_ _
    have hp := bk42 _ _ hp
    exact ⟨v51, hf.sub ⟨rfl, rfl, rfl, rfl, rfl, rfl, trivial⟩, hp⟩
  rintro a w ⟨v51, hf, hp⟩
  refine th_n ?_
  refine wp_seq ?_
  obtain ⟨S53, hp54, rd55, up56, bk57⟩ := Hp.lendS hp (i := 0) rfl
  have rl58 := rd55
  obtain ⟨q59, hcall60, h⟩ := bnd h
  obtain ⟨hc61, h⟩ := chk h
  have hc62 : 0 ≤ ((4 : Int)).toNat := by omega
  have hc63 : ((4 : Int)).toNat ≤ q11.length := by omega
  obtain ⟨q64, hcall65, h⟩ := bnd h
  refine wp_cutN (fun a w => ∃ (v66 : Value), Fr 230 a [(1, v8), (3, v25), (4, .int .i64 q23.2.1), (5, .int .i64 q23.2.2), (8, .int .i64 q29.2.2), (11, .int .i64 q49.2.2), (12, v66), (14, .int .i64 q64.2.2)] ∧ Hp S w0 w (Res.sl (Ek.int .u8) 51 v8 q11 :: Res.sl Ek.bool 4 v66 q64.1 :: Res.sl Ek.bool 4 v51 q49.1 :: Res.sl Ek.bool 4 v36 q29.1 :: Res.sl Ek.bool 4 v25 q23.1 :: ow)) ?_ ?_
  · have hp := hp54.same (Same.drew w)
    refine dr_begin' (fun a w => ∃ (v66 : Value), Fr 230 a [(1, v8), (3, v25), (4, .int .i64 q23.2.1), (5, .int .i64 q23.2.2), (8, .int .i64 q29.2.2), (11, .int .i64 q49.2.2), (12, v66), (14, .int .i64 q64.2.2)] ∧ Hp S w0 w (Res.sl (Ek.int .u8) 51 v8 q11 :: Res.sl Ek.bool 4 v66 q64.1 :: Res.sl Ek.bool 4 v51 q49.1 :: Res.sl Ek.bool 4 v36 q29.1 :: Res.sl Ek.bool 4 v25 q23.1 :: ow)) (fun w' => ∃ l, Hp S53 w w' l) [] (by kernel_rfl) ?_
    refine dr_take 1 (v8) rfl (by kernel_rfl) (by kernel_rfl) (by kernel_rfl) (by kernel_rfl) rfl rfl hf (by decide) rfl (fun w hp => ?_) ⟨_, hp⟩ ?_
    · obtain ⟨_, hp⟩ := hp
      refine st_move hf rfl rfl (by decide) ?_
      clear hf; intro a ha hf
      exact st_nil hf (th_n ⟨ha, rfl⟩)
    clear hf; intro a hf
    refine dr_take 2 ((GL.cut v8 0 (((4 : Int)).toNat) 1)) rfl (by kernel_rfl) (by kernel_rfl) (by kernel_rfl) (by kernel_rfl) rfl rfl hf (by decide) rfl (fun w hp => ?_) ⟨_, hp⟩ ?_
    · obtain ⟨_, hp⟩ := hp
      refine st_cutS (E := (Ek.int .u8)) hf (by decide) Try.underlying26 elt51 rfl rfl (rl58.sl hp) (.inl ⟨rfl, rfl⟩) (.inr ⟨_, _, rfl, evI rfl (by omega)⟩) hc62 hc63 ?_
      clear hf; intro a ha hf
      exact st_nil hf (th_n ⟨ha, rfl⟩)
    clear hf; intro a hf
    refine dr_one 0 rfl (by kernel_rfl) ?_
    refine st_call hf (by decide) Try.func26 rfl rfl rfl rfl rfl (f_foghornlaw22_short_c hp  hcall60) ?_
    rintro _ w ⟨rfl, hp0⟩
    clear hp; have hp := hp0; clear hp0
    replace hp : Hp _ _ _ (Res.sl Ek.bool 4 v51 q49.1 :: Res.sl Ek.bool 4 v36 q29.1 :: Res.sl Ek.bool 4 v25 q23.1 :: ow) := hp
    refine ⟨_, rfl, ?_⟩
    clear hf; intro a hf
    refine st_nil hf (th_n ⟨fun _ _ => ⟨_, hp⟩, ?_⟩)
    refine dr_one 3 rfl (by kernel_rfl) ?_
    refine st_call hf (by decide) Try.func19 rfl rfl rfl rfl rfl (f_hard_Path_c hp _ _ _ _ _ (RdS.cut rl58 hc62 hc63) hcall65) ?_
    rintro _ w ⟨v66, rfl, hp0⟩
    clear hp; have hp := hp0; clear hp0
    replace hp : Hp _ _ _ (Res.sl Ek.bool 4 v66 q64.1 :: Res.sl Ek.bool 4 v51 q49.1 :: Res.sl Ek.bool 4 v36 q29.1 :: Res.sl Ek.bool 4 v25 q23.1 :: ow) := hp
    refine ⟨_, rfl, ?_⟩
    clear hf; intro a hf
    refine st_nil hf (th_n ⟨fun _ _ => ⟨_, hp⟩, ?_⟩)
    refine dr_take 4 (.tuple #[v66, .int .i64 q64.2.1, .int .i64 q64.2.2]) rfl (by kernel_rfl) (by kernel_rfl) (by kernel_rfl) (by kernel_rfl) rfl rfl hf (by decide) rfl (fun w hp => ?_) ⟨_, hp⟩ ?_
    · obtain ⟨_, hp⟩ := hp
      refine st_move hf rfl rfl (by decide) ?_
      clear hf; intro a ha hf
      exact st_nil hf (th_n ⟨ha, rfl⟩)
    clear hf; intro a hf
    refine dr_take 5 (v66) rfl (by kernel_rfl) (by kernel_rfl) (by kernel_rfl) (by kernel_rfl) rfl rfl hf (by decide) rfl (fun w hp => ?_) ⟨_, hp⟩ ?_
    · obtain ⟨_, hp⟩ := hp
      refine st_extract hf (by decide) rfl rfl rfl ?_
      clear hf; intro a ha hf
      exact st_nil hf (th_n ⟨ha, rfl⟩)
    clear hf; intro a hf
    refine dr_take 6 (.int .i64 q64.2.1) rfl (by kernel_rfl) (by kernel_rfl) (by kernel_rfl) (by kernel_rfl) rfl rfl hf (by decide) rfl (fun w hp => ?_) ⟨_, hp⟩ ?_
    · obtain ⟨_, hp⟩ := hp
      refine st_extract hf (by decide) rfl rfl rfl ?_
      clear hf; intro a ha hf
      exact st_nil hf (th_n ⟨ha, rfl⟩)
    clear hf; intro a hf
    refine dr_take 7 (.int .i64 q64.2.2) rfl (by kernel_rfl) (by kernel_rfl) (by kernel_rfl) (by kernel_rfl) rfl rfl hf (by decide) rfl (fun w hp => ?_) ⟨_, hp⟩ ?_
    · obtain ⟨_, hp⟩ := hp
      refine st_extract hf (by decide) rfl rfl rfl ?_
      clear hf; intro a ha hf
      exact st_nil hf (th_n ⟨ha, rfl⟩)
    clear hf; intro a hf
    refine dr_take 8 (v66) rfl (by kernel_rfl) (by kernel_rfl) (by kernel_rfl) (by kernel_rfl) rfl rfl hf (by decide) rfl (fun w hp => ?_) ⟨_, hp⟩ ?_
    · obtain ⟨_, hp⟩ := hp
      refine st_assign hf rfl rfl (by decide) ?_
      clear hf; intro a ha hf
      exact st_nil hf (th_n ⟨ha, rfl⟩)
    clear hf; intro a hf
    refine dr_take 9 (.int .i64 q64.2.1) rfl (by kernel_rfl) (by kernel_rfl) (by kernel_rfl) (by kernel_rfl) rfl rfl hf (by decide) rfl (fun w hp => ?_) ⟨_, hp⟩ ?_
    · obtain ⟨_, hp⟩ := hp
      refine st_assign hf rfl rfl (by decide) ?_
      clear hf; intro a ha hf
      exact st_nil hf (th_n ⟨ha, rfl⟩)
    clear hf; intro a hf
    refine dr_take 10 (.int .i64 q64.2.2) rfl (by kernel_rfl) (by kernel_rfl) (by kernel_rfl) (by kernel_rfl) rfl rfl hf (by decide) rfl (fun w hp => ?_) ⟨_, hp⟩ ?_
    · obtain ⟨_, hp⟩ := hp
      refine st_assign hf rfl rfl (by decide) ?_
      clear hf; intro a ha hf
      exact st_nil hf (th_n ⟨ha, rfl⟩)
    clear hf; intro a hf
    refine dr_end (by kernel_rfl) ?_ _
    have hp := bk57 _ _ hp
    exact ⟨v66, hf.sub ⟨rfl, rfl, rfl, rfl, rfl, rfl, rfl, rfl, trivial⟩, hp⟩
  rintro a w ⟨v66, hf, hp⟩
  refine th_n ?_
  refine wp_seq ?_
  obtain ⟨S68, hp69, rd70, up71, bk72⟩ := Hp.lendS hp (i := 0) rfl
  have rl73 := rd70
  obtain ⟨q74, hcall75, h⟩ := bnd h
  obtain ⟨hc76, h⟩ := chk h
  have hc77 : 0 ≤ ((5 : Int)).toNat := by omega
  have hc78 : ((5 : Int)).toNat ≤ q11.length := by omega
  obtain ⟨q79, hcall80, h⟩ := bnd h
  refine wp_cutN (fun a w => ∃ (v81 : Value), Fr 230 a [(1, v8), (3, v25), (4, .int .i64 q23.2.1), (5, .int .i64 q23.2.2), (8, .int .i64 q29.2.2), (11, .int .i64 q49.2.2), (12, v66), (14, .int .i64 q64.2.2), (17, .int .i64 q79.2.2)] ∧ Hp S w0 w (Res.sl (Ek.int .u8) 51 v8 q11 :: Res.sl Ek.bool 4 v81 q79.1 :: Res.sl Ek.bool 4 v66 q64.1 :: Res.sl Ek.bool 4 v51 q49.1 :: Res.sl Ek.bool 4 v36 q29.1 :: Res.sl Ek.bool 4 v25 q23.1 :: ow)) ?_ ?_
  · have hp := hp69.same (Same.drew w)
    refine dr_begin' (fun a w => ∃ (v81 : Value), Fr 230 a [(1, v8), (3, v25), (4, .int .i64 q23.2.1), (5, .int .i64 q23.2.2), (8, .int .i64 q29.2.2), (11, .int .i64 q49.2.2), (12, v66), (14, .int .i64 q64.2.2), (17, .int .i64 q79.2.2)] ∧ Hp S w0 w (Res.sl (Ek.int .u8) 51 v8 q11 :: Res.sl Ek.bool 4 v81 q79.1 :: Res.sl Ek.bool 4 v66 q64.1 :: Res.sl Ek.bool 4 v51 q49.1 :: Res.sl Ek.bool 4 v36 q29.1 :: Res.sl Ek.bool 4 v25 q23.1 :: ow)) (fun w' => ∃ l, Hp S68 w w' l) [] (by kernel_rfl) ?_
    refine dr_take 1 (v8) rfl (by kernel_rfl) (by kernel_rfl) (by kernel_rfl) (by kernel_rfl) rfl rfl hf (by decide) rfl (fun w hp => ?_) ⟨_, hp⟩ ?_
    · obtain ⟨_, hp⟩ := hp
      refine st_move hf rfl rfl (by decide) ?_
      clear hf; intro a ha hf
      exact st_nil hf (th_n ⟨ha, rfl⟩)
    clear hf; intro a hf
    refine dr_take 2 ((GL.cut v8 0 (((5 : Int)).toNat) 1)) rfl (by kernel_rfl) (by kernel_rfl) (by kernel_rfl) (by kernel_rfl) rfl rfl hf (by decide) rfl (fun w hp => ?_) ⟨_, hp⟩ ?_
    · obtain ⟨_, hp⟩ := hp
      refine st_cutS (E := (Ek.int .u8)) hf (by decide) Try.underlying26 elt51 rfl rfl (rl73.sl hp) (.inl ⟨rfl, rfl⟩) (.inr ⟨_, _, rfl, evI rfl (by omega)⟩) hc77 hc78 ?_
      clear hf; intro a ha hf
      exact st_nil hf (th_n ⟨ha, rfl⟩)
    clear hf; intro a hf
    refine dr_one 0 rfl (by kernel_rfl) ?_
    refine st_call hf (by decide) Try.func26 rfl rfl rfl rfl rfl (f_foghornlaw22_short_c hp  hcall75) ?_
    rintro _ w ⟨rfl, hp0⟩
    clear hp; have hp := hp0; clear hp0
    replace hp : Hp _ _ _ (Res.sl Ek.bool 4 v66 q64.1 :: Res.sl Ek.bool 4 v51 q49.1 :: Res.sl Ek.bool 4 v36 q29.1 :: Res.sl Ek.bool 4 v25 q23.1 :: ow) := hp
    refine ⟨_, rfl, ?_⟩
    clear hf; intro a hf
    refine st_nil hf (th_n ⟨fun _ _ => ⟨_, hp⟩, ?_⟩)
    refine dr_one 3 rfl (by kernel_rfl) ?_
    refine st_call hf (by decide) Try.func19 rfl rfl rfl rfl rfl (f_hard_Path_c hp _ _ _ _ _ (RdS.cut rl73 hc77 hc78) hcall80) ?_
    rintro _ w ⟨v81, rfl, hp0⟩
    clear hp; have hp := hp0; clear hp0
    replace hp : Hp _ _ _ (Res.sl Ek.bool 4 v81 q79.1 :: Res.sl Ek.bool 4 v66 q64.1 :: Res.sl Ek.bool 4 v51 q49.1 :: Res.sl Ek.bool 4 v36 q29.1 :: Res.sl Ek.bool 4 v25 q23.1 :: ow) := hp
    refine ⟨_, rfl, ?_⟩
    clear hf; intro a hf
    refine st_nil hf (th_n ⟨fun _ _ => ⟨_, hp⟩, ?_⟩)
    refine dr_take 4 (.tuple #[v81, .int .i64 q79.2.1, .int .i64 q79.2.2]) rfl (by kernel_rfl) (by kernel_rfl) (by kernel_rfl) (by kernel_rfl) rfl rfl hf (by decide) rfl (fun w hp => ?_) ⟨_, hp⟩ ?_
    · obtain ⟨_, hp⟩ := hp
      refine st_move hf rfl rfl (by decide) ?_
      clear hf; intro a ha hf
      exact st_nil hf (th_n ⟨ha, rfl⟩)
    clear hf; intro a hf
    refine dr_take 5 (v81) rfl (by kernel_rfl) (by kernel_rfl) (by kernel_rfl) (by kernel_rfl) rfl rfl hf (by decide) rfl (fun w hp => ?_) ⟨_, hp⟩ ?_
    · obtain ⟨_, hp⟩ := hp
      refine st_extract hf (by decide) rfl rfl rfl ?_
      clear hf; intro a ha hf
      exact st_nil hf (th_n ⟨ha, rfl⟩)
    clear hf; intro a hf
    refine dr_take 6 (.int .i64 q79.2.1) rfl (by kernel_rfl) (by kernel_rfl) (by kernel_rfl) (by kernel_rfl) rfl rfl hf (by decide) rfl (fun w hp => ?_) ⟨_, hp⟩ ?_
    · obtain ⟨_, hp⟩ := hp
      refine st_extract hf (by decide) rfl rfl rfl ?_
      clear hf; intro a ha hf
      exact st_nil hf (th_n ⟨ha, rfl⟩)
    clear hf; intro a hf
    refine dr_take 7 (.int .i64 q79.2.2) rfl (by kernel_rfl) (by kernel_rfl) (by kernel_rfl) (by kernel_rfl) rfl rfl hf (by decide) rfl (fun w hp => ?_) ⟨_, hp⟩ ?_
    · obtain ⟨_, hp⟩ := hp
      refine st_extract hf (by decide) rfl rfl rfl ?_
      clear hf; intro a ha hf
      exact st_nil hf (th_n ⟨ha, rfl⟩)
    clear hf; intro a hf
    refine dr_take 8 (v81) rfl (by kernel_rfl) (by kernel_rfl) (by kernel_rfl) (by kernel_rfl) rfl rfl hf (by decide) rfl (fun w hp => ?_) ⟨_, hp⟩ ?_
    · obtain ⟨_, hp⟩ := hp
      refine st_assign hf rfl rfl (by decide) ?_
      clear hf; intro a ha hf
      exact st_nil hf (th_n ⟨ha, rfl⟩)
    clear hf; intro a hf
    refine dr_take 9 (.int .i64 q79.2.1) rfl (by kernel_rfl) (by kernel_rfl) (by kernel_rfl) (by kernel_rfl) rfl rfl hf (by decide) rfl (fun w hp => ?_) ⟨_, hp⟩ ?_
    · obtain ⟨_, hp⟩ := hp
      refine st_assign hf rfl rfl (by decide) ?_
      clear hf; intro a ha hf
      exact st_nil hf (th_n ⟨ha, rfl⟩)
    clear hf; intro a hf
    refine dr_take 10 (.int .i64 q79.2.2) rfl (by kernel_rfl) (by kernel_rfl) (by kernel_rfl) (by kernel_rfl) rfl rfl hf (by decide) rfl (fun w hp => ?_) ⟨_, hp⟩ ?_
    · obtain ⟨_, hp⟩ := hp
      refine st_assign hf rfl rfl (by decide) ?_
      clear hf; intro a ha hf
      exact st_nil hf (th_n ⟨ha, rfl⟩)
    clear hf; intro a hf
    refine dr_end (by kernel_rfl) ?_ _
    have hp := bk72 _ _ hp
    exact ⟨v81, hf.sub ⟨rfl, rfl, rfl, rfl, rfl, rfl, rfl, rfl, rfl, trivial⟩, hp⟩
  rintro a w ⟨v81, hf, hp⟩
  refine th_n ?_
  refine wp_seq ?_
  refine wp_reg ?_
  refine st_buildA (vals := [(0, .int .i64 (3 : Int)), (1, .int .u32 (3 : Int)), (2, .int .u32 (3 : Int))]) (cells := [.int .i64 (3 : Int), .int .u32 (3 : Int), .int .u32 (3 : Int)]) hf (by decide) rfl (by simp [hf.ev (x := (Operand.const (.int .i64 (3 : Int)))) rfl, hf.ev (x := (Operand.const (.int .u32 (3 : Int)))) rfl, hf.ev (x := (Operand.const (.int .u32 (3 : Int)))) rfl]) (fun w => by kernel_rfl) ?_
  clear hf; intro a ha hf; clear ha
  refine st_move hf rfl rfl (by decide) ?_
  clear hf; intro a ha hf; clear ha
  obtain ⟨hc83, h⟩ := chk h
  have hc84 : 0 ≤ ((6 : Int)).toNat := by omega
  have hc85 : ((6 : Int)).toNat ≤ q11.length := by omega
  refine st_cutS (E := (Ek.int .u8)) hf (by decide) Try.underlying26 elt51 rfl rfl (hp.sl (i := 0) rfl) (.inl ⟨rfl, rfl⟩) (.inr ⟨_, _, rfl, evI rfl (by omega)⟩) hc84 hc85 ?_
  clear hf; intro a ha hf; clear ha
  obtain ⟨q86, hcall87, h⟩ := bnd h
  obtain ⟨S88, hp89, rd90, up91, bk92⟩ := Hp.lendS hp (i := 0) rfl
  refine st_call hf (by decide) Try.func19 rfl rfl rfl rfl rfl (f_hard_Path_c hp89 _ _ _ _ _ (RdS.cut rd90 hc84 hc85) hcall87) ?_
  rintro _ w ⟨v93, rfl, hp0⟩
  have hp0 := bk92 _ _ hp0
  clear hp; have hp := hp0; clear hp0
  replace hp : Hp _ _ _ (Res.sl (Ek.int .u8) 51 v8 q11 :: Res.sl Ek.bool 4 v93 q86.1 :: Res.sl Ek.bool 4 v81 q79.1 :: Res.sl Ek.bool 4 v66 q64.1 :: Res.sl Ek.bool 4 v51 q49.1 :: Res.sl Ek.bool 4 v36 q29.1 :: Res.sl Ek.bool 4 v25 q23.1 :: ow) := hp
  refine ⟨_, rfl, ?_⟩
  clear hf; intro a hf
  refine st_move hf rfl rfl (by decide) ?_
  clear hf; intro a ha hf; clear ha
  refine st_extract hf (by decide) rfl rfl rfl ?_
  clear hf; intro a ha hf; clear ha
  refine st_extract hf (by decide) rfl rfl rfl ?_
  clear hf; intro a ha hf; clear ha
  refine st_extract hf (by decide) rfl rfl rfl ?_
  clear hf; intro a ha hf; clear ha
  refine st_assign hf rfl rfl (by decide) ?_
  clear hf; intro a ha hf; clear ha
  refine st_assign hf rfl rfl (by decide) ?_
  clear hf; intro a ha hf; clear ha
  refine st_assign hf rfl rfl (by decide) ?_
  clear hf; intro a ha hf; clear ha
  refine st_nil hf ?_
  refine th_n ?_
  refine wp_seq ?_
  refine wp_reg ?_
  refine st_move hf rfl rfl (by decide) ?_
  clear hf; intro a ha hf; clear ha
  obtain ⟨hc95, h⟩ := chk h
  refine st_index (E := (Ek.int .u8)) hf (by decide) Try.underlying26 elt51 rfl rfl rfl (hp.sl (i := 0) rfl) hc95.1 hc95.2 ?_
  clear hf; intro a ha hf; clear ha
  refine st_store (E := (Ek.int .u8)) hf elt51 hp (i := 0) rfl rfl rfl rfl rfl hc95.1 hc95.2 ?_
  clear hf; intro a w hf hp0; clear hp; have hp := hp0; clear hp0
  replace hp : Hp _ _ _ (Res.sl (Ek.int .u8) 51 v8 (q11.set ((0 : Int)).toNat (3 : Int)) :: Res.sl Ek.bool 4 v93 q86.1 :: Res.sl Ek.bool 4 v81 q79.1 :: Res.sl Ek.bool 4 v66 q64.1 :: Res.sl Ek.bool 4 v51 q49.1 :: Res.sl Ek.bool 4 v36 q29.1 :: Res.sl Ek.bool 4 v25 q23.1 :: ow) := hp
  refine st_nil hf ?_
  refine th_n ?_
  refine wp_seq ?_
  obtain ⟨S96, hp97, rd98, up99, bk100⟩ := Hp.lendS hp (i := 0) rfl
  have rl101 := rd98
  obtain ⟨q102, hcall103, h⟩ := bnd h
  obtain ⟨hc104, h⟩ := chk h
  have hc105 : 0 ≤ ((6 : Int)).toNat := by omega
  have hc106 : ((6 : Int)).toNat ≤ (q11.set ((0 : Int)).toNat (3 : Int)).length := by omega
  obtain ⟨q107, hcall108, h⟩ := bnd h
  refine wp_cutN (fun a w => ∃ (v109 : Value), Fr 230 a [(3, v25), (4, .int .i64 q23.2.1), (5, .int .i64 q23.2.2), (8, .int .i64 q29.2.2), (11, .int .i64 q49.2.2), (12, v66), (14, .int .i64 q64.2.2), (17, .int .i64 q79.2.2), (20, .int .i64 q86.2.2), (23, .int .i64 q107.2.2)] ∧ Hp S w0 w (Res.sl (Ek.int .u8) 51 v8 (q11.set ((0 : Int)).toNat (3 : Int)) :: Res.sl Ek.bool 4 v109 q107.1 :: Res.sl Ek.bool 4 v93 q86.1 :: Res.sl Ek.bool 4 v81 q79.1 :: Res.sl Ek.bool 4 v66 q64.1 :: Res.sl Ek.bool 4 v51 q49.1 :: Res.sl Ek.bool 4 v36 q29.1 :: Res.sl Ek.bool 4 v25 q23.1 :: ow)) ?_ ?_
  · have hp := hp97.same (Same.drew w)
    refine dr_begin' (fun a w => ∃ (v109 : Value), Fr 230 a [(3, v25), (4, .int .i64 q23.2.1), (5, .int .i64 q23.2.2), (8, .int .i64 q29.2.2), (11, .int .i64 q49.2.2), (12, v66), (14, .int .i64 q64.2.2), (17, .int .i64 q79.2.2), (20, .int .i64 q86.2.2), (23, .int .i64 q107.2.2)] ∧ Hp S w0 w (Res.sl (Ek.int .u8) 51 v8 (q11.set ((0 : Int)).toNat (3 : Int)) :: Res.sl Ek.bool 4 v109 q107.1 :: Res.sl Ek.bool 4 v93 q86.1 :: Res.sl Ek.bool 4 v81 q79.1 :: Res.sl Ek.bool 4 v66 q64.1 :: Res.sl Ek.bool 4 v51 q49.1 :: Res.sl Ek.bool 4 v36 q29.1 :: Res.sl Ek.bool 4 v25 q23.1 :: ow)) (fun w' => ∃ l, Hp S96 w w' l) [] (by kernel_rfl) ?_
    refine dr_take 1 (v8) rfl (by kernel_rfl) (by kernel_rfl) (by kernel_rfl) (by kernel_rfl) rfl rfl hf (by decide) rfl (fun w hp => ?_) ⟨_, hp⟩ ?_
    · obtain ⟨_, hp⟩ := hp
      refine st_move hf rfl rfl (by decide) ?_
      clear hf; intro a ha hf
      exact st_nil hf (th_n ⟨ha, rfl⟩)
    clear hf; intro a hf
    refine dr_take 2 ((GL.cut v8 0 (((6 : Int)).toNat) 1)) rfl (by kernel_rfl) (by kernel_rfl) (by kernel_rfl) (by kernel_rfl) rfl rfl hf (by decide) rfl (fun w hp => ?_) ⟨_, hp⟩ ?_
    · obtain ⟨_, hp⟩ := hp
      refine st_cutS (E := (Ek.int .u8)) hf (by decide) Try.underlying26 elt51 rfl rfl (rl101.sl hp) (.inl ⟨rfl, rfl⟩) (.inr ⟨_, _, rfl, evI rfl (by omega)⟩) hc105 hc106 ?_
      clear hf; intro a ha hf
      exact st_nil hf (th_n ⟨ha, rfl⟩)
    clear hf; intro a hf
    refine dr_one 0 rfl (by kernel_rfl) ?_
    refine st_call hf (by decide) Try.func26 rfl rfl rfl rfl rfl (f_foghornlaw22_short_c hp  hcall103) ?_
    rintro _ w ⟨rfl, hp0⟩
    clear hp; have hp := hp0; clear hp0
    replace hp : Hp _ _ _ (Res.sl Ek.bool 4 v93 q86.1 :: Res.sl Ek.bool 4 v81 q79.1 :: Res.sl Ek.bool 4 v66 q64.1 :: Res.sl Ek.bool 4 v51 q49.1 :: Res.sl Ek.bool 4 v36 q29.1 :: Res.sl Ek.bool 4 v25 q23.1 :: ow) := hp
    refine ⟨_, rfl, ?_⟩
    clear hf; intro a hf
    refine st_nil hf (th_n ⟨fun _ _ => ⟨_, hp⟩, ?_⟩)
    refine dr_one 3 rfl (by kernel_rfl) ?_
    refine st_call hf (by decide) Try.func19 rfl rfl rfl rfl rfl (f_hard_Path_c hp _ _ _ _ _ (RdS.cut rl101 hc105 hc106) hcall108) ?_
    rintro _ w ⟨v109, rfl, hp0⟩
    clear hp; have hp := hp0; clear hp0
    replace hp : Hp _ _ _ (Res.sl Ek.bool 4 v109 q107.1 :: Res.sl Ek.bool 4 v93 q86.1 :: Res.sl Ek.bool 4 v81 q79.1 :: Res.sl Ek.bool 4 v66 q64.1 :: Res.sl Ek.bool 4 v51 q49.1 :: Res.sl Ek.bool 4 v36 q29.1 :: Res.sl Ek.bool 4 v25 q23.1 :: ow) := hp
    refine ⟨_, rfl, ?_⟩
    clear hf; intro a hf
    refine st_nil hf (th_n ⟨fun _ _ => ⟨_, hp⟩, ?_⟩)
    refine dr_take 4 (.tuple #[v109, .int .i64 q107.2.1, .int .i64 q107.2.2]) rfl (by kernel_rfl) (by kernel_rfl) (by kernel_rfl) (by kernel_rfl) rfl rfl hf (by decide) rfl (fun w hp => ?_) ⟨_, hp⟩ ?_
    · obtain ⟨_, hp⟩ := hp
      refine st_move hf rfl rfl (by decide) ?_
      clear hf; intro a ha hf
      exact st_nil hf (th_n ⟨ha, rfl⟩)
    clear hf; intro a hf
    refine dr_take 5 (v109) rfl (by kernel_rfl) (by kernel_rfl) (by kernel_rfl) (by kernel_rfl) rfl rfl hf (by decide) rfl (fun w hp => ?_) ⟨_, hp⟩ ?_
    · obtain ⟨_, hp⟩ := hp
      refine st_extract hf (by decide) rfl rfl rfl ?_
      clear hf; intro a ha hf
      exact st_nil hf (th_n ⟨ha, rfl⟩)
    clear hf; intro a hf
    refine dr_take 6 (.int .i64 q107.2.1) rfl (by kernel_rfl) (by kernel_rfl) (by kernel_rfl) (by kernel_rfl) rfl rfl hf (by decide) rfl (fun w hp => ?_) ⟨_, hp⟩ ?_
    · obtain ⟨_, hp⟩ := hp
      refine st_extract hf (by decide) rfl rfl rfl ?_
      clear hf; intro a ha hf
      exact st_nil hf (th_n ⟨ha, rfl⟩)
    clear hf; intro a hf
    refine dr_take 7 (.int .i64 q107.2.2) rfl (by kernel_rfl) (by kernel_rfl) (by kernel_rfl) (by kernel_rfl) rfl rfl hf (by decide) rfl (fun w hp => ?_) ⟨_, hp⟩ ?_
    · obtain ⟨_, hp⟩ := hp
      refine st_extract hf (by decide) rfl rfl rfl ?_
      clear hf; intro a ha hf
      exact st_nil hf (th_n ⟨ha, rfl⟩)
    clear hf; intro a hf
    refine dr_take 8 (v109) rfl (by kernel_rfl) (by kernel_rfl) (by kernel_rfl) (by kernel_rfl) rfl rfl hf (by decide) rfl (fun w hp => ?_) ⟨_, hp⟩ ?_
    · obtain ⟨_, hp⟩ := hp
      refine st_assign hf rfl rfl (by decide) ?_
      clear hf; intro a ha hf
      exact st_nil hf (th_n ⟨ha, rfl⟩)
    clear hf; intro a hf
    refine dr_take 9 (.int .i64 q107.2.1) rfl (by kernel_rfl) (by kernel_rfl) (by kernel_rfl) (by kernel_rfl) rfl rfl hf (by decide) rfl (fun w hp => ?_) ⟨_, hp⟩ ?_
    · obtain ⟨_, hp⟩ := hp
      refine st_assign hf rfl rfl (by decide) ?_
      clear hf; intro a ha hf
      exact st_nil hf (th_n ⟨ha, rfl⟩)
    clear hf; intro a hf
    refine dr_take 10 (.int .i64 q107.2.2) rfl (by kernel_rfl) (by kernel_rfl) (by kernel_rfl) (by kernel_rfl) rfl rfl hf (by decide) rfl (fun w hp => ?_) ⟨_, hp⟩ ?_
    · obtain ⟨_, hp⟩ := hp
      refine st_assign hf rfl rfl (by decide) ?_
      clear hf; intro a ha hf
      exact st_nil hf (th_n ⟨ha, rfl⟩)
    clear hf; intro a hf
    refine dr_end (by kernel_rfl) ?_ _
    have hp := bk100 _ _ hp
    exact ⟨v109, hf.sub ⟨rfl, rfl, rfl, rfl, rfl, rfl, rfl, rfl, rfl, rfl, trivial⟩, hp⟩
  rintro a w ⟨v109, hf, hp⟩
  refine th_n ?_
  refine wp_seq ?_
  refine wp_seq ?_
  refine wp_reg ?_
  refine st_move hf rfl rfl (by decide) ?_
  clear hf; intro a ha hf; clear ha
  refine st_ineq hf (by decide) rfl rfl rfl ?_
  clear hf; intro a ha hf; clear ha
  refine st_move hf rfl rfl (by decide) ?_
  clear hf; intro a ha hf; clear ha
  refine wpList_cut 3 (fun a w => Fr 230 a [(3, v25), (4, .int .i64 q23.2.1), (11, .int .i64 q49.2.2), (12, v66), (14, .int .i64 q64.2.2), (17, .int .i64 q79.2.2), (20, .int .i64 q86.2.2), (23, .int .i64 q107.2.2), (114, .bool ((q23.2.2 != (0 : Int)) || (q29.2.2 != (1 : Int))))] ∧ Hp S w0 w (Res.sl (Ek.int .u8) 51 v8 (q11.set ((0 : Int)).toNat (3 : Int)) :: Res.sl Ek.bool 4 v109 q107.1 :: Res.sl Ek.bool 4 v93 q86.1 :: Res.sl Ek.bool 4 v81 q79.1 :: Res.sl Ek.bool 4 v66 q64.1 :: Res.sl Ek.bool 4 v51 q49.1 :: Res.sl Ek.bool 4 v36 q29.1 :: Res.sl Ek.bool 4 v25 q23.1 :: ow)) ?_ ?_
  · rcases Bool.eq_false_or_eq_true (q23.2.2 != (0 : Int)) with hb112 | hb112
    · skip
      refine st_skip hf (wantN hf rfl rfl hb112) rfl (by decide) ?_ rfl
      clear hf; intro a hf
      refine st_skip hf (wantN hf rfl rfl hb112) rfl (by decide) ?_ rfl
      clear hf; intro a hf
      refine st_pick (v := .bool true) hf rfl rfl (fun hb' => ?_) (fun hb' => ?_) (by decide) ?_
      · rfl
      · exact absurd (hb112.symm.trans hb') (by decide)
      clear hf; intro a ha hf; clear ha
      refine st_nil hf (th_n ?_)
      exact ⟨hf.sub ⟨rfl, rfl, rfl, rfl, rfl, rfl, rfl, rfl, (by rw [hb112]; rfl), trivial⟩, hp⟩
    refine st_move hf (wantY hf rfl rfl hb112) rfl (by decide) ?_
    clear hf; intro a ha hf; clear ha
    refine st_ineq hf (by decide) (wantY hf rfl rfl hb112) rfl rfl ?_
    clear hf; intro a ha hf; clear ha
    refine st_pick (v := .bool (q29.2.2 != (1 : Int))) hf rfl rfl (fun hb' => ?_) (fun hb' => ?_) (by decide) ?_
    · exact absurd (hb112.symm.trans hb') (by decide)
    · rfl
    clear hf; intro a ha hf; clear ha
    refine st_nil hf (th_n ?_)
    exact ⟨hf.sub ⟨rfl, rfl, rfl, rfl, rfl, rfl, rfl, rfl, (by rw [hb112]; rfl), trivial⟩, hp⟩
  rintro a w ⟨hf, hp⟩
  refine st_move hf rfl rfl (by decide) ?_
  clear hf; intro a ha hf; clear ha
  refine wpList_cut 3 (fun a w => Fr 230 a [(3, v25), (4, .int .i64 q23.2.1), (12, v66), (14, .int .i64 q64.2.2), (17, .int .i64 q79.2.2), (20, .int .i64 q86.2.2), (23, .int .i64 q107.2.2), (118, .bool (((q23.2.2 != (0 : Int)) || (q29.2.2 != (1 : Int))) || (q49.2.2 != (1 : Int))))] ∧ Hp S w0 w (Res.sl (Ek.int .u8) 51 v8 (q11.set ((0 : Int)).toNat (3 : Int)) :: Res.sl Ek.bool 4 v109 q107.1 :: Res.sl Ek.bool 4 v93 q86.1 :: Res.sl Ek.bool 4 v81 q79.1 :: Res.sl Ek.bool 4 v66 q64.1 :: Res.sl Ek.bool 4 v51 q49.1 :: Res.sl Ek.bool 4 v36 q29.1 :: Res.sl Ek.bool 4 v25 q23.1 :: ow)) ?_ ?_
  · rcases Bool.eq_false_or_eq_true ((q23.2.2 != (0 : Int)) || (q29.2.2 != (1 : Int))) with hb114 | hb114
    · skip
      refine st_skip hf (wantN hf rfl rfl hb114) rfl (by decide) ?_ rfl
      clear hf; intro a hf
      refine st_skip hf (wantN hf rfl rfl hb114) rfl (by decide) ?_ rfl
      clear hf; intro a hf
      refine st_pick (v := .bool true) hf rfl rfl (fun hb' => ?_) (fun hb' => ?_) (by decide) ?_
      · rfl
      · exact absurd (hb114.symm.trans hb') (by decide)
      clear hf; intro a ha hf; clear ha
      refine st_nil hf (th_n ?_)
      exact ⟨hf.sub ⟨rfl, rfl, rfl, rfl, rfl, rfl, rfl, (by rw [hb114]; rfl), trivial⟩, hp⟩
    refine st_move hf (wantY hf rfl rfl hb114) rfl (by decide) ?_
    clear hf; intro a ha hf; clear ha
    refine st_ineq hf (by decide) (wantY hf rfl rfl hb114) rfl rfl ?_
    clear hf; intro a ha hf; clear ha
    refine st_pick (v := .bool (q49.2.2 != (1 : Int))) hf rfl rfl (fun hb' => ?_) (fun hb' => ?_) (by decide) ?_
    · exact absurd (hb114.symm.trans hb') (by decide)
    · rfl
    clear hf; intro a ha hf; clear ha
    refine st_nil hf (th_n ?_)
    exact ⟨hf.sub ⟨rfl, rfl, rfl, rfl, rfl, rfl, rfl, (by rw [hb114]; rfl), trivial⟩, hp⟩
  rintro a w ⟨hf, hp⟩
  refine st_move hf rfl rfl (by decide) ?_
  clear hf; intro a ha hf; clear ha
  refine wpList_cut 3 (fun a w => Fr 230 a [(3, v25), (4, .int .i64 q23.2.1), (12, v66), (17, .int .i64 q79.2.2), (20, .int .i64 q86.2.2), (23, .int .i64 q107.2.2), (122, .bool ((((q23.2.2 != (0 : Int)) || (q29.2.2 != (1 : Int))) || (q49.2.2 != (1 : Int))) || (q64.2.2 != (0 : Int))))] ∧ Hp S w0 w (Res.sl (Ek.int .u8) 51 v8 (q11.set ((0 : Int)).toNat (3 : Int)) :: Res.sl Ek.bool 4 v109 q107.1 :: Res.sl Ek.bool 4 v93 q86.1 :: Res.sl Ek.bool 4 v81 q79.1 :: Res.sl Ek.bool 4 v66 q64.1 :: Res.sl Ek.bool 4 v51 q49.1 :: Res.sl Ek.bool 4 v36 q29.1 :: Res.sl Ek.bool 4 v25 q23.1 :: ow)) ?_ ?_
  · rcases Bool.eq_false_or_eq_true (((q23.2.2 != (0 : Int)) || (q29.2.2 != (1 : Int))) || (q49.2.2 != (1 : Int))) with hb116 | hb116
    · skip
      refine st_skip hf (wantN hf rfl rfl hb116) rfl (by decide) ?_ rfl
      clear hf; intro a hf
      refine st_skip hf (wantN hf rfl rfl hb116) rfl (by decide) ?_ rfl
      clear hf; intro a hf
      refine st_pick (v := .bool true) hf rfl rfl (fun hb' => ?_) (fun hb' => ?_) (by decide) ?_
      · rfl
      · exact absurd (hb116.symm.trans hb') (by decide)
      clear hf; intro a ha hf; clear ha
      refine st_nil hf (th_n ?_)
      exact ⟨hf.sub ⟨rfl, rfl, rfl, rfl, rfl, rfl, (by rw [hb116]; rfl), trivial⟩, hp⟩
    refine st_move hf (wantY hf rfl rfl hb116) rfl (by decide) ?_
    clear hf; intro a ha hf; clear ha
    refine st_ineq hf (by decide) (wantY hf rfl rfl hb116) rfl rfl ?_
    clear hf; intro a ha hf; clear ha
    refine st_pick (v := .bool (q64.2.2 != (0 : Int))) hf rfl rfl (fun hb' => ?_) (fun hb' => ?_) (by decide) ?_
    · exact absurd (hb116.symm.trans hb') (by decide)
    · rfl
    clear hf; intro a ha hf; clear ha
    refine st_nil hf (th_n ?_)
    exact ⟨hf.sub ⟨rfl, rfl, rfl, rfl, rfl, rfl, (by rw [hb116]; rfl), trivial⟩, hp⟩
  rintro a w ⟨hf, hp⟩
  refine st_move hf rfl rfl (by decide) ?_
  clear hf; intro a ha hf; clear ha
  refine wpList_cut 3 (fun a w => Fr 230 a [(3, v25), (4, .int .i64 q23.2.1), (12, v66), (20, .int .i64 q86.2.2), (23, .int .i64 q107.2.2), (126, .bool (((((q23.2.2 != (0 : Int)) || (q29.2.2 != (1 : Int))) || (q49.2.2 != (1 : Int))) || (q64.2.2 != (0 : Int))) || (q79.2.2 != (1 : Int))))] ∧ Hp S w0 w (Res.sl (Ek.int .u8) 51 v8 (q11.set ((0 : Int)).toNat (3 : Int)) :: Res.sl Ek.bool 4 v109 q107.1 :: Res.sl Ek.bool 4 v93 q86.1 :: Res.sl Ek.bool 4 v81 q79.1 :: Res.sl Ek.bool 4 v66 q64.1 :: Res.sl Ek.bool 4 v51 q49.1 :: Res.sl Ek.bool 4 v36 q29.1 :: Res.sl Ek.bool 4 v25 q23.1 :: ow)) ?_ ?_
  · rcases Bool.eq_false_or_eq_true ((((q23.2.2 != (0 : Int)) || (q29.2.2 != (1 : Int))) || (q49.2.2 != (1 : Int))) || (q64.2.2 != (0 : Int))) with hb118 | hb118
    · skip
      refine st_skip hf (wantN hf rfl rfl hb118) rfl (by decide) ?_ rfl
      clear hf; intro a hf
      refine st_skip hf (wantN hf rfl rfl hb118) rfl (by decide) ?_ rfl
      clear hf; intro a hf
      refine st_pick (v := .bool true) hf rfl rfl (fun hb' => ?_) (fun hb' => ?_) (by decide) ?_
      · rfl
      · exact absurd (hb118.symm.trans hb') (by decide)
      clear hf; intro a ha hf; clear ha
      refine st_nil hf (th_n ?_)
      exact ⟨hf.sub ⟨rfl, rfl, rfl, rfl, rfl, (by rw [hb118]; rfl), trivial⟩, hp⟩
    refine st_move hf (wantY hf rfl rfl hb118) rfl (by decide) ?_
    clear hf; intro a ha hf; clear ha
    refine st_ineq hf (by decide) (wantY hf rfl rfl hb118) rfl rfl ?_
    clear hf; intro a ha hf; clear ha
    refine st_pick (v := .bool (q79.2.2 != (1 : Int))) hf rfl rfl (fun hb' => ?_) (fun hb' => ?_) (by decide) ?_
    · exact absurd (hb118.symm.trans hb') (by decide)
    · rfl
    clear hf; intro a ha hf; clear ha
    refine st_nil hf (th_n ?_)
    exact ⟨hf.sub ⟨rfl, rfl, rfl, rfl, rfl, (by rw [hb118]; rfl), trivial⟩, hp⟩
  rintro a w ⟨hf, hp⟩
  refine st_move hf rfl rfl (by decide) ?_
  clear hf; intro a ha hf; clear ha
  refine wpList_cut 3 (fun a w => Fr 230 a [(3, v25), (4, .int .i64 q23.2.1), (12, v66), (23, .int .i64 q107.2.2), (130, .bool ((((((q23.2.2 != (0 : Int)) || (q29.2.2 != (1 : Int))) || (q49.2.2 != (1 : Int))) || (q64.2.2 != (0 : Int))) || (q79.2.2 != (1 : Int))) || (q86.2.2 != (1 : Int))))] ∧ Hp S w0 w (Res.sl (Ek.int .u8) 51 v8 (q11.set ((0 : Int)).toNat (3 : Int)) :: Res.sl Ek.bool 4 v109 q107.1 :: Res.sl Ek.bool 4 v93 q86.1 :: Res.sl Ek.bool 4 v81 q79.1 :: Res.sl Ek.bool 4 v66 q64.1 :: Res.sl Ek.bool 4 v51 q49.1 :: Res.sl Ek.bool 4 v36 q29.1 :: Res.sl Ek.bool 4 v25 q23.1 :: ow)) ?_ ?_
  · rcases Bool.eq_false_or_eq_true (((((q23.2.2 != (0 : Int)) || (q29.2.2 != (1 : Int))) || (q49.2.2 != (1 : Int))) || (q64.2.2 != (0 : Int))) || (q79.2.2 != (1 : Int))) with hb120 | hb120
    · skip
      refine st_skip hf (wantN hf rfl rfl hb120) rfl (by decide) ?_ rfl
      clear hf; intro a hf
      refine st_skip hf (wantN hf rfl rfl hb120) rfl (by decide) ?_ rfl
      clear hf; intro a hf
      refine st_pick (v := .bool true) hf rfl rfl (fun hb' => ?_) (fun hb' => ?_) (by decide) ?_
      · rfl
      · exact absurd (hb120.symm.trans hb') (by decide)
      clear hf; intro a ha hf; clear ha
      refine st_nil hf (th_n ?_)
      exact ⟨hf.sub ⟨rfl, rfl, rfl, rfl, (by rw [hb120]; rfl), trivial⟩, hp⟩
    refine st_move hf (wantY hf rfl rfl hb120) rfl (by decide) ?_
    clear hf; intro a ha hf; clear ha
    refine st_ineq hf (by decide) (wantY hf rfl rfl hb120) rfl rfl ?_
    clear hf; intro a ha hf; clear ha
    refine st_pick (v := .bool (q86.2.2 != (1 : Int))) hf rfl rfl (fun hb' => ?_) (fun hb' => ?_) (by decide) ?_
    · exact absurd (hb120.symm.trans hb') (by decide)
    · rfl
    clear hf; intro a ha hf; clear ha
    refine st_nil hf (th_n ?_)
    exact ⟨hf.sub ⟨rfl, rfl, rfl, rfl, (by rw [hb120]; rfl), trivial⟩, hp⟩
  rintro a w ⟨hf, hp⟩
  refine st_move hf rfl rfl (by decide) ?_
  clear hf; intro a ha hf; clear ha
  refine wpList_cut 3 (fun a w => Fr 230 a [(3, v25), (4, .int .i64 q23.2.1), (12, v66), (134, .bool (((((((q23.2.2 != (0 : Int)) || (q29.2.2 != (1 : Int))) || (q49.2.2 != (1 : Int))) || (q64.2.2 != (0 : Int))) || (q79.2.2 != (1 : Int))) || (q86.2.2 != (1 : Int))) || (q107.2.2 != (1 : Int))))] ∧ Hp S w0 w (Res.sl (Ek.int .u8) 51 v8 (q11.set ((0 : Int)).toNat (3 : Int)) :: Res.sl Ek.bool 4 v109 q107.1 :: Res.sl Ek.bool 4 v93 q86.1 :: Res.sl Ek.bool 4 v81 q79.1 :: Res.sl Ek.bool 4 v66 q64.1 :: Res.sl Ek.bool 4 v51 q49.1 :: Res.sl Ek.bool 4 v36 q29.1 :: Res.sl Ek.bool 4 v25 q23.1 :: ow)) ?_ ?_
  · rcases Bool.eq_false_or_eq_true ((((((q23.2.2 != (0 : Int)) || (q29.2.2 != (1 : Int))) || (q49.2.2 != (1 : Int))) || (q64.2.2 != (0 : Int))) || (q79.2.2 != (1 : Int))) || (q86.2.2 != (1 : Int))) with hb122 | hb122
    · skip
      refine st_skip hf (wantN hf rfl rfl hb122) rfl (by decide) ?_ rfl
      clear hf; intro a hf
      refine st_skip hf (wantN hf rfl rfl hb122) rfl (by decide) ?_ rfl
      clear hf; intro a hf
      refine st_pick (v := .bool true) hf rfl rfl (fun hb' => ?_) (fun hb' => ?_) (by decide) ?_
      · rfl
      · exact absurd (hb122.symm.trans hb') (by decide)
      clear hf; intro a ha hf; clear ha
      refine st_nil hf (th_n ?_)
      exact ⟨hf.sub ⟨rfl, rfl, rfl, (by rw [hb122]; rfl), trivial⟩, hp⟩
    refine st_move hf (wantY hf rfl rfl hb122) rfl (by decide) ?_
    clear hf; intro a ha hf; clear ha
    refine st_ineq hf (by decide) (wantY hf rfl rfl hb122) rfl rfl ?_
    clear hf; intro a ha hf; clear ha
    refine st_pick (v := .bool (q107.2.2 != (1 : Int))) hf rfl rfl (fun hb' => ?_) (fun hb' => ?_) (by decide) ?_
    · exact absurd (hb122.symm.trans hb') (by decide)
    · rfl
    clear hf; intro a ha hf; clear ha
    refine st_nil hf (th_n ?_)
    exact ⟨hf.sub ⟨rfl, rfl, rfl, (by rw [hb122]; rfl), trivial⟩, hp⟩
  rintro a w ⟨hf, hp⟩
  refine st_move hf rfl rfl (by decide) ?_
  clear hf; intro a ha hf; clear ha
  refine wpList_cut 3 (fun a w => Fr 230 a [(3, v25), (12, v66), (138, .bool ((((((((q23.2.2 != (0 : Int)) || (q29.2.2 != (1 : Int))) || (q49.2.2 != (1 : Int))) || (q64.2.2 != (0 : Int))) || (q79.2.2 != (1 : Int))) || (q86.2.2 != (1 : Int))) || (q107.2.2 != (1 : Int))) || (q23.2.1 != (0 : Int))))] ∧ Hp S w0 w (Res.sl (Ek.int .u8) 51 v8 (q11.set ((0 : Int)).toNat (3 : Int)) :: Res.sl Ek.bool 4 v109 q107.1 :: Res.sl Ek.bool 4 v93 q86.1 :: Res.sl Ek.bool 4 v81 q79.1 :: Res.sl Ek.bool 4 v66 q64.1 :: Res.sl Ek.bool 4 v51 q49.1 :: Res.sl Ek.bool 4 v36 q29.1 :: Res.sl Ek.bool 4 v25 q23.1 :: ow)) ?_ ?_
  · rcases Bool.eq_false_or_eq_true (((((((q23.2.2 != (0 : Int)) || (q29.2.2 != (1 : Int))) || (q49.2.2 != (1 : Int))) || (q64.2.2 != (0 : Int))) || (q79.2.2 != (1 : Int))) || (q86.2.2 != (1 : Int))) || (q107.2.2 != (1 : Int))) with hb124 | hb124
    · skip
      refine st_skip hf (wantN hf rfl rfl hb124) rfl (by decide) ?_ rfl
      clear hf; intro a hf
      refine st_skip hf (wantN hf rfl rfl hb124) rfl (by decide) ?_ rfl
      clear hf; intro a hf
      refine st_pick (v := .bool true) hf rfl rfl (fun hb' => ?_) (fun hb' => ?_) (by decide) ?_
      · rfl
      · exact absurd (hb124.symm.trans hb') (by decide)
      clear hf; intro a ha hf; clear ha
      refine st_nil hf (th_n ?_)
      exact ⟨hf.sub ⟨rfl, rfl, (by rw [hb124]; rfl), trivial⟩, hp⟩
    refine st_move hf (wantY hf rfl rfl hb124) rfl (by decide) ?_
    clear hf; intro a ha hf; clear ha
    refine st_ineq hf (by decide) (wantY hf rfl rfl hb124) rfl rfl ?_
    clear hf; intro a ha hf; clear ha
    refine st_pick (v := .bool (q23.2.1 != (0 : Int))) hf rfl rfl (fun hb' => ?_) (fun hb' => ?_) (by decide) ?_
    · exact absurd (hb124.symm.trans hb') (by decide)
    · rfl
    clear hf; intro a ha hf; clear ha
    refine st_nil hf (th_n ?_)
    exact ⟨hf.sub ⟨rfl, rfl, (by rw [hb124]; rfl), trivial⟩, hp⟩
  rintro a w ⟨hf, hp⟩
  refine st_move hf rfl rfl (by decide) ?_
  clear hf; intro a ha hf; clear ha
  refine wpList_cut 4 (fun a w => Fr 230 a [(3, v25), (12, v66), (143, .bool (((((((((q23.2.2 != (0 : Int)) || (q29.2.2 != (1 : Int))) || (q49.2.2 != (1 : Int))) || (q64.2.2 != (0 : Int))) || (q79.2.2 != (1 : Int))) || (q86.2.2 != (1 : Int))) || (q107.2.2 != (1 : Int))) || (q23.2.1 != (0 : Int))) || ((q23.1.length : Int) != (16382 : Int))))] ∧ Hp S w0 w (Res.sl (Ek.int .u8) 51 v8 (q11.set ((0 : Int)).toNat (3 : Int)) :: Res.sl Ek.bool 4 v109 q107.1 :: Res.sl Ek.bool 4 v93 q86.1 :: Res.sl Ek.bool 4 v81 q79.1 :: Res.sl Ek.bool 4 v66 q64.1 :: Res.sl Ek.bool 4 v51 q49.1 :: Res.sl Ek.bool 4 v36 q29.1 :: Res.sl Ek.bool 4 v25 q23.1 :: ow)) ?_ ?_
  · rcases Bool.eq_false_or_eq_true ((((((((q23.2.2 != (0 : Int)) || (q29.2.2 != (1 : Int))) || (q49.2.2 != (1 : Int))) || (q64.2.2 != (0 : Int))) || (q79.2.2 != (1 : Int))) || (q86.2.2 != (1 : Int))) || (q107.2.2 != (1 : Int))) || (q23.2.1 != (0 : Int))) with hb126 | hb126
    · skip
      refine st_skip hf (wantN hf rfl rfl hb126) rfl (by decide) ?_ rfl
      clear hf; intro a hf
      refine st_skip hf (wantN hf rfl rfl hb126) rfl (by decide) ?_ rfl
      clear hf; intro a hf
      refine st_skip hf (wantN hf rfl rfl hb126) rfl (by decide) ?_ rfl
      clear hf; intro a hf
      refine st_pick (v := .bool true) hf rfl rfl (fun hb' => ?_) (fun hb' => ?_) (by decide) ?_
      · rfl
      · exact absurd (hb126.symm.trans hb') (by decide)
      clear hf; intro a ha hf; clear ha
      refine st_nil hf (th_n ?_)
      exact ⟨hf.sub ⟨rfl, rfl, (by rw [hb126]; rfl), trivial⟩, hp⟩
    refine st_move hf (wantY hf rfl rfl hb126) rfl (by decide) ?_
    clear hf; intro a ha hf; clear ha
    refine st_len (E := Ek.bool) hf (by decide) Try.underlying22 (wantY hf rfl rfl hb126) rfl (hp.sl (i := 7) rfl) ?_
    clear hf; intro a ha hf; clear ha
    refine st_ineq hf (by decide) (wantY hf rfl rfl hb126) rfl rfl ?_
    clear hf; intro a ha hf; clear ha
    refine st_pick (v := .bool ((q23.1.length : Int) != (16382 : Int))) hf rfl rfl (fun hb' => ?_) (fun hb' => ?_) (by decide) ?_
    · exact absurd (hb126.symm.trans hb') (by decide)
    · rfl
    clear hf; intro a ha hf; clear ha
    refine st_nil hf (th_n ?_)
    exact ⟨hf.sub ⟨rfl, rfl, (by rw [hb126]; rfl), trivial⟩, hp⟩
  rintro a w ⟨hf, hp⟩
  refine st_move hf rfl rfl (by decide) ?_
  clear hf; intro a ha hf; clear ha
  refine wpList_cut 4 (fun a w => Fr 230 a [(3, v25), (148, .bool ((((((((((q23.2.2 != (0 : Int)) || (q29.2.2 != (1 : Int))) || (q49.2.2 != (1 : Int))) || (q64.2.2 != (0 : Int))) || (q79.2.2 != (1 : Int))) || (q86.2.2 != (1 : Int))) || (q107.2.2 != (1 : Int))) || (q23.2.1 != (0 : Int))) || ((q23.1.length : Int) != (16382 : Int))) || ((q64.1.length : Int) != (0 : Int))))] ∧ Hp S w0 w (Res.sl (Ek.int .u8) 51 v8 (q11.set ((0 : Int)).toNat (3 : Int)) :: Res.sl Ek.bool 4 v109 q107.1 :: Res.sl Ek.bool 4 v93 q86.1 :: Res.sl Ek.bool 4 v81 q79.1 :: Res.sl Ek.bool 4 v66 q64.1 :: Res.sl Ek.bool 4 v51 q49.1 :: Res.sl Ek.bool 4 v36 q29.1 :: Res.sl Ek.bool 4 v25 q23.1 :: ow)) ?_ ?_
  · rcases Bool.eq_false_or_eq_true (((((((((q23.2.2 != (0 : Int)) || (q29.2.2 != (1 : Int))) || (q49.2.2 != (1 : Int))) || (q64.2.2 != (0 : Int))) || (q79.2.2 != (1 : Int))) || (q86.2.2 != (1 : Int))) || (q107.2.2 != (1 : Int))) || (q23.2.1 != (0 : Int))) || ((q23.1.length : Int) != (16382 : Int))) with hb128 | hb128
    · skip
      refine st_skip hf (wantN hf rfl rfl hb128) rfl (by decide) ?_ rfl
      clear hf; intro a hf
      refine st_skip hf (wantN hf rfl rfl hb128) rfl (by decide) ?_ rfl
      clear hf; intro a hf
      refine st_skip hf (wantN hf rfl rfl hb128) rfl (by decide) ?_ rfl
      clear hf; intro a hf
      refine st_pick (v := .bool true) hf rfl rfl (fun hb' => ?_) (fun hb' => ?_) (by decide) ?_
      · rfl
      · exact absurd (hb128.symm.trans hb') (by decide)
      clear hf; intro a ha hf; clear ha
      refine st_nil hf (th_n ?_)
      exact ⟨hf.sub ⟨rfl, (by rw [hb128]; rfl), trivial⟩, hp⟩
    refine st_move hf (wantY hf rfl rfl hb128) rfl (by decide) ?_
    clear hf; intro a ha hf; clear ha
    refine st_len (E := Ek.bool) hf (by decide) Try.underlying22 (wantY hf rfl rfl hb128) rfl (hp.sl (i := 4) rfl) ?_
    clear hf; intro a ha hf; clear ha
    refine st_ineq hf (by decide) (wantY hf rfl rfl hb128) rfl rfl ?_
    clear hf; intro a ha hf; clear ha
    refine st_pick (v := .bool ((q64.1.length : Int) != (0 : Int))) hf rfl rfl (fun hb' => ?_) (fun hb' => ?_) (by decide) ?_
    · exact absurd (hb128.symm.trans hb') (by decide)
    · rfl
    clear hf; intro a ha hf; clear ha
    refine st_nil hf (th_n ?_)
    exact ⟨hf.sub ⟨rfl, (by rw [hb128]; rfl), trivial⟩, hp⟩
  rintro a w ⟨hf, hp⟩
  refine st_nil hf ?_
  refine th_n ?_
  refine wp_if hf rfl (fun hb => ?_) (fun hb => ?_)
  · replace h := ifT h hb
    refine wp_seq ?_
    refine wp_reg ?_
    refine st_assign hf rfl rfl (by decide) ?_
    clear hf; intro a ha hf; clear ha
    refine st_nil hf ?_
    refine th_n ?_
    refine wp_ret ?_
    refine th_r ?_
    obtain rfl := Option.some.inj h
    have hp : Hp _ _ _ (ow) := Hp.sel (pre := [Res.sl (Ek.int .u8) 51 v8 (q11.set ((0 : Int)).toNat (3 : Int)), Res.sl Ek.bool 4 v109 q107.1, Res.sl Ek.bool 4 v93 q86.1, Res.sl Ek.bool 4 v81 q79.1, Res.sl Ek.bool 4 v66 q64.1, Res.sl Ek.bool 4 v51 q49.1, Res.sl Ek.bool 4 v36 q29.1, Res.sl Ek.bool 4 v25 q23.1]) (tail := ow) (rs' := []) hp [] (by decide) (by simp) rfl
    exact ⟨rfl, ⟨hf.sub ⟨rfl, trivial⟩, hp⟩⟩
  replace h := ifF h hb
  refine wp_skip ?_
  refine th_n ?_
  refine wp_seq ?_
  refine wp_seq ?_
  refine wp_reg ?_
  refine st_assign hf rfl rfl (by decide) ?_
  clear hf; intro a ha hf; clear ha
  refine st_nil hf ?_
  refine th_n ?_
  refine wp_block ?_
  obtain ⟨q130, hl, h⟩ := bnd h
  have hp : Hp _ _ _ (Res.sl Ek.bool 4 v25 q23.1 :: ow) := Hp.sel (pre := [Res.sl (Ek.int .u8) 51 v8 (q11.set ((0 : Int)).toNat (3 : Int)), Res.sl Ek.bool 4 v109 q107.1, Res.sl Ek.bool 4 v93 q86.1, Res.sl Ek.bool 4 v81 q79.1, Res.sl Ek.bool 4 v66 q64.1, Res.sl Ek.bool 4 v51 q49.1, Res.sl Ek.bool 4 v36 q29.1, Res.sl Ek.bool 4 v25 q23.1]) (tail := ow) (rs' := [Res.sl Ek.bool 4 v25 q23.1]) hp [7] (by decide) (by simp) rfl
  refine wp_loop_pure (f := (f_foghornlaw22_HardNames.s2 q23)) (s := (0 : Int)) (fun s a w => Fr 230 a [(3, v25), (24, .int .i64 s)] ∧ Hp S w0 w (Res.sl Ek.bool 4 v25 q23.1 :: ow)) (fun q e a w => match q with | (Sum.inl q) => e = .exit 2 ∧ Fr 230 a [] ∧ Hp S w0 w (ow) | (Sum.inr q) => e = .ret ∧ Fr 230 a [(0, .bool q)] ∧ Hp S w0 w (ow)) ?_ hl ⟨hf.sub ⟨rfl, rfl, trivial⟩, hp⟩ ?_
  · clear hl hf hp
    intro s x a w h hI
    obtain ⟨i24, hs⟩ : ∃ z, z = s := ⟨s, rfl⟩; subst hs
    obtain ⟨hf, hp⟩ : Fr 230 a [(3, v25), (24, .int .i64 i24)] ∧ Hp S w0 w (Res.sl Ek.bool 4 v25 q23.1 :: ow) := hI
    replace h : f_foghornlaw22_HardNames.s2c q23 i24 = some x := h
    unfold f_foghornlaw22_HardNames.s2c at h
    refine wp_seq ?_
    refine wp_seq ?_
    refine wp_reg ?_
    refine st_move hf rfl rfl (by decide) ?_
    clear hf; intro a ha hf; clear ha
    refine st_move hf rfl rfl (by decide) ?_
    clear hf; intro a ha hf; clear ha
    refine st_len (E := Ek.bool) hf (by decide) Try.underlying22 rfl rfl (hp.sl (i := 0) rfl) ?_
    clear hf; intro a ha hf; clear ha
    refine st_ilss hf (by decide) rfl rfl rfl ?_
    clear hf; intro a ha hf; clear ha
    refine st_nil hf ?_
    refine th_n ?_
    refine wp_if hf rfl (fun hb => ?_) (fun hb => ?_)
    · replace h := ifT h hb
      refine wp_skip ?_
      refine th_n ?_
      refine wp_seq ?_
      refine wp_block ?_
      refine wp_seq ?_
      refine wp_reg ?_
      refine st_move hf rfl rfl (by decide) ?_
      clear hf; intro a ha hf; clear ha
      refine st_move hf rfl rfl (by decide) ?_
      clear hf; intro a ha hf; clear ha
      obtain ⟨hc129, h⟩ := chk h
      refine st_index (E := Ek.bool) hf (by decide) Try.underlying22 elt4 rfl rfl rfl (hp.sl (i := 0) rfl) hc129.1 hc129.2 ?_
      clear hf; intro a ha hf; clear ha
      refine st_ldB hf (by decide) pl4 rfl rfl (hp.sl (i := 0) rfl) hc129.1 hc129.2 ?_
      clear hf; intro a ha hf; clear ha
      refine st_nil hf ?_
      refine th_n ?_
      refine wp_if hf rfl (fun hb => ?_) (fun hb => ?_)
      · replace h := ifT h hb
        refine wp_seq ?_
        refine wp_reg ?_
        refine st_assign hf rfl rfl (by decide) ?_
        clear hf; intro a ha hf; clear ha
        refine st_nil hf ?_
        refine th_n ?_
        refine wp_ret ?_
        refine ib_r ?_
        refine th_r ?_
        obtain rfl := Option.some.inj h
        have hp : Hp _ _ _ (ow) := Hp.sel (pre := [Res.sl Ek.bool 4 v25 q23.1]) (tail := ow) (rs' := []) hp [] (by decide) (by simp) rfl
        exact rnd_r (by simp) ⟨rfl, ⟨hf.sub ⟨rfl, trivial⟩, hp⟩⟩
      replace h := ifF h hb
      refine wp_skip ?_
      refine ib_n ?_
      refine th_n ?_
      refine wp_reg ?_
      refine st_move hf rfl rfl (by decide) ?_
      clear hf; intro a ha hf; clear ha
      refine st_iadd hf (by decide) rfl rfl rfl ?_
      clear hf; intro a ha hf; clear ha
      refine st_assign hf rfl rfl (by decide) ?_
      clear hf; intro a ha hf; clear ha
      refine st_nil hf ?_
      obtain rfl := Option.some.inj h
      exact rnd_l ⟨hf.sub ⟨rfl, rfl, trivial⟩, hp⟩
    replace h := ifF h hb
    refine wp_exit ?_
    refine th_e ?_
    obtain rfl := Option.some.inj h
    have hp : Hp _ _ _ (ow) := Hp.sel (pre := [Res.sl Ek.bool 4 v25 q23.1]) (tail := ow) (rs' := []) hp [] (by decide) (by simp) rfl
    exact rnd_r (by simp) ⟨rfl, hf.sub trivial, hp⟩
  clear hl hf hp
  intro e a w hne hO
  rcases q130 with q131 | q132
  · replace h := smL h
    obtain ⟨rfl, hf, hp⟩ := hO
    refine ib_same ?_
    refine th_n ?_
    refine wp_seq ?_
    refine wp_reg ?_
    obtain ⟨hc133, h⟩ := chk h
    refine st_make (E := Ek.bool) hf (by decide) elt4 Try.underlying22 (by decide) hp rfl rfl rfl hc133.1 hc133.2.1 hc133.2.2 ?_
    clear hf; intro a w v134 hf hp0; clear hp; have hp := hp0; clear hp0
    rw [← mk0_eq] at hp
    replace hp : Hp _ _ _ (Res.sl Ek.bool 4 v134 (mk0 (65 : Int) false) :: ow) := hp
    refine st_assign hf rfl rfl (by decide) ?_
    clear hf; intro a ha hf; clear ha
    refine st_nil hf ?_
    refine th_n ?_
    refine wp_seq ?_
    refine wp_reg ?_
    refine st_move hf rfl rfl (by decide) ?_
    clear hf; intro a ha hf; clear ha
    obtain ⟨hc136, h⟩ := chk h
    refine st_index (E := Ek.bool) hf (by decide) Try.underlying22 elt4 rfl rfl rfl (hp.sl (i := 0) rfl) hc136.1 hc136.2 ?_
    clear hf; intro a ha hf; clear ha
    refine st_store (E := Ek.bool) hf elt4 hp (i := 0) rfl rfl rfl rfl rfl hc136.1 hc136.2 ?_
    clear hf; intro a w hf hp0; clear hp; have hp := hp0; clear hp0
    replace hp : Hp _ _ _ (Res.sl Ek.bool 4 v134 ((mk0 (65 : Int) false).set ((0 : Int)).toNat true) :: ow) := hp
    refine st_nil hf ?_
    refine th_n ?_
    refine wp_seq ?_
    refine wp_reg ?_
    refine st_move hf rfl rfl (by decide) ?_
    clear hf; intro a ha hf; clear ha
    obtain ⟨q137, hcall138, h⟩ := bnd h
    obtain ⟨S139, hp140, rd141, up142, bk143⟩ := Hp.lendS hp (i := 0) rfl
    refine st_call hf (by decide) Try.func9 rfl rfl rfl rfl rfl (f_hard_Thin_c hp140 _ _ (RdS.nil _ _ _) _ _ rd141 hcall138) ?_
    rintro _ w ⟨v144, rfl, hp0⟩
    have hp0 := bk143 _ _ hp0
    clear hp; have hp := hp0; clear hp0
    replace hp : Hp _ _ _ (Res.sl Ek.bool 4 v134 ((mk0 (65 : Int) false).set ((0 : Int)).toNat true) :: Res.sl Ek.bool 4 v144 q137.1 :: ow) := hp
    refine ⟨_, rfl, ?_⟩
    clear hf; intro a hf
    refine st_move hf rfl rfl (by decide) ?_
    clear hf; intro a ha hf; clear ha
    refine st_extract hf (by decide) rfl rfl rfl ?_
    clear hf; intro a ha hf; clear ha
    refine st_extract hf (by decide) rfl rfl rfl ?_
    clear hf; intro a ha hf; clear ha
    refine st_assign hf rfl rfl (by decide) ?_
    clear hf; intro a ha hf; clear ha
    refine st_nil hf ?_
    refine th_n ?_
    refine wp_seq ?_
    obtain ⟨S146, hp147, rd148, up149, bk150⟩ := Hp.lendS hp (i := 0) rfl
    have rl151 := rd148
    obtain ⟨hc152, h⟩ := chk h
    obtain ⟨hc155, h⟩ := chk h
    have hc156 : 0 ≤ ((64 : Int)).toNat := by omega
    have hc157 : ((64 : Int)).toNat ≤ ((mk0 (65 : Int) false).set ((0 : Int)).toNat true).length := by omega
    obtain ⟨q158, hcall159, h⟩ := bnd h
    refine wp_cutN (fun a w => ∃ (v153 : Value) (v165 : Value), Fr 230 a [(5, .int .i64 q137.2), (8, .int .i64 q158.2), (25, v134), (26, v165)] ∧ Hp S w0 w (Res.sl Ek.bool 4 v134 ((mk0 (65 : Int) false).set ((0 : Int)).toNat true) :: Res.sl Ek.bool 4 v153 (mk0 (32768 : Int) false) :: Res.sl Ek.bool 4 v165 q158.1 :: Res.sl Ek.bool 4 v144 q137.1 :: ow)) ?_ ?_
    · have hp := hp147.same (Same.drew w)
      refine dr_begin' (fun a w => ∃ (v153 : Value) (v165 : Value), Fr 230 a [(5, .int .i64 q137.2), (8, .int .i64 q158.2), (25, v134), (26, v165)] ∧ Hp S w0 w (Res.sl Ek.bool 4 v134 ((mk0 (65 : Int) false).set ((0 : Int)).toNat true) :: Res.sl Ek.bool 4 v153 (mk0 (32768 : Int) false) :: Res.sl Ek.bool 4 v165 q158.1 :: Res.sl Ek.bool 4 v144 q137.1 :: ow)) (fun w' => ∃ l, Hp S146 w w' l) [] (by kernel_rfl) ?_
      refine dr_take 1 (v134) rfl (by kernel_rfl) (by kernel_rfl) (by kernel_rfl) (by kernel_rfl) rfl rfl hf (by decide) rfl (fun w hp => ?_) ⟨_, hp⟩ ?_
      · obtain ⟨_, hp⟩ := hp
        refine st_move hf rfl rfl (by decide) ?_
        clear hf; intro a ha hf
        exact st_nil hf (th_n ⟨ha, rfl⟩)
      clear hf; intro a hf
      refine dr_take 2 ((GL.cut v134 0 (((64 : Int)).toNat) 1)) rfl (by kernel_rfl) (by kernel_rfl) (by kernel_rfl) (by kernel_rfl) rfl rfl hf (by decide) rfl (fun w hp => ?_) ⟨_, hp⟩ ?_
      · obtain ⟨_, hp⟩ := hp
        refine st_cutS (E := Ek.bool) hf (by decide) Try.underlying22 elt4 rfl rfl (rl151.sl hp) (.inl ⟨rfl, rfl⟩) (.inr ⟨_, _, rfl, evI rfl (by omega)⟩) hc156 hc157 ?_
        clear hf; intro a ha hf
        exact st_nil hf (th_n ⟨ha, rfl⟩)
      clear hf; intro a hf
      refine dr_one 0 rfl (by kernel_rfl) ?_
      refine st_make (E := Ek.bool) hf (by decide) elt4 Try.underlying22 (by decide) hp rfl rfl rfl hc152.1 hc152.2.1 hc152.2.2 ?_
      clear hf; intro a w v153 hf hp0; clear hp; have hp := hp0; clear hp0
      rw [← mk0_eq] at hp
      replace hp : Hp _ _ _ (Res.sl Ek.bool 4 v153 (mk0 (32768 : Int) false) :: Res.sl Ek.bool 4 v144 q137.1 :: ow) := hp
      refine st_nil hf (th_n ⟨fun _ _ => ⟨_, hp⟩, ?_⟩)
      refine dr_one 3 rfl (by kernel_rfl) ?_
      obtain ⟨S160, hp161, rd162, up163, bk164⟩ := Hp.lendS hp (i := 0) rfl
      refine st_call hf (by decide) Try.func9 rfl rfl rfl rfl rfl (f_hard_Thin_c hp161 _ _ rd162 _ _ (((RdS.cut rl151 hc156 hc157).now hp).mono up163) hcall159) ?_
      rintro _ w ⟨v165, rfl, hp0⟩
      have hp0 := bk164 _ _ hp0
      clear hp; have hp := hp0; clear hp0
      replace hp : Hp _ _ _ (Res.sl Ek.bool 4 v153 (mk0 (32768 : Int) false) :: Res.sl Ek.bool 4 v165 q158.1 :: Res.sl Ek.bool 4 v144 q137.1 :: ow) := hp
      refine ⟨_, rfl, ?_⟩
      clear hf; intro a hf
      refine st_nil hf (th_n ⟨fun _ _ => ⟨_, hp⟩, ?_⟩)
      refine dr_take 4 (.tuple #[v165, .int .i64 q158.2]) rfl (by kernel_rfl) (by kernel_rfl) (by kernel_rfl) (by kernel_rfl) rfl rfl hf (by decide) rfl (fun w hp => ?_) ⟨_, hp⟩ ?_
      · obtain ⟨_, hp⟩ := hp
        refine st_move hf rfl rfl (by decide) ?_
        clear hf; intro a ha hf
        exact st_nil hf (th_n ⟨ha, rfl⟩)
      clear hf; intro a hf
      refine dr_take 5 (v165) rfl (by kernel_rfl) (by kernel_rfl) (by kernel_rfl) (by kernel_rfl) rfl rfl hf (by decide) rfl (fun w hp => ?_) ⟨_, hp⟩ ?_
      · obtain ⟨_, hp⟩ := hp
        refine st_extract hf (by decide) rfl rfl rfl ?_
        clear hf; intro a ha hf
        exact st_nil hf (th_n ⟨ha, rfl⟩)
      clear hf; intro a hf
      refine dr_take 6 (.int .i64 q158.2) rfl (by kernel_rfl) (by kernel_rfl) (by kernel_rfl) (by kernel_rfl) rfl rfl hf (by decide) rfl (fun w hp => ?_) ⟨_, hp⟩ ?_
      · obtain ⟨_, hp⟩ := hp
        refine st_extract hf (by decide) rfl rfl rfl ?_
        clear hf; intro a ha hf
        exact st_nil hf (th_n ⟨ha, rfl⟩)
      clear hf; intro a hf
      refine dr_take 7 (v165) rfl (by kernel_rfl) (by kernel_rfl) (by kernel_rfl) (by kernel_rfl) rfl rfl hf (by decide) rfl (fun w hp => ?_) ⟨_, hp⟩ ?_
      · obtain ⟨_, hp⟩ := hp
        refine st_assign hf rfl rfl (by decide) ?_
        clear hf; intro a ha hf
        exact st_nil hf (th_n ⟨ha, rfl⟩)
      clear hf; intro a hf
      refine dr_take 8 (.int .i64 q158.2) rfl (by kernel_rfl) (by kernel_rfl) (by kernel_rfl) (by kernel_rfl) rfl rfl hf (by decide) rfl (fun w hp => ?_) ⟨_, hp⟩ ?_
      · obtain ⟨_, hp⟩ := hp
        refine st_assign hf rfl rfl (by decide) ?_
        clear hf; intro a ha hf
        exact st_nil hf (th_n ⟨ha, rfl⟩)
      clear hf; intro a hf
      refine dr_end (by kernel_rfl) ?_ _
      have hp := bk150 _ _ hp
      exact ⟨v153, v165, hf.sub ⟨rfl, rfl, rfl, rfl, trivial⟩, hp⟩
    rintro a w ⟨v153, v165, hf, hp⟩
    refine th_n ?_
    refine wp_seq ?_
    obtain ⟨S167, hp168, rd169, up170, bk171⟩ := Hp.lendS hp (i := 0) rfl
    have rl172 := rd169
    obtain ⟨hc173, h⟩ := chk h
    obtain ⟨hc176, h⟩ := chk h
    have hc177 : 0 ≤ ((64 : Int)).toNat := by omega
    have hc178 : ((64 : Int)).toNat ≤ ((mk0 (65 : Int) false).set ((0 : Int)).toNat true).length := by omega
    obtain ⟨q179, hcall180, h⟩ := bnd h
    refine wp_cutN (fun a w => ∃ (v174 : Value) (v186 : Value), Fr 230 a [(5, .int .i64 q137.2), (8, .int .i64 q158.2), (11, .int .i64 q179.2), (25, v134), (26, v165)] ∧ Hp S w0 w (Res.sl Ek.bool 4 v134 ((mk0 (65 : Int) false).set ((0 : Int)).toNat true) :: Res.sl Ek.bool 4 v174 (mk0 (32769 : Int) false) :: Res.sl Ek.bool 4 v186 q179.1 :: Res.sl Ek.bool 4 v153 (mk0 (32768 : Int) false) :: Res.sl Ek.bool 4 v165 q158.1 :: Res.sl Ek.bool 4 v144 q137.1 :: ow)) ?_ ?_
    · have hp := hp168.same (Same.drew w)
      refine dr_begin' (fun a w => ∃ (v174 : Value) (v186 : Value), Fr 230 a [(5, .int .i64 q137.2), (8, .int .i64 q158.2), (11, .int .i64 q179.2), (25, v134), (26, v165)] ∧ Hp S w0 w (Res.sl Ek.bool 4 v134 ((mk0 (65 : Int) false).set ((0 : Int)).toNat true) :: Res.sl Ek.bool 4 v174 (mk0 (32769 : Int) false) :: Res.sl Ek.bool 4 v186 q179.1 :: Res.sl Ek.bool 4 v153 (mk0 (32768 : Int) false) :: Res.sl Ek.bool 4 v165 q158.1 :: Res.sl Ek.bool 4 v144 q137.1 :: ow)) (fun w' => ∃ l, Hp S167 w w' l) [] (by kernel_rfl) ?_
      refine dr_take 1 (v134) rfl (by kernel_rfl) (by kernel_rfl) (by kernel_rfl) (by kernel_rfl) rfl rfl hf (by decide) rfl (fun w hp => ?_) ⟨_, hp⟩ ?_
      · obtain ⟨_, hp⟩ := hp
        refine st_move hf rfl rfl (by decide) ?_
        clear hf; intro a ha hf
        exact st_nil hf (th_n ⟨ha, rfl⟩)
      clear hf; intro a hf
      refine dr_take 2 ((GL.cut v134 0 (((64 : Int)).toNat) 1)) rfl (by kernel_rfl) (by kernel_rfl) (by kernel_rfl) (by kernel_rfl) rfl rfl hf (by decide) rfl (fun w hp => ?_) ⟨_, hp⟩ ?_
      · obtain ⟨_, hp⟩ := hp
        refine st_cutS (E := Ek.bool) hf (by decide) Try.underlying22 elt4 rfl rfl (rl172.sl hp) (.inl ⟨rfl, rfl⟩) (.inr ⟨_, _, rfl, evI rfl (by omega)⟩) hc177 hc178 ?_
        clear hf; intro a ha hf
        exact st_nil hf (th_n ⟨ha, rfl⟩)
      clear hf; intro a hf
      refine dr_one 0 rfl (by kernel_rfl) ?_
      refine st_make (E := Ek.bool) hf (by decide) elt4 Try.underlying22 (by decide) hp rfl rfl rfl hc173.1 hc173.2.1 hc173.2.2 ?_
      clear hf; intro a w v174 hf hp0; clear hp; have hp := hp0; clear hp0
      rw [← mk0_eq] at hp
      replace hp : Hp _ _ _ (Res.sl Ek.bool 4 v174 (mk0 (32769 : Int) false) :: Res.sl Ek.bool 4 v153 (mk0 (32768 : Int) false) :: Res.sl Ek.bool 4 v165 q158.1 :: Res.sl Ek.bool 4 v144 q137.1 :: ow) := hp
      refine st_nil hf (th_n ⟨fun _ _ => ⟨_, hp⟩, ?_⟩)
      refine dr_one 3 rfl (by kernel_rfl) ?_
      obtain ⟨S181, hp182, rd183, up184, bk185⟩ := Hp.lendS hp (i := 0) rfl
      refine st_call hf (by decide) Try.func9 rfl rfl rfl rfl rfl (f_hard_Thin_c hp182 _ _ rd183 _ _ (((RdS.cut rl172 hc177 hc178).now hp).mono up184) hcall180) ?_
      rintro _ w ⟨v186, rfl, hp0⟩
      have hp0 := bk185 _ _ hp0
      clear hp; have hp := hp0; clear hp0
      replace hp : Hp _ _ _ (Res.sl Ek.bool 4 v174 (mk0 (32769 : Int) false) :: Res.sl Ek.bool 4 v186 q179.1 :: Res.sl Ek.bool 4 v153 (mk0 (32768 : Int) false) :: Res.sl Ek.bool 4 v165 q158.1 :: Res.sl Ek.bool 4 v144 q137.1 :: ow) := hp
      refine ⟨_, rfl, ?_⟩
      clear hf; intro a hf
      refine st_nil hf (th_n ⟨fun _ _ => ⟨_, hp⟩, ?_⟩)
      refine dr_take 4 (.tuple #[v186, .int .i64 q179.2]) rfl (by kernel_rfl) (by kernel_rfl) (by kernel_rfl) (by kernel_rfl) rfl rfl hf (by decide) rfl (fun w hp => ?_) ⟨_, hp⟩ ?_
      · obtain ⟨_, hp⟩ := hp
        refine st_move hf rfl rfl (by decide) ?_
        clear hf; intro a ha hf
        exact st_nil hf (th_n ⟨ha, rfl⟩)
      clear hf; intro a hf
      refine dr_take 5 (v186) rfl (by kernel_rfl) (by kernel_rfl) (by kernel_rfl) (by kernel_rfl) rfl rfl hf (by decide) rfl (fun w hp => ?_) ⟨_, hp⟩ ?_
      · obtain ⟨_, hp⟩ := hp
        refine st_extract hf (by decide) rfl rfl rfl ?_
        clear hf; intro a ha hf
        exact st_nil hf (th_n ⟨ha, rfl⟩)
      clear hf; intro a hf
      refine dr_take 6 (.int .i64 q179.2) rfl (by kernel_rfl) (by kernel_rfl) (by kernel_rfl) (by kernel_rfl) rfl rfl hf (by decide) rfl (fun w hp => ?_) ⟨_, hp⟩ ?_
      · obtain ⟨_, hp⟩ := hp
        refine st_extract hf (by decide) rfl rfl rfl ?_
        clear hf; intro a ha hf
        exact st_nil hf (th_n ⟨ha, rfl⟩)
      clear hf; intro a hf
      refine dr_take 7 (.int .i64 q179.2) rfl (by kernel_rfl) (by kernel_rfl) (by kernel_rfl) (by kernel_rfl) rfl rfl hf (by decide) rfl (fun w hp => ?_) ⟨_, hp⟩ ?_
      · obtain ⟨_, hp⟩ := hp
        refine st_assign hf rfl rfl (by decide) ?_
        clear hf; intro a ha hf
        exact st_nil hf (th_n ⟨ha, rfl⟩)
      clear hf; intro a hf
      refine dr_end (by kernel_rfl) ?_ _
      have hp := bk171 _ _ hp
      exact ⟨v174, v186, hf.sub ⟨rfl, rfl, rfl, rfl, rfl, trivial⟩, hp⟩
    rintro a w ⟨v174, v186, hf, hp⟩
    refine th_n ?_
    refine wp_seq ?_
    refine wp_reg ?_
    refine st_move hf rfl rfl (by decide) ?_
    clear hf; intro a ha hf; clear ha
    refine st_move hf rfl rfl (by decide) ?_
    clear hf; intro a ha hf; clear ha
    obtain ⟨hc188, h⟩ := chk h
    have hc189 : 0 ≤ ((64 : Int)).toNat := by omega
    have hc190 : ((64 : Int)).toNat ≤ ((mk0 (65 : Int) false).set ((0 : Int)).toNat true).length := by omega
    refine st_cutS (E := Ek.bool) hf (by decide) Try.underlying22 elt4 rfl rfl (hp.sl (i := 0) rfl) (.inl ⟨rfl, rfl⟩) (.inr ⟨_, _, rfl, evI rfl (by omega)⟩) hc189 hc190 ?_
    clear hf; intro a ha hf; clear ha
    obtain ⟨q191, hcall192, h⟩ := bnd h
    obtain ⟨S193, hp194, rd195, up196, bk197⟩ := Hp.lendS hp (i := 4) rfl
    obtain ⟨S198, hp199, rd200, up201, bk202⟩ := Hp.lendS hp194 (i := 0) rfl
    refine st_call hf (by decide) Try.func11 rfl rfl rfl rfl rfl (f_hard_Fill_c hp199 _ _ ((rd195.now hp194).mono up201) _ _ (RdS.cut rd200 hc189 hc190) _ hcall192) ?_
    rintro _ w ⟨v203, rfl, hp0⟩
    have hp0 := bk202 _ _ hp0
    have hp0 := bk197 _ _ hp0
    clear hp; have hp := hp0; clear hp0
    replace hp : Hp _ _ _ (Res.sl Ek.bool 4 v165 q158.1 :: Res.sl Ek.bool 4 v134 ((mk0 (65 : Int) false).set ((0 : Int)).toNat true) :: Res.sl (Ek.int .u8) 51 v203 q191.1 :: Res.sl Ek.bool 4 v174 (mk0 (32769 : Int) false) :: Res.sl Ek.bool 4 v186 q179.1 :: Res.sl Ek.bool 4 v153 (mk0 (32768 : Int) false) :: Res.sl Ek.bool 4 v144 q137.1 :: ow) := hp
    refine ⟨_, rfl, ?_⟩
    clear hf; intro a hf
    refine st_move hf rfl rfl (by decide) ?_
    clear hf; intro a ha hf; clear ha
    refine st_extract hf (by decide) rfl rfl rfl ?_
    clear hf; intro a ha hf; clear ha
    refine st_extract hf (by decide) rfl rfl rfl ?_
    clear hf; intro a ha hf; clear ha
    refine st_assign hf rfl rfl (by decide) ?_
    clear hf; intro a ha hf; clear ha
    refine st_assign hf rfl rfl (by decide) ?_
    clear hf; intro a ha hf; clear ha
    refine st_nil hf ?_
    refine th_n ?_
    refine wp_seq ?_
    refine wp_reg ?_
    refine st_move hf rfl rfl (by decide) ?_
    clear hf; intro a ha hf; clear ha
    obtain ⟨hc205, h⟩ := chk h
    have hc206 : ((1 : Int)).toNat ≤ ((2 : Int)).toNat := by omega
    have hc207 : ((2 : Int)).toNat ≤ ((mk0 (65 : Int) false).set ((0 : Int)).toNat true).length := by omega
    refine st_cutS (E := Ek.bool) hf (by decide) Try.underlying22 elt4 rfl rfl (hp.sl (i := 1) rfl) (.inr ⟨_, _, rfl, evI rfl hc205.1⟩) (.inr ⟨_, _, rfl, evI rfl (by omega)⟩) hc206 hc207 ?_
    clear hf; intro a ha hf; clear ha
    obtain ⟨q208, hcall209, h⟩ := bnd h
    obtain ⟨S210, hp211, rd212, up213, bk214⟩ := Hp.lendS hp (i := 1) rfl
    refine st_call hf (by decide) Try.func11 rfl rfl rfl rfl rfl (f_hard_Fill_c hp211 _ _ (RdS.nil _ _ _) _ _ (RdS.cut rd212 hc206 hc207) _ hcall209) ?_
    rintro _ w ⟨v215, rfl, hp0⟩
    have hp0 := bk214 _ _ hp0
    clear hp; have hp := hp0; clear hp0
    replace hp : Hp _ _ _ (Res.sl Ek.bool 4 v134 ((mk0 (65 : Int) false).set ((0 : Int)).toNat true) :: Res.sl (Ek.int .u8) 51 v215 q208.1 :: Res.sl Ek.bool 4 v165 q158.1 :: Res.sl (Ek.int .u8) 51 v203 q191.1 :: Res.sl Ek.bool 4 v174 (mk0 (32769 : Int) false) :: Res.sl Ek.bool 4 v186 q179.1 :: Res.sl Ek.bool 4 v153 (mk0 (32768 : Int) false) :: Res.sl Ek.bool 4 v144 q137.1 :: ow) := hp
    refine ⟨_, rfl, ?_⟩
    clear hf; intro a hf
    refine st_move hf rfl rfl (by decide) ?_
    clear hf; intro a ha hf; clear ha
    refine st_extract hf (by decide) rfl rfl rfl ?_
    clear hf; intro a ha hf; clear ha
    refine st_extract hf (by decide) rfl rfl rfl ?_
    clear hf; intro a ha hf; clear ha
    refine st_assign hf rfl rfl (by decide) ?_
    clear hf; intro a ha hf; clear ha
    refine st_nil hf ?_
    refine th_n ?_
    refine wp_seq ?_
    refine wp_reg ?_
    obtain ⟨q217, hcall218, h⟩ := bnd h
    refine st_call hf (by decide) Try.func11 rfl rfl rfl rfl rfl (f_hard_Fill_c hp _ _ (RdS.nil _ _ _) _ _ (RdS.nil _ _ _) _ hcall218) ?_
    rintro _ w ⟨v219, rfl, hp0⟩
    clear hp; have hp := hp0; clear hp0
    replace hp : Hp _ _ _ (Res.sl (Ek.int .u8) 51 v219 q217.1 :: Res.sl Ek.bool 4 v134 ((mk0 (65 : Int) false).set ((0 : Int)).toNat true) :: Res.sl (Ek.int .u8) 51 v215 q208.1 :: Res.sl Ek.bool 4 v165 q158.1 :: Res.sl (Ek.int .u8) 51 v203 q191.1 :: Res.sl Ek.bool 4 v174 (mk0 (32769 : Int) false) :: Res.sl Ek.bool 4 v186 q179.1 :: Res.sl Ek.bool 4 v153 (mk0 (32768 : Int) false) :: Res.sl Ek.bool 4 v144 q137.1 :: ow) := hp
    refine ⟨_, rfl, ?_⟩
    clear hf; intro a hf
    refine st_move hf rfl rfl (by decide) ?_
    clear hf; intro a ha hf; clear ha
    refine st_extract hf (by decide) rfl rfl rfl ?_
    clear hf; intro a ha hf; clear ha
    refine st_extract hf (by decide) rfl rfl rfl ?_
    clear hf; intro a ha hf; clear ha
    refine st_assign hf rfl rfl (by decide) ?_
    clear hf; intro a ha hf; clear ha
    refine st_nil hf ?_
    refine th_n ?_
    refine wp_seq ?_
    refine wp_reg ?_
    refine st_move hf rfl rfl (by decide) ?_
    clear hf; intro a ha hf; clear ha
    refine st_ieql hf (by decide) rfl rfl rfl ?_
    clear hf; intro a ha hf; clear ha
    refine st_move hf rfl rfl (by decide) ?_
    clear hf; intro a ha hf; clear ha
    refine wpList_cut 3 (fun a w => Fr 230 a [(11, .int .i64 q179.2), (14, .int .i64 q191.2), (17, .int .i64 q208.2), (20, .int .i64 q217.2), (26, v165), (27, v203), (203, .bool ((q137.2 == (1 : Int)) && (q158.2 == (0 : Int))))] ∧ Hp S w0 w (Res.sl (Ek.int .u8) 51 v219 q217.1 :: Res.sl Ek.bool 4 v134 ((mk0 (65 : Int) false).set ((0 : Int)).toNat true) :: Res.sl (Ek.int .u8) 51 v215 q208.1 :: Res.sl Ek.bool 4 v165 q158.1 :: Res.sl (Ek.int .u8) 51 v203 q191.1 :: Res.sl Ek.bool 4 v174 (mk0 (32769 : Int) false) :: Res.sl Ek.bool 4 v186 q179.1 :: Res.sl Ek.bool 4 v153 (mk0 (32768 : Int) false) :: Res.sl Ek.bool 4 v144 q137.1 :: ow)) ?_ ?_
    · rcases Bool.eq_false_or_eq_true (q137.2 == (1 : Int)) with hb222 | hb222
      · skip
        refine st_move hf (wantY hf rfl rfl hb222) rfl (by decide) ?_
        clear hf; intro a ha hf; clear ha
        refine st_ieql hf (by decide) (wantY hf rfl rfl hb222) rfl rfl ?_
        clear hf; intro a ha hf; clear ha
        refine st_pick (v := .bool (q158.2 == (0 : Int))) hf rfl rfl (fun hb' => ?_) (fun hb' => ?_) (by decide) ?_
        · rfl
        · exact absurd (hb222.symm.trans hb') (by decide)
        clear hf; intro a ha hf; clear ha
        refine st_nil hf (th_n ?_)
        exact ⟨hf.sub ⟨rfl, rfl, rfl, rfl, rfl, rfl, (by rw [hb222]; rfl), trivial⟩, hp⟩
      refine st_skip hf (wantN hf rfl rfl hb222) rfl (by decide) ?_ rfl
      clear hf; intro a hf
      refine st_skip hf (wantN hf rfl rfl hb222) rfl (by decide) ?_ rfl
      clear hf; intro a hf
      refine st_pick (v := .bool false) hf rfl rfl (fun hb' => ?_) (fun hb' => ?_) (by decide) ?_
      · exact absurd (hb222.symm.trans hb') (by decide)
      · rfl
      clear hf; intro a ha hf; clear ha
      refine st_nil hf (th_n ?_)
      exact ⟨hf.sub ⟨rfl, rfl, rfl, rfl, rfl, rfl, (by rw [hb222]; rfl), trivial⟩, hp⟩
    rintro a w ⟨hf, hp⟩
    refine st_move hf rfl rfl (by decide) ?_
    clear hf; intro a ha hf; clear ha
    refine wpList_cut 3 (fun a w => Fr 230 a [(14, .int .i64 q191.2), (17, .int .i64 q208.2), (20, .int .i64 q217.2), (26, v165), (27, v203), (207, .bool (((q137.2 == (1 : Int)) && (q158.2 == (0 : Int))) && (q179.2 == (1 : Int))))] ∧ Hp S w0 w (Res.sl (Ek.int .u8) 51 v219 q217.1 :: Res.sl Ek.bool 4 v134 ((mk0 (65 : Int) false).set ((0 : Int)).toNat true) :: Res.sl (Ek.int .u8) 51 v215 q208.1 :: Res.sl Ek.bool 4 v165 q158.1 :: Res.sl (Ek.int .u8) 51 v203 q191.1 :: Res.sl Ek.bool 4 v174 (mk0 (32769 : Int) false) :: Res.sl Ek.bool 4 v186 q179.1 :: Res.sl Ek.bool 4 v153 (mk0 (32768 : Int) false) :: Res.sl Ek.bool 4 v144 q137.1 :: ow)) ?_ ?_
    · rcases Bool.eq_false_or_eq_true ((q137.2 == (1 : Int)) && (q158.2 == (0 : Int))) with hb224 | hb224
      · skip
        refine st_move hf (wantY hf rfl rfl hb224) rfl (by decide) ?_
        clear hf; intro a ha hf; clear ha
        refine st_ieql hf (by decide) (wantY hf rfl rfl hb224) rfl rfl ?_
        clear hf; intro a ha hf; clear ha
        refine st_pick (v := .bool (q179.2 == (1 : Int))) hf rfl rfl (fun hb' => ?_) (fun hb' => ?_) (by decide) ?_
        · rfl
        · exact absurd (hb224.symm.trans hb') (by decide)
        clear hf; intro a ha hf; clear ha
        refine st_nil hf (th_n ?_)
        exact ⟨hf.sub ⟨rfl, rfl, rfl, rfl, rfl, (by rw [hb224]; rfl), trivial⟩, hp⟩
      refine st_skip hf (wantN hf rfl rfl hb224) rfl (by decide) ?_ rfl
      clear hf; intro a hf
      refine st_skip hf (wantN hf rfl rfl hb224) rfl (by decide) ?_ rfl
      clear hf; intro a hf
      refine st_pick (v := .bool false) hf rfl rfl (fun hb' => ?_) (fun hb' => ?_) (by decide) ?_
      · exact absurd (hb224.symm.trans hb') (by decide)
      · rfl
      clear hf; intro a ha hf; clear ha
      refine st_nil hf (th_n ?_)
      exact ⟨hf.sub ⟨rfl, rfl, rfl, rfl, rfl, (by rw [hb224]; rfl), trivial⟩, hp⟩
    rintro a w ⟨hf, hp⟩
    refine st_move hf rfl rfl (by decide) ?_
    clear hf; intro a ha hf; clear ha
    refine wpList_cut 3 (fun a w => Fr 230 a [(17, .int .i64 q208.2), (20, .int .i64 q217.2), (26, v165), (27, v203), (211, .bool ((((q137.2 == (1 : Int)) && (q158.2 == (0 : Int))) && (q179.2 == (1 : Int))) && (q191.2 == (0 : Int))))] ∧ Hp S w0 w (Res.sl (Ek.int .u8) 51 v219 q217.1 :: Res.sl Ek.bool 4 v134 ((mk0 (65 : Int) false).set ((0 : Int)).toNat true) :: Res.sl (Ek.int .u8) 51 v215 q208.1 :: Res.sl Ek.bool 4 v165 q158.1 :: Res.sl (Ek.int .u8) 51 v203 q191.1 :: Res.sl Ek.bool 4 v174 (mk0 (32769 : Int) false) :: Res.sl Ek.bool 4 v186 q179.1 :: Res.sl Ek.bool 4 v153 (mk0 (32768 : Int) false) :: Res.sl Ek.bool 4 v144 q137.1 :: ow)) ?_ ?_
    · rcases Bool.eq_false_or_eq_true (((q137.2 == (1 : Int)) && (q158.2 == (0 : Int))) && (q179.2 == (1 : Int))) with hb226 | hb226
      · skip
        refine st_move hf (wantY hf rfl rfl hb226) rfl (by decide) ?_
        clear hf; intro a ha hf; clear ha
        refine st_ieql hf (by decide) (wantY hf rfl rfl hb226) rfl rfl ?_
        clear hf; intro a ha hf; clear ha
        refine st_pick (v := .bool (q191.2 == (0 : Int))) hf rfl rfl (fun hb' => ?_) (fun hb' => ?_) (by decide) ?_
        · rfl
        · exact absurd (hb226.symm.trans hb') (by decide)
        clear hf; intro a ha hf; clear ha
        refine st_nil hf (th_n ?_)
        exact ⟨hf.sub ⟨rfl, rfl, rfl, rfl, (by rw [hb226]; rfl), trivial⟩, hp⟩
      refine st_skip hf (wantN hf rfl rfl hb226) rfl (by decide) ?_ rfl
      clear hf; intro a hf
      refine st_skip hf (wantN hf rfl rfl hb226) rfl (by decide) ?_ rfl
      clear hf; intro a hf
      refine st_pick (v := .bool false) hf rfl rfl (fun hb' => ?_) (fun hb' => ?_) (by decide) ?_
      · exact absurd (hb226.symm.trans hb') (by decide)
      · rfl
      clear hf; intro a ha hf; clear ha
      refine st_nil hf (th_n ?_)
      exact ⟨hf.sub ⟨rfl, rfl, rfl, rfl, (by rw [hb226]; rfl), trivial⟩, hp⟩
    rintro a w ⟨hf, hp⟩
    refine st_move hf rfl rfl (by decide) ?_
    clear hf; intro a ha hf; clear ha
    refine wpList_cut 3 (fun a w => Fr 230 a [(20, .int .i64 q217.2), (26, v165), (27, v203), (215, .bool (((((q137.2 == (1 : Int)) && (q158.2 == (0 : Int))) && (q179.2 == (1 : Int))) && (q191.2 == (0 : Int))) && (q208.2 == (1 : Int))))] ∧ Hp S w0 w (Res.sl (Ek.int .u8) 51 v219 q217.1 :: Res.sl Ek.bool 4 v134 ((mk0 (65 : Int) false).set ((0 : Int)).toNat true) :: Res.sl (Ek.int .u8) 51 v215 q208.1 :: Res.sl Ek.bool 4 v165 q158.1 :: Res.sl (Ek.int .u8) 51 v203 q191.1 :: Res.sl Ek.bool 4 v174 (mk0 (32769 : Int) false) :: Res.sl Ek.bool 4 v186 q179.1 :: Res.sl Ek.bool 4 v153 (mk0 (32768 : Int) false) :: Res.sl Ek.bool 4 v144 q137.1 :: ow)) ?_ ?_
    · rcases Bool.eq_false_or_eq_true ((((q137.2 == (1 : Int)) && (q158.2 == (0 : Int))) && (q179.2 == (1 : Int))) && (q191.2 == (0 : Int))) with hb228 | hb228
      · skip
        refine st_move hf (wantY hf rfl rfl hb228) rfl (by decide) ?_
        clear hf; intro a ha hf; clear ha
        refine st_ieql hf (by decide) (wantY hf rfl rfl hb228) rfl rfl ?_
        clear hf; intro a ha hf; clear ha
        refine st_pick (v := .bool (q208.2 == (1 : Int))) hf rfl rfl (fun hb' => ?_) (fun hb' => ?_) (by decide) ?_
        · rfl
        · exact absurd (hb228.symm.trans hb') (by decide)
        clear hf; intro a ha hf; clear ha
        refine st_nil hf (th_n ?_)
        exact ⟨hf.sub ⟨rfl, rfl, rfl, (by rw [hb228]; rfl), trivial⟩, hp⟩
      refine st_skip hf (wantN hf rfl rfl hb228) rfl (by decide) ?_ rfl
      clear hf; intro a hf
      refine st_skip hf (wantN hf rfl rfl hb228) rfl (by decide) ?_ rfl
      clear hf; intro a hf
      refine st_pick (v := .bool false) hf rfl rfl (fun hb' => ?_) (fun hb' => ?_) (by decide) ?_
      · exact absurd (hb228.symm.trans hb') (by decide)
      · rfl
      clear hf; intro a ha hf; clear ha
      refine st_nil hf (th_n ?_)
      exact ⟨hf.sub ⟨rfl, rfl, rfl, (by rw [hb228]; rfl), trivial⟩, hp⟩
    rintro a w ⟨hf, hp⟩
    refine st_move hf rfl rfl (by decide) ?_
    clear hf; intro a ha hf; clear ha
    refine wpList_cut 3 (fun a w => Fr 230 a [(26, v165), (27, v203), (219, .bool ((((((q137.2 == (1 : Int)) && (q158.2 == (0 : Int))) && (q179.2 == (1 : Int))) && (q191.2 == (0 : Int))) && (q208.2 == (1 : Int))) && (q217.2 == (1 : Int))))] ∧ Hp S w0 w (Res.sl (Ek.int .u8) 51 v219 q217.1 :: Res.sl Ek.bool 4 v134 ((mk0 (65 : Int) false).set ((0 : Int)).toNat true) :: Res.sl (Ek.int .u8) 51 v215 q208.1 :: Res.sl Ek.bool 4 v165 q158.1 :: Res.sl (Ek.int .u8) 51 v203 q191.1 :: Res.sl Ek.bool 4 v174 (mk0 (32769 : Int) false) :: Res.sl Ek.bool 4 v186 q179.1 :: Res.sl Ek.bool 4 v153 (mk0 (32768 : Int) false) :: Res.sl Ek.bool 4 v144 q137.1 :: ow)) ?_ ?_
    · rcases Bool.eq_false_or_eq_true (((((q137.2 == (1 : Int)) && (q158.2 == (0 : Int))) && (q179.2 == (1 : Int))) && (q191.2 == (0 : Int))) && (q208.2 == (1 : Int))) with hb230 | hb230
      · skip
        refine st_move hf (wantY hf rfl rfl hb230) rfl (by decide) ?_
        clear hf; intro a ha hf; clear ha
        refine st_ieql hf (by decide) (wantY hf rfl rfl hb230) rfl rfl ?_
        clear hf; intro a ha hf; clear ha
        refine st_pick (v := .bool (q217.2 == (1 : Int))) hf rfl rfl (fun hb' => ?_) (fun hb' => ?_) (by decide) ?_
        · rfl
        · exact absurd (hb230.symm.trans hb') (by decide)
        clear hf; intro a ha hf; clear ha
        refine st_nil hf (th_n ?_)
        exact ⟨hf.sub ⟨rfl, rfl, (by rw [hb230]; rfl), trivial⟩, hp⟩
      refine st_skip hf (wantN hf rfl rfl hb230) rfl (by decide) ?_ rfl
      clear hf; intro a hf
      refine st_skip hf (wantN hf rfl rfl hb230) rfl (by decide) ?_ rfl
      clear hf; intro a hf
      refine st_pick (v := .bool false) hf rfl rfl (fun hb' => ?_) (fun hb' => ?_) (by decide) ?_
      · exact absurd (hb230.symm.trans hb') (by decide)
      · rfl
      clear hf; intro a ha hf; clear ha
      refine st_nil hf (th_n ?_)
      exact ⟨hf.sub ⟨rfl, rfl, (by rw [hb230]; rfl), trivial⟩, hp⟩
    rintro a w ⟨hf, hp⟩
    refine st_move hf rfl rfl (by decide) ?_
    clear hf; intro a ha hf; clear ha
    refine wpList_cut 4 (fun a w => Fr 230 a [(27, v203), (224, .bool (((((((q137.2 == (1 : Int)) && (q158.2 == (0 : Int))) && (q179.2 == (1 : Int))) && (q191.2 == (0 : Int))) && (q208.2 == (1 : Int))) && (q217.2 == (1 : Int))) && ((q158.1.length : Int) == (512 : Int))))] ∧ Hp S w0 w (Res.sl (Ek.int .u8) 51 v219 q217.1 :: Res.sl Ek.bool 4 v134 ((mk0 (65 : Int) false).set ((0 : Int)).toNat true) :: Res.sl (Ek.int .u8) 51 v215 q208.1 :: Res.sl Ek.bool 4 v165 q158.1 :: Res.sl (Ek.int .u8) 51 v203 q191.1 :: Res.sl Ek.bool 4 v174 (mk0 (32769 : Int) false) :: Res.sl Ek.bool 4 v186 q179.1 :: Res.sl Ek.bool 4 v153 (mk0 (32768 : Int) false) :: Res.sl Ek.bool 4 v144 q137.1 :: ow)) ?_ ?_
    · rcases Bool.eq_false_or_eq_true ((((((q137.2 == (1 : Int)) && (q158.2 == (0 : Int))) && (q179.2 == (1 : Int))) && (q191.2 == (0 : Int))) && (q208.2 == (1 : Int))) && (q217.2 == (1 : Int))) with hb232 | hb232
      · skip
        refine st_move hf (wantY hf rfl rfl hb232) rfl (by decide) ?_
        clear hf; intro a ha hf; clear ha
        refine st_len (E := Ek.bool) hf (by decide) Try.underlying22 (wantY hf rfl rfl hb232) rfl (hp.sl (i := 3) rfl) ?_
        clear hf; intro a ha hf; clear ha
        refine st_ieql hf (by decide) (wantY hf rfl rfl hb232) rfl rfl ?_
        clear hf; intro a ha hf; clear ha
        refine st_pick (v := .bool ((q158.1.length : Int) == (512 : Int))) hf rfl rfl (fun hb' => ?_) (fun hb' => ?_) (by decide) ?_
        · rfl
        · exact absurd (hb232.symm.trans hb') (by decide)
        clear hf; intro a ha hf; clear ha
        refine st_nil hf (th_n ?_)
        exact ⟨hf.sub ⟨rfl, (by rw [hb232]; rfl), trivial⟩, hp⟩
      refine st_skip hf (wantN hf rfl rfl hb232) rfl (by decide) ?_ rfl
      clear hf; intro a hf
      refine st_skip hf (wantN hf rfl rfl hb232) rfl (by decide) ?_ rfl
      clear hf; intro a hf
      refine st_skip hf (wantN hf rfl rfl hb232) rfl (by decide) ?_ rfl
      clear hf; intro a hf
      refine st_pick (v := .bool false) hf rfl rfl (fun hb' => ?_) (fun hb' => ?_) (by decide) ?_
      · exact absurd (hb232.symm.trans hb') (by decide)
      · rfl
      clear hf; intro a ha hf; clear ha
      refine st_nil hf (th_n ?_)
      exact ⟨hf.sub ⟨rfl, (by rw [hb232]; rfl), trivial⟩, hp⟩
    rintro a w ⟨hf, hp⟩
    refine st_move hf rfl rfl (by decide) ?_
    clear hf; intro a ha hf; clear ha
    refine wpList_cut 4 (fun a w => Fr 230 a [(229, .bool ((((((((q137.2 == (1 : Int)) && (q158.2 == (0 : Int))) && (q179.2 == (1 : Int))) && (q191.2 == (0 : Int))) && (q208.2 == (1 : Int))) && (q217.2 == (1 : Int))) && ((q158.1.length : Int) == (512 : Int))) && ((q191.1.length : Int) == (32768 : Int))))] ∧ Hp S w0 w (Res.sl (Ek.int .u8) 51 v219 q217.1 :: Res.sl Ek.bool 4 v134 ((mk0 (65 : Int) false).set ((0 : Int)).toNat true) :: Res.sl (Ek.int .u8) 51 v215 q208.1 :: Res.sl Ek.bool 4 v165 q158.1 :: Res.sl (Ek.int .u8) 51 v203 q191.1 :: Res.sl Ek.bool 4 v174 (mk0 (32769 : Int) false) :: Res.sl Ek.bool 4 v186 q179.1 :: Res.sl Ek.bool 4 v153 (mk0 (32768 : Int) false) :: Res.sl Ek.bool 4 v144 q137.1 :: ow)) ?_ ?_
    · rcases Bool.eq_false_or_eq_true (((((((q137.2 == (1 : Int)) && (q158.2 == (0 : Int))) && (q179.2 == (1 : Int))) && (q191.2 == (0 : Int))) && (q208.2 == (1 : Int))) && (q217.2 == (1 : Int))) && ((q158.1.length : Int) == (512 : Int))) with hb234 | hb234
      · skip
        refine st_move hf (wantY hf rfl rfl hb234) rfl (by decide) ?_
        clear hf; intro a ha hf; clear ha
        refine st_len (E := (Ek.int .u8)) hf (by decide) Try.underlying26 (wantY hf rfl rfl hb234) rfl (hp.sl (i := 4) rfl) ?_
        clear hf; intro a ha hf; clear ha
        refine st_ieql hf (by decide) (wantY hf rfl rfl hb234) rfl rfl ?_
        clear hf; intro a ha hf; clear ha
        refine st_pick (v := .bool ((q191.1.length : Int) == (32768 : Int))) hf rfl rfl (fun hb' => ?_) (fun hb' => ?_) (by decide) ?_
        · rfl
        · exact absurd (hb234.symm.trans hb') (by decide)
        clear hf; intro a ha hf; clear ha
        refine st_nil hf (th_n ?_)
        exact ⟨hf.sub ⟨(by rw [hb234]; rfl), trivial⟩, hp⟩
      refine st_skip hf (wantN hf rfl rfl hb234) rfl (by decide) ?_ rfl
      clear hf; intro a hf
      refine st_skip hf (wantN hf rfl rfl hb234) rfl (by decide) ?_ rfl
      clear hf; intro a hf
      refine st_skip hf (wantN hf rfl rfl hb234) rfl (by decide) ?_ rfl
      clear hf; intro a hf
      refine st_pick (v := .bool false) hf rfl rfl (fun hb' => ?_) (fun hb' => ?_) (by decide) ?_
      · exact absurd (hb234.symm.trans hb') (by decide)
      · rfl
      clear hf; intro a ha hf; clear ha
      refine st_nil hf (th_n ?_)
      exact ⟨hf.sub ⟨(by rw [hb234]; rfl), trivial⟩, hp⟩
    rintro a w ⟨hf, hp⟩
    refine st_assign hf rfl rfl (by decide) ?_
    clear hf; intro a ha hf; clear ha
    refine st_nil hf ?_
    refine th_n ?_
    refine wp_ret ?_
    obtain rfl := Option.some.inj h
    have hp : Hp _ _ _ (ow) := Hp.sel (pre := [Res.sl (Ek.int .u8) 51 v219 q217.1, Res.sl Ek.bool 4 v134 ((mk0 (65 : Int) false).set ((0 : Int)).toNat true), Res.sl (Ek.int .u8) 51 v215 q208.1, Res.sl Ek.bool 4 v165 q158.1, Res.sl (Ek.int .u8) 51 v203 q191.1, Res.sl Ek.bool 4 v174 (mk0 (32769 : Int) false), Res.sl Ek.bool 4 v186 q179.1, Res.sl Ek.bool 4 v153 (mk0 (32768 : Int) false), Res.sl Ek.bool 4 v144 q137.1]) (tail := ow) (rs' := []) hp [] (by decide) (by simp) rfl
    exact ⟨rfl, ⟨hf.sub ⟨rfl, trivial⟩, hp⟩⟩
  replace h := smR h
  obtain ⟨rfl, hf, hp⟩ := hO
  refine ib_r ?_
  refine th_r ?_
  obtain rfl := Option.some.inj h
  exact ⟨rfl, ⟨hf.sub ⟨rfl, trivial⟩, hp⟩⟩

noncomputable def f_foghornlaw22_made (x0_Length : Int) (x0_One : Int) (x0_Two : Int) : Option ((Int × Int × Int) × (Int × Int × Int)) := (some ((x0_Length, x0_One, x0_Two), (x0_Length, x0_One, x0_Two)))
theorem f_foghornlaw22_made_c {S : Nat → Prop} {w0 w : World} {ow : List Res} (hp : Hp S w0 w ow) (x0_Length : Int) (x0_One : Int) (x0_Two : Int) {r : ((Int × Int × Int) × (Int × Int × Int))} (h : f_foghornlaw22_made x0_Length x0_One x0_Two = some r) :
    Calls Try.prog 17 #[.agg #[.int .i64 x0_Length, .int .u32 x0_One, .int .u32 x0_Two]] w (fun e w' => e = .returned (.tuple #[.agg #[.int .i64 r.1.1, .int .u32 r.1.2.1, .int .u32 r.1.2.2], .agg #[.int .i64 r.2.1, .int .u32 r.2.2.1, .int .u32 r.2.2.2]]) ∧ Hp S w0 w' (ow)) := by
  unfold f_foghornlaw22_made at h
  refine enter (n := 18) (args := [.agg #[.int .i64 x0_Length, .int .u32 x0_One, .int .u32 x0_Two]]) Try.func17 rfl rfl (Nat.le_of_ble_eq_true rfl) fun a hf => ?_
  replace hf : Fr 18 a [(0, .agg #[.int .i64 x0_Length, .int .u32 x0_One, .int .u32 x0_Two])] := hf
  refine wp_mono (Q := fun e a w => e = .ret ∧ ∃ (c0 : Value) (c1 : Value), Fr 18 a [(2, optr c0 0), (3, optr c1 0)] ∧ Hp S w0 w (Res.obj 40 c0 [.int .i64 r.1.1, .int .u32 r.1.2.1, .int .u32 r.1.2.2] :: Res.obj 41 c1 [.int .i64 r.2.1, .int .u32 r.2.2.1, .int .u32 r.2.2.2] :: ow)) ?_ ?_
  rotate_left
  · rintro e a w ⟨rfl, c0, c1, hf, hp⟩
    exact retG2 hf rfl ⟨_, _, rfl, hp.ob (i := 0) rfl, .inr ⟨by kernel_rfl, rfl⟩⟩ ⟨_, _, rfl, hp.ob (i := 1) rfl, .inr ⟨by kernel_rfl, rfl⟩⟩ ⟨rfl, hp.drop.drop⟩
  refine wp_seq ?_
  refine wp_reg ?_
  refine st_boxO (cs := [.int .i64 x0_Length, .int .u32 x0_One, .int .u32 x0_Two]) hf (by decide) hp rfl rfl rfl ?_
  clear hf; intro a w v1 hf hp0; clear hp; have hp := hp0; clear hp0
  replace hp : Hp _ _ _ (Res.obj 39 v1 [.int .i64 x0_Length, .int .u32 x0_One, .int .u32 x0_Two] :: ow) := hp
  refine st_alloc (cs := [.int .i64 (0 : Int), .int .u32 (0 : Int), .int .u32 (0 : Int)]) (zv := .agg #[.int .i64 (0 : Int), .int .u32 (0 : Int), .int .u32 (0 : Int)]) hf (by decide) (by kernel_rfl) rfl hp rfl ?_
  clear hf; intro a w v3 hf hp0; clear hp; have hp := hp0; clear hp0
  replace hp : Hp _ _ _ (Res.obj 40 v3 [.int .i64 (0 : Int), .int .u32 (0 : Int), .int .u32 (0 : Int)] :: Res.obj 39 v1 [.int .i64 x0_Length, .int .u32 x0_One, .int .u32 x0_Two] :: ow) := hp
  refine st_alloc (cs := [.int .i64 (0 : Int), .int .u32 (0 : Int), .int .u32 (0 : Int)]) (zv := .agg #[.int .i64 (0 : Int), .int .u32 (0 : Int), .int .u32 (0 : Int)]) hf (by decide) (by kernel_rfl) rfl hp rfl ?_
  clear hf; intro a w v5 hf hp0; clear hp; have hp := hp0; clear hp0
  replace hp : Hp _ _ _ (Res.obj 41 v5 [.int .i64 (0 : Int), .int .u32 (0 : Int), .int .u32 (0 : Int)] :: Res.obj 40 v3 [.int .i64 (0 : Int), .int .u32 (0 : Int), .int .u32 (0 : Int)] :: Res.obj 39 v1 [.int .i64 x0_Length, .int .u32 x0_One, .int .u32 x0_Two] :: ow) := hp
  refine st_nil hf ?_
  refine th_n ?_
  refine wp_seq ?_
  obtain ⟨S7, hp8, rd9, up10, bk11⟩ := Hp.lendO hp (i := 2) rfl
  have rl12 := rd9
  refine wp_cutN (fun a w => Fr 18 a [(2, optr v3 0), (3, optr v5 0)] ∧ Hp S w0 w (Res.obj 39 v1 [.int .i64 x0_Length, .int .u32 x0_One, .int .u32 x0_Two] :: Res.obj 41 v5 [.int .i64 x0_Length, .int .u32 x0_One, .int .u32 x0_Two] :: Res.obj 40 v3 [.int .i64 x0_Length, .int .u32 x0_One, .int .u32 x0_Two] :: ow)) ?_ ?_
  · have hp := hp8.same (Same.drew w)
    refine dr_begin' (fun a w => Fr 18 a [(2, optr v3 0), (3, optr v5 0)] ∧ Hp S w0 w (Res.obj 39 v1 [.int .i64 x0_Length, .int .u32 x0_One, .int .u32 x0_Two] :: Res.obj 41 v5 [.int .i64 x0_Length, .int .u32 x0_One, .int .u32 x0_Two] :: Res.obj 40 v3 [.int .i64 x0_Length, .int .u32 x0_One, .int .u32 x0_Two] :: ow)) (fun w' => ∃ l, Hp S7 w w' l) [] (by kernel_rfl) ?_
    refine dr_take 0 (optr v1 0) rfl (by kernel_rfl) (by kernel_rfl) (by kernel_rfl) (by kernel_rfl) rfl rfl hf (by decide) rfl (fun w hp => ?_) ⟨_, hp⟩ ?_
    · obtain ⟨_, hp⟩ := hp
      refine st_fa (o' := 0) hf (by decide) (off := 0) (sz := 1) (by kernel_rfl) (by decide) rfl rfl (rl12.ob hp) rfl ?_
      clear hf; intro a ha hf
      exact st_nil hf (th_n ⟨ha, rfl⟩)
    clear hf; intro a hf
    refine dr_take 1 (.int .i64 x0_Length) rfl (by kernel_rfl) (by kernel_rfl) (by kernel_rfl) (by kernel_rfl) rfl rfl hf (by decide) rfl (fun w hp => ?_) ⟨_, hp⟩ ?_
    · obtain ⟨_, hp⟩ := hp
      refine st_ldO (u := .int .i64 x0_Length) hf (by decide) pl3 rfl rfl (rl12.ob hp) rfl ?_
      clear hf; intro a ha hf
      exact st_nil hf (th_n ⟨ha, rfl⟩)
    clear hf; intro a hf
    refine dr_take 2 (optr v1 1) rfl (by kernel_rfl) (by kernel_rfl) (by kernel_rfl) (by kernel_rfl) rfl rfl hf (by decide) rfl (fun w hp => ?_) ⟨_, hp⟩ ?_
    · obtain ⟨_, hp⟩ := hp
      refine st_fa (o' := 1) hf (by decide) (off := 1) (sz := 1) (by kernel_rfl) (by decide) rfl rfl (rl12.ob hp) rfl ?_
      clear hf; intro a ha hf
      exact st_nil hf (th_n ⟨ha, rfl⟩)
    clear hf; intro a hf
    refine dr_take 3 (.int .u32 x0_One) rfl (by kernel_rfl) (by kernel_rfl) (by kernel_rfl) (by kernel_rfl) rfl rfl hf (by decide) rfl (fun w hp => ?_) ⟨_, hp⟩ ?_
    · obtain ⟨_, hp⟩ := hp
      refine st_ldO (u := .int .u32 x0_One) hf (by decide) pl37 rfl rfl (rl12.ob hp) rfl ?_
      clear hf; intro a ha hf
      exact st_nil hf (th_n ⟨ha, rfl⟩)
    clear hf; intro a hf
    refine dr_take 4 (optr v1 2) rfl (by kernel_rfl) (by kernel_rfl) (by kernel_rfl) (by kernel_rfl) rfl rfl hf (by decide) rfl (fun w hp => ?_) ⟨_, hp⟩ ?_
    · obtain ⟨_, hp⟩ := hp
      refine st_fa (o' := 2) hf (by decide) (off := 2) (sz := 1) (by kernel_rfl) (by decide) rfl rfl (rl12.ob hp) rfl ?_
      clear hf; intro a ha hf
      exact st_nil hf (th_n ⟨ha, rfl⟩)
    clear hf; intro a hf
    refine dr_take 5 (.int .u32 x0_Two) rfl (by kernel_rfl) (by kernel_rfl) (by kernel_rfl) (by kernel_rfl) rfl rfl hf (by decide) rfl (fun w hp => ?_) ⟨_, hp⟩ ?_
    · obtain ⟨_, hp⟩ := hp
      refine st_ldO (u := .int .u32 x0_Two) hf (by decide) pl37 rfl rfl (rl12.ob hp) rfl ?_
      clear hf; intro a ha hf
      exact st_nil hf (th_n ⟨ha, rfl⟩)
    clear hf; intro a hf
    refine dr_take 6 (.agg #[.int .i64 x0_Length, .int .u32 x0_One, .int .u32 x0_Two]) rfl (by kernel_rfl) (by kernel_rfl) (by kernel_rfl) (by kernel_rfl) rfl rfl hf (by decide) rfl (fun w hp => ?_) ⟨_, hp⟩ ?_
    · obtain ⟨_, hp⟩ := hp
      refine st_buildA (vals := [(0, .int .i64 x0_Length), (1, .int .u32 x0_One), (2, .int .u32 x0_Two)]) (cells := [.int .i64 x0_Length, .int .u32 x0_One, .int .u32 x0_Two]) hf (by decide) rfl (by simp [hf.ev (x := (Operand.tmp 5)) rfl, hf.ev (x := (Operand.tmp 7)) rfl, hf.ev (x := (Operand.tmp 9)) rfl]) (fun w => by kernel_rfl) ?_
      clear hf; intro a ha hf
      exact st_nil hf (th_n ⟨ha, rfl⟩)
    clear hf; intro a hf
    refine dr_take 7 (optr v1 0) rfl (by kernel_rfl) (by kernel_rfl) (by kernel_rfl) (by kernel_rfl) rfl rfl hf (by decide) rfl (fun w hp => ?_) ⟨_, hp⟩ ?_
    · obtain ⟨_, hp⟩ := hp
      refine st_fa (o' := 0) hf (by decide) (off := 0) (sz := 1) (by kernel_rfl) (by decide) rfl rfl (rl12.ob hp) rfl ?_
      clear hf; intro a ha hf
      exact st_nil hf (th_n ⟨ha, rfl⟩)
    clear hf; intro a hf
    refine dr_take 8 (.int .i64 x0_Length) rfl (by kernel_rfl) (by kernel_rfl) (by kernel_rfl) (by kernel_rfl) rfl rfl hf (by decide) rfl (fun w hp => ?_) ⟨_, hp⟩ ?_
    · obtain ⟨_, hp⟩ := hp
      refine st_ldO (u := .int .i64 x0_Length) hf (by decide) pl3 rfl rfl (rl12.ob hp) rfl ?_
      clear hf; intro a ha hf
      exact st_nil hf (th_n ⟨ha, rfl⟩)
    clear hf; intro a hf
    refine dr_take 9 (optr v1 1) rfl (by kernel_rfl) (by kernel_rfl) (by kernel_rfl) (by kernel_rfl) rfl rfl hf (by decide) rfl (fun w hp => ?_) ⟨_, hp⟩ ?_
    · obtain ⟨_, hp⟩ := hp
      refine st_fa (o' := 1) hf (by decide) (off := 1) (sz := 1) (by kernel_rfl) (by decide) rfl rfl (rl12.ob hp) rfl ?_
      clear hf; intro a ha hf
      exact st_nil hf (th_n ⟨ha, rfl⟩)
    clear hf; intro a hf
    refine dr_take 10 (.int .u32 x0_One) rfl (by kernel_rfl) (by kernel_rfl) (by kernel_rfl) (by kernel_rfl) rfl rfl hf (by decide) rfl (fun w hp => ?_) ⟨_, hp⟩ ?_
    · obtain ⟨_, hp⟩ := hp
      refine st_ldO (u := .int .u32 x0_One) hf (by decide) pl37 rfl rfl (rl12.ob hp) rfl ?_
      clear hf; intro a ha hf
      exact st_nil hf (th_n ⟨ha, rfl⟩)
    clear hf; intro a hf
    refine dr_take 11 (optr v1 2) rfl (by kernel_rfl) (by kernel_rfl) (by kernel_rfl) (by kernel_rfl) rfl rfl hf (by decide) rfl (fun w hp => ?_) ⟨_, hp⟩ ?_
    · obtain ⟨_, hp⟩ := hp
      refine st_fa (o' := 2) hf (by decide) (off := 2) (sz := 1) (by kernel_rfl) (by decide) rfl rfl (rl12.ob hp) rfl ?_
      clear hf; intro a ha hf
      exact st_nil hf (th_n ⟨ha, rfl⟩)
    clear hf; intro a hf
    refine dr_take 12 (.int .u32 x0_Two) rfl (by kernel_rfl) (by kernel_rfl) (by kernel_rfl) (by kernel_rfl) rfl rfl hf (by decide) rfl (fun w hp => ?_) ⟨_, hp⟩ ?_
    · obtain ⟨_, hp⟩ := hp
      refine st_ldO (u := .int .u32 x0_Two) hf (by decide) pl37 rfl rfl (rl12.ob hp) rfl ?_
      clear hf; intro a ha hf
      exact st_nil hf (th_n ⟨ha, rfl⟩)
    clear hf; intro a hf
    refine dr_take 13 (.agg #[.int .i64 x0_Length, .int .u32 x0_One, .int .u32 x0_Two]) rfl (by kernel_rfl) (by kernel_rfl) (by kernel_rfl) (by kernel_rfl) rfl rfl hf (by decide) rfl (fun w hp => ?_) ⟨_, hp⟩ ?_
    · obtain ⟨_, hp⟩ := hp
      refine st_buildA (vals := [(0, .int .i64 x0_Length), (1, .int .u32 x0_One), (2, .int .u32 x0_Two)]) (cells := [.int .i64 x0_Length, .int .u32 x0_One, .int .u32 x0_Two]) hf (by decide) rfl (by simp [hf.ev (x := (Operand.tmp 12)) rfl, hf.ev (x := (Operand.tmp 14)) rfl, hf.ev (x := (Operand.tmp 16)) rfl]) (fun w => by kernel_rfl) ?_
      clear hf; intro a ha hf
      exact st_nil hf (th_n ⟨ha, rfl⟩)
    clear hf; intro a hf
    refine dr_one 14 rfl (by kernel_rfl) ?_
    refine st_stO (us := [.int .i64 x0_Length, .int .u32 x0_One, .int .u32 x0_Two]) hf hp (i := 1) rfl rfl rfl rfl rfl (by rfl) (by kernel_rfl) (Nat.le_of_ble_eq_true rfl) ?_
    clear hf; intro a w hf hp0; clear hp; have hp := hp0; clear hp0
    replace hp : Hp _ _ _ (Res.obj 41 v5 [.int .i64 (0 : Int), .int .u32 (0 : Int), .int .u32 (0 : Int)] :: Res.obj 40 v3 [.int .i64 x0_Length, .int .u32 x0_One, .int .u32 x0_Two] :: ow) := hp
    refine st_nil hf (th_n ⟨fun _ _ => ⟨_, hp⟩, ?_⟩)
    refine dr_one 15 rfl (by kernel_rfl) ?_
    refine st_stO (us := [.int .i64 x0_Length, .int .u32 x0_One, .int .u32 x0_Two]) hf hp (i := 0) rfl rfl rfl rfl rfl (by rfl) (by kernel_rfl) (Nat.le_of_ble_eq_true rfl) ?_
    clear hf; intro a w hf hp0; clear hp; have hp := hp0; clear hp0
    replace hp : Hp _ _ _ (Res.obj 41 v5 [.int .i64 x0_Length, .int .u32 x0_One, .int .u32 x0_Two] :: Res.obj 40 v3 [.int .i64 x0_Length, .int .u32 x0_One, .int .u32 x0_Two] :: ow) := hp
    refine st_nil hf (th_n ⟨fun _ _ => ⟨_, hp⟩, ?_⟩)
    refine dr_end (by kernel_rfl) ?_ _
    have hp := bk11 _ _ hp
    exact ⟨hf.sub ⟨rfl, rfl, trivial⟩, hp⟩
  rintro a w ⟨hf, hp⟩
  refine th_n ?_
  refine wp_ret ?_
  obtain rfl := Option.some.inj h
  have hp : Hp _ _ _ (Res.obj 40 v3 [.int .i64 x0_Length, .int .u32 x0_One, .int .u32 x0_Two] :: Res.obj 41 v5 [.int .i64 x0_Length, .int .u32 x0_One, .int .u32 x0_Two] :: ow) := Hp.sel (pre := [Res.obj 39 v1 [.int .i64 x0_Length, .int .u32 x0_One, .int .u32 x0_Two], Res.obj 41 v5 [.int .i64 x0_Length, .int .u32 x0_One, .int .u32 x0_Two], Res.obj 40 v3 [.int .i64 x0_Length, .int .u32 x0_One, .int .u32 x0_Two]]) (tail := ow) (rs' := [Res.obj 40 v3 [.int .i64 x0_Length, .int .u32 x0_One, .int .u32 x0_Two], Res.obj 41 v5 [.int .i64 x0_Length, .int .u32 x0_One, .int .u32 x0_Two]]) hp [2, 1] (by decide) (by simp) rfl
  exact ⟨rfl, ⟨_, _, hf.sub ⟨rfl, rfl, trivial⟩, hp⟩⟩

noncomputable def f_foghornlaw22_marks.s1c (l0 : (List Int)) (out3 : (List Int)) (i4 : Int) : Option (((List Int) × Int) ⊕ (List Int)) := (if (decide (i4 < (l0.length : Int))) = true then (if 0 ≤ i4 ∧ i4 < (l0.length : Int) then (if (out3.length + ([(gt l0 i4)]).length) * 1 ≤ 140737488355328 then (some (Sum.inl ((out3 ++ [(gt l0 i4)]), (IntKind.i64.wrap (i4 + (1 : Int)))))) else none) else none) else (some (Sum.inr out3)))
noncomputable def f_foghornlaw22_marks.s1 (l0 : (List Int)) (s : ((List Int) × Int)) : Option (((List Int) × Int) ⊕ (List Int)) := f_foghornlaw22_marks.s1c l0 s.1 s.2
noncomputable def f_foghornlaw22_marks (l0 : (List Int)) : Option (List Int) := ((loop (f_foghornlaw22_marks.s1 l0) ([], (0 : Int))).bind (fun q10 => (some q10)))
theorem f_foghornlaw22_marks_c {S : Nat → Prop} {w0 w : World} {ow : List Res} (hp : Hp S w0 w ow) (vl0 : Value) (l0 : (List Int)) (hl0 : RdS (Ek.int .u8) S w0 vl0 l0) {r : (List Int)} (h : f_foghornlaw22_marks l0 = some r) :
    Calls Try.prog 18 #[vl0] w (fun e w' => ∃ (u0 : Value), e = .returned (u0) ∧ Hp S w0 w' (Res.sl (Ek.int .u8) 51 u0 r :: ow)) := by
  unfold f_foghornlaw22_marks at h
  refine enter (n := 19) (args := [vl0]) Try.func18 rfl rfl (Nat.le_of_ble_eq_true rfl) fun a hf => ?_
  replace hf : Fr 19 a [(0, vl0)] := hf
  refine wp_mono (Q := fun e a w => e = .ret ∧ ∃ (u0 : Value), Fr 19 a [(2, u0)] ∧ Hp S w0 w (Res.sl (Ek.int .u8) 51 u0 r :: ow)) ?_ ?_
  rotate_left
  · rintro e a w ⟨rfl, x0, hf, hp⟩
    exact ret1 hf rfl rfl ⟨x0, rfl, hp⟩
  refine wp_seq ?_
  refine wp_reg ?_
  refine st_assign hf rfl rfl (by decide) ?_
  clear hf; intro a ha hf; clear ha
  refine st_nil hf ?_
  refine th_n ?_
  refine wp_seq ?_
  refine wp_reg ?_
  refine st_assign hf rfl rfl (by decide) ?_
  clear hf; intro a ha hf; clear ha
  refine st_nil hf ?_
  refine th_n ?_
  refine wp_seq ?_
  refine wp_seq ?_
  refine wp_reg ?_
  refine st_assign hf rfl rfl (by decide) ?_
  clear hf; intro a ha hf; clear ha
  refine st_nil hf ?_
  refine th_n ?_
  refine wp_block ?_
  obtain ⟨q10, hl, h⟩ := bnd h
  have hp := hp.nil (Ek.int .u8) 51
  refine wp_loop_pure (f := (f_foghornlaw22_marks.s1 l0)) (s := ([], (0 : Int))) (fun s a w => ∃ (v1 : Value), Fr 19 a [(0, vl0), (3, v1), (4, .int .i64 s.2)] ∧ Hp S w0 w (Res.sl (Ek.int .u8) 51 v1 s.1 :: ow)) (fun q e a w => e = .exit 0 ∧ ∃ (v3 : Value), Fr 19 a [(3, v3)] ∧ Hp S w0 w (Res.sl (Ek.int .u8) 51 v3 q :: ow)) ?_ hl ⟨_, hf.sub ⟨rfl, rfl, rfl, trivial⟩, hp⟩ ?_
  · clear hl hf hp
    intro s x a w h hI
    obtain ⟨out3, i4⟩ := s
    obtain ⟨v1, hf, hp⟩ : ∃ (v1 : Value), Fr 19 a [(0, vl0), (3, v1), (4, .int .i64 i4)] ∧ Hp S w0 w (Res.sl (Ek.int .u8) 51 v1 out3 :: ow) := hI
    replace h : f_foghornlaw22_marks.s1c l0 out3 i4 = some x := h
    unfold f_foghornlaw22_marks.s1c at h
    refine wp_seq ?_
    refine wp_seq ?_
    refine wp_reg ?_
    refine st_move hf rfl rfl (by decide) ?_
    clear hf; intro a ha hf; clear ha
    refine st_move hf rfl rfl (by decide) ?_
    clear hf; intro a ha hf; clear ha
    refine st_len (E := (Ek.int .u8)) hf (by decide) Try.underlying29 rfl rfl (hl0.sl hp) ?_
    clear hf; intro a ha hf; clear ha
    refine st_ilss hf (by decide) rfl rfl rfl ?_
    clear hf; intro a ha hf; clear ha
    refine st_nil hf ?_
    refine th_n ?_
    refine wp_if hf rfl (fun hb => ?_) (fun hb => ?_)
    · replace h := ifT h hb
      refine wp_skip ?_
      refine th_n ?_
      refine wp_seq ?_
      refine wp_block ?_
      refine wp_reg ?_
      refine st_move hf rfl rfl (by decide) ?_
      clear hf; intro a ha hf; clear ha
      refine st_move hf rfl rfl (by decide) ?_
      clear hf; intro a ha hf; clear ha
      refine st_move hf rfl rfl (by decide) ?_
      clear hf; intro a ha hf; clear ha
      obtain ⟨hc5, h⟩ := chk h
      refine st_index (E := (Ek.int .u8)) hf (by decide) Try.underlying29 elt5 rfl rfl rfl (hl0.sl hp) hc5.1 hc5.2 ?_
      clear hf; intro a ha hf; clear ha
      refine st_ldI hf (by decide) pl5 rfl rfl (hl0.sl hp) hc5.1 hc5.2 ?_
      clear hf; intro a ha hf; clear ha
      refine st_build (E := (Ek.int .u8)) (xs := [(gt l0 i4)]) hf (by decide) elt51 Try.underlying26 hp (vals := #[(0, .int .u8 (gt l0 i4))]) (cells := #[.int .u8 (gt l0 i4)]) rfl (by simp [hf.ev (x := (Operand.tmp 15)) rfl]) (by decide) (by decide) (z := .int .u8 0) (by kernel_rfl) (by kernel_rfl) rfl (reps_cons (cs := [.int .u8 (gt l0 i4)]) rfl (reps_nil _)) ?_
      clear hf; intro a w v6 hf hp0; clear hp; have hp := hp0; clear hp0
      replace hp : Hp _ _ _ (Res.sl (Ek.int .u8) 51 v6 ([(gt l0 i4)]) :: Res.sl (Ek.int .u8) 51 v1 out3 :: ow) := hp
      obtain ⟨hc8, h⟩ := chk h
      refine st_append (E := (Ek.int .u8)) hf (by decide) elt51 Try.underlying26 (by decide) hp (i := 1) rfl rfl rfl rfl (hp.sl (i := 0) rfl) hc8 ?_
      clear hf; intro a w v9 hf hp0; clear hp; have hp := hp0; clear hp0
      replace hp : Hp _ _ _ (Res.sl (Ek.int .u8) 51 v6 ([(gt l0 i4)]) :: Res.sl (Ek.int .u8) 51 v9 (out3 ++ [(gt l0 i4)]) :: ow) := hp
      refine st_assign hf rfl rfl (by decide) ?_
      clear hf; intro a ha hf; clear ha
      refine st_nil hf ?_
      refine ib_n ?_
      refine th_n ?_
      refine wp_reg ?_
      refine st_move hf rfl rfl (by decide) ?_
      clear hf; intro a ha hf; clear ha
      refine st_iadd hf (by decide) rfl rfl rfl ?_
      clear hf; intro a ha hf; clear ha
      refine st_assign hf rfl rfl (by decide) ?_
      clear hf; intro a ha hf; clear ha
      refine st_nil hf ?_
      obtain rfl := Option.some.inj h
      have hp : Hp _ _ _ (Res.sl (Ek.int .u8) 51 v9 (out3 ++ [(gt l0 i4)]) :: ow) := Hp.sel (pre := [Res.sl (Ek.int .u8) 51 v6 ([(gt l0 i4)]), Res.sl (Ek.int .u8) 51 v9 (out3 ++ [(gt l0 i4)])]) (tail := ow) (rs' := [Res.sl (Ek.int .u8) 51 v9 (out3 ++ [(gt l0 i4)])]) hp [1] (by decide) (by simp) rfl
      exact rnd_l ⟨_, hf.sub ⟨rfl, rfl, rfl, trivial⟩, hp⟩
    replace h := ifF h hb
    refine wp_exit ?_
    refine th_e ?_
    obtain rfl := Option.some.inj h
    exact rnd_r (by simp) ⟨rfl, _, hf.sub ⟨rfl, trivial⟩, hp⟩
  clear hl hf hp
  intro e a w hne hO
  obtain ⟨rfl, v3, hf, hp⟩ := hO
  refine ib_same ?_
  refine th_n ?_
  refine wp_seq ?_
  refine wp_reg ?_
  refine st_move hf rfl rfl (by decide) ?_
  clear hf; intro a ha hf; clear ha
  refine st_assign hf rfl rfl (by decide) ?_
  clear hf; intro a ha hf; clear ha
  refine st_nil hf ?_
  refine th_n ?_
  refine wp_ret ?_
  obtain rfl := Option.some.inj h
  exact ⟨rfl, ⟨_, hf.sub ⟨rfl, trivial⟩, hp⟩⟩

noncomputable def f_foghornref22_May (c0_Length : Int) (c0_One : Int) (c0_Two : Int) : Option Bool := (if ((decide (c0_Length < (2 : Int))) || (decide ((7 : Int) < c0_Length))) = true then (some false) else (if 0 ≤ c0_Length then (some (((((decide ((1 : Int) ≤ c0_One)) && (decide (c0_One < (ishl .u32 (1 : Int) c0_Length)))) && (decide ((1 : Int) ≤ c0_Two))) && (decide (c0_Two < (ishl .u32 (1 : Int) c0_Length)))) && ((decide ((IntKind.u32.wrap (((ishl .u32 (1 : Int) c0_Length)).tdiv (2 : Int))) ≤ c0_One)) || (decide ((IntKind.u32.wrap (((ishl .u32 (1 : Int) c0_Length)).tdiv (2 : Int))) ≤ c0_Two))))) else none))
theorem f_foghornref22_May_c {S : Nat → Prop} {w0 w : World} {ow : List Res} (hp : Hp S w0 w ow) (c0_Length : Int) (c0_One : Int) (c0_Two : Int) {r : Bool} (h : f_foghornref22_May c0_Length c0_One c0_Two = some r) :
    Calls Try.prog 49 #[.agg #[.int .i64 c0_Length, .int .u32 c0_One, .int .u32 c0_Two]] w (fun e w' => e = .returned (.bool r) ∧ Hp S w0 w' (ow)) := by
  unfold f_foghornref22_May at h
  refine enter (n := 50) (args := [.agg #[.int .i64 c0_Length, .int .u32 c0_One, .int .u32 c0_Two]]) Try.func49 rfl rfl (Nat.le_of_ble_eq_true rfl) fun a hf => ?_
  replace hf : Fr 50 a [(0, .agg #[.int .i64 c0_Length, .int .u32 c0_One, .int .u32 c0_Two])] := hf
  refine wp_mono (Q := fun e a w => e = .ret ∧ Fr 50 a [(2, .bool r)] ∧ Hp S w0 w (ow)) ?_ ?_
  rotate_left
  · rintro e a w ⟨rfl, hf, hp⟩
    exact ret1 hf rfl rfl ⟨rfl, hp⟩
  refine wp_seq ?_
  refine wp_reg ?_
  refine st_boxO (cs := [.int .i64 c0_Length, .int .u32 c0_One, .int .u32 c0_Two]) hf (by decide) hp rfl rfl rfl ?_
  clear hf; intro a w v1 hf hp0; clear hp; have hp := hp0; clear hp0
  replace hp : Hp _ _ _ (Res.obj 41 v1 [.int .i64 c0_Length, .int .u32 c0_One, .int .u32 c0_Two] :: ow) := hp
  refine st_assign hf rfl rfl (by decide) ?_
  clear hf; intro a ha hf; clear ha
  refine st_nil hf ?_
  refine th_n ?_
  refine wp_seq ?_
  refine wp_seq ?_
  refine wp_reg ?_
  refine st_fa (o' := 0) hf (by decide) (off := 0) (sz := 1) (by kernel_rfl) (by decide) rfl rfl (hp.ob (i := 0) rfl) rfl ?_
  clear hf; intro a ha hf; clear ha
  refine st_ldO (u := .int .i64 c0_Length) hf (by decide) pl3 rfl rfl (hp.ob (i := 0) rfl) rfl ?_
  clear hf; intro a ha hf; clear ha
  refine st_ilss hf (by decide) rfl rfl rfl ?_
  clear hf; intro a ha hf; clear ha
  refine st_move hf rfl rfl (by decide) ?_
  clear hf; intro a ha hf; clear ha
  refine wpList_cut 4 (fun a w => Fr 50 a [(1, optr v1 0), (12, .bool ((decide (c0_Length < (2 : Int))) || (decide ((7 : Int) < c0_Length))))] ∧ Hp S w0 w (Res.obj 41 v1 [.int .i64 c0_Length, .int .u32 c0_One, .int .u32 c0_Two] :: ow)) ?_ ?_
  · rcases Bool.eq_false_or_eq_true (decide (c0_Length < (2 : Int))) with hb4 | hb4
    · skip
      refine st_skip hf (wantN hf rfl rfl hb4) rfl (by decide) ?_ rfl
      clear hf; intro a hf
      refine st_skip hf (wantN hf rfl rfl hb4) rfl (by decide) ?_ rfl
      clear hf; intro a hf
      refine st_skip hf (wantN hf rfl rfl hb4) rfl (by decide) ?_ rfl
      clear hf; intro a hf
      refine st_pick (v := .bool true) hf rfl rfl (fun hb' => ?_) (fun hb' => ?_) (by decide) ?_
      · rfl
      · exact absurd (hb4.symm.trans hb') (by decide)
      clear hf; intro a ha hf; clear ha
      refine st_nil hf (th_n ?_)
      exact ⟨hf.sub ⟨rfl, (by rw [hb4]; rfl), trivial⟩, hp⟩
    refine st_fa (o' := 0) hf (by decide) (off := 0) (sz := 1) (by kernel_rfl) (by decide) (wantY hf rfl rfl hb4) rfl (hp.ob (i := 0) rfl) rfl ?_
    clear hf; intro a ha hf; clear ha
    refine st_ldO (u := .int .i64 c0_Length) hf (by decide) pl3 (wantY hf rfl rfl hb4) rfl (hp.ob (i := 0) rfl) rfl ?_
    clear hf; intro a ha hf; clear ha
    refine st_igtr hf (by decide) (wantY hf rfl rfl hb4) rfl rfl ?_
    clear hf; intro a ha hf; clear ha
    refine st_pick (v := .bool (decide ((7 : Int) < c0_Length))) hf rfl rfl (fun hb' => ?_) (fun hb' => ?_) (by decide) ?_
    · exact absurd (hb4.symm.trans hb') (by decide)
    · rfl
    clear hf; intro a ha hf; clear ha
    refine st_nil hf (th_n ?_)
    exact ⟨hf.sub ⟨rfl, (by rw [hb4]; rfl), trivial⟩, hp⟩
  rintro a w ⟨hf, hp⟩
  refine st_nil hf ?_
  refine th_n ?_
  refine wp_if hf rfl (fun hb => ?_) (fun hb => ?_)
  · replace h := ifT h hb
    refine wp_seq ?_
    refine wp_reg ?_
    refine st_assign hf rfl rfl (by decide) ?_
    clear hf; intro a ha hf; clear ha
    refine st_nil hf ?_
    refine th_n ?_
    refine wp_ret ?_
    refine th_r ?_
    obtain rfl := Option.some.inj h
    have hp : Hp _ _ _ (ow) := Hp.sel (pre := [Res.obj 41 v1 [.int .i64 c0_Length, .int .u32 c0_One, .int .u32 c0_Two]]) (tail := ow) (rs' := []) hp [] (by decide) (by simp) rfl
    exact ⟨rfl, ⟨hf.sub ⟨rfl, trivial⟩, hp⟩⟩
  replace h := ifF h hb
  refine wp_skip ?_
  refine th_n ?_
  refine wp_seq ?_
  refine wp_reg ?_
  refine st_fa (o' := 0) hf (by decide) (off := 0) (sz := 1) (by kernel_rfl) (by decide) rfl rfl (hp.ob (i := 0) rfl) rfl ?_
  clear hf; intro a ha hf; clear ha
  refine st_ldO (u := .int .i64 c0_Length) hf (by decide) pl3 rfl rfl (hp.ob (i := 0) rfl) rfl ?_
  clear hf; intro a ha hf; clear ha
  obtain ⟨hc5, h⟩ := chk h
  refine st_ishl hf (by decide) rfl rfl rfl hc5 ?_
  clear hf; intro a ha hf; clear ha
  refine st_assign hf rfl rfl (by decide) ?_
  clear hf; intro a ha hf; clear ha
  refine st_nil hf ?_
  refine th_n ?_
  refine wp_seq ?_
  refine wp_reg ?_
  refine st_move hf rfl rfl (by decide) ?_
  clear hf; intro a ha hf; clear ha
  refine st_iquo hf (by decide) rfl rfl rfl (by decide) ?_
  clear hf; intro a ha hf; clear ha
  refine st_assign hf rfl rfl (by decide) ?_
  clear hf; intro a ha hf; clear ha
  refine st_nil hf ?_
  refine th_n ?_
  refine wp_seq ?_
  refine wp_reg ?_
  refine st_fa (o' := 1) hf (by decide) (off := 1) (sz := 1) (by kernel_rfl) (by decide) rfl rfl (hp.ob (i := 0) rfl) rfl ?_
  clear hf; intro a ha hf; clear ha
  refine st_ldO (u := .int .u32 c0_One) hf (by decide) pl37 rfl rfl (hp.ob (i := 0) rfl) rfl ?_
  clear hf; intro a ha hf; clear ha
  refine st_igeq hf (by decide) rfl rfl rfl ?_
  clear hf; intro a ha hf; clear ha
  refine st_move hf rfl rfl (by decide) ?_
  clear hf; intro a ha hf; clear ha
  refine wpList_cut 5 (fun a w => Fr 50 a [(1, optr v1 0), (3, .int .u32 (ishl .u32 (1 : Int) c0_Length)), (4, .int .u32 (IntKind.u32.wrap (((ishl .u32 (1 : Int) c0_Length)).tdiv (2 : Int)))), (26, .bool ((decide ((1 : Int) ≤ c0_One)) && (decide (c0_One < (ishl .u32 (1 : Int) c0_Length)))))] ∧ Hp S w0 w (Res.obj 41 v1 [.int .i64 c0_Length, .int .u32 c0_One, .int .u32 c0_Two] :: ow)) ?_ ?_
  · rcases Bool.eq_false_or_eq_true (decide ((1 : Int) ≤ c0_One)) with hb7 | hb7
    · skip
      refine st_fa (o' := 1) hf (by decide) (off := 1) (sz := 1) (by kernel_rfl) (by decide) (wantY hf rfl rfl hb7) rfl (hp.ob (i := 0) rfl) rfl ?_
      clear hf; intro a ha hf; clear ha
      refine st_ldO (u := .int .u32 c0_One) hf (by decide) pl37 (wantY hf rfl rfl hb7) rfl (hp.ob (i := 0) rfl) rfl ?_
      clear hf; intro a ha hf; clear ha
      refine st_move hf (wantY hf rfl rfl hb7) rfl (by decide) ?_
      clear hf; intro a ha hf; clear ha
      refine st_ilss hf (by decide) (wantY hf rfl rfl hb7) rfl rfl ?_
      clear hf; intro a ha hf; clear ha
      refine st_pick (v := .bool (decide (c0_One < (ishl .u32 (1 : Int) c0_Length)))) hf rfl rfl (fun hb' => ?_) (fun hb' => ?_) (by decide) ?_
      · rfl
      · exact absurd (hb7.symm.trans hb') (by decide)
      clear hf; intro a ha hf; clear ha
      refine st_nil hf (th_n ?_)
      exact ⟨hf.sub ⟨rfl, rfl, rfl, (by rw [hb7]; rfl), trivial⟩, hp⟩
    refine st_skip hf (wantN hf rfl rfl hb7) rfl (by decide) ?_ rfl
    clear hf; intro a hf
    refine st_skip hf (wantN hf rfl rfl hb7) rfl (by decide) ?_ rfl
    clear hf; intro a hf
    refine st_skip hf (wantN hf rfl rfl hb7) rfl (by decide) ?_ rfl
    clear hf; intro a hf
    refine st_skip hf (wantN hf rfl rfl hb7) rfl (by decide) ?_ rfl
    clear hf; intro a hf
    refine st_pick (v := .bool false) hf rfl rfl (fun hb' => ?_) (fun hb' => ?_) (by decide) ?_
    · exact absurd (hb7.symm.trans hb') (by decide)
    · rfl
    clear hf; intro a ha hf; clear ha
    refine st_nil hf (th_n ?_)
    exact ⟨hf.sub ⟨rfl, rfl, rfl, (by rw [hb7]; rfl), trivial⟩, hp⟩
  rintro a w ⟨hf, hp⟩
  refine st_move hf rfl rfl (by decide) ?_
  clear hf; intro a ha hf; clear ha
  refine wpList_cut 4 (fun a w => Fr 50 a [(1, optr v1 0), (3, .int .u32 (ishl .u32 (1 : Int) c0_Length)), (4, .int .u32 (IntKind.u32.wrap (((ishl .u32 (1 : Int) c0_Length)).tdiv (2 : Int)))), (31, .bool (((decide ((1 : Int) ≤ c0_One)) && (decide (c0_One < (ishl .u32 (1 : Int) c0_Length)))) && (decide ((1 : Int) ≤ c0_Two))))] ∧ Hp S w0 w (Res.obj 41 v1 [.int .i64 c0_Length, .int .u32 c0_One, .int .u32 c0_Two] :: ow)) ?_ ?_
  · rcases Bool.eq_false_or_eq_true ((decide ((1 : Int) ≤ c0_One)) && (decide (c0_One < (ishl .u32 (1 : Int) c0_Length)))) with hb9 | hb9
    · skip
      refine st_fa (o' := 2) hf (by decide) (off := 2) (sz := 1) (by kernel_rfl) (by decide) (wantY hf rfl rfl hb9) rfl (hp.ob (i := 0) rfl) rfl ?_
      clear hf; intro a ha hf; clear ha
      refine st_ldO (u := .int .u32 c0_Two) hf (by decide) pl37 (wantY hf rfl rfl hb9) rfl (hp.ob (i := 0) rfl) rfl ?_
      clear hf; intro a ha hf; clear ha
      refine st_igeq hf (by decide) (wantY hf rfl rfl hb9) rfl rfl ?_
      clear hf; intro a ha hf; clear ha
      refine st_pick (v := .bool (decide ((1 : Int) ≤ c0_Two))) hf rfl rfl (fun hb' => ?_) (fun hb' => ?_) (by decide) ?_
      · rfl
      · exact absurd (hb9.symm.trans hb') (by decide)
      clear hf; intro a ha hf; clear ha
      refine st_nil hf (th_n ?_)
      exact ⟨hf.sub ⟨rfl, rfl, rfl, (by rw [hb9]; rfl), trivial⟩, hp⟩
    refine st_skip hf (wantN hf rfl rfl hb9) rfl (by decide) ?_ rfl
    clear hf; intro a hf
    refine st_skip hf (wantN hf rfl rfl hb9) rfl (by decide) ?_ rfl
    clear hf; intro a hf
    refine st_skip hf (wantN hf rfl rfl hb9) rfl (by decide) ?_ rfl
    clear hf; intro a hf
    refine st_pick (v := .bool false) hf rfl rfl (fun hb' => ?_) (fun hb' => ?_) (by decide) ?_
    · exact absurd (hb9.symm.trans hb') (by decide)
    · rfl
    clear hf; intro a ha hf; clear ha
    refine st_nil hf (th_n ?_)
    exact ⟨hf.sub ⟨rfl, rfl, rfl, (by rw [hb9]; rfl), trivial⟩, hp⟩
  rintro a w ⟨hf, hp⟩
  refine st_move hf rfl rfl (by decide) ?_
  clear hf; intro a ha hf; clear ha
  refine wpList_cut 5 (fun a w => Fr 50 a [(1, optr v1 0), (4, .int .u32 (IntKind.u32.wrap (((ishl .u32 (1 : Int) c0_Length)).tdiv (2 : Int)))), (37, .bool ((((decide ((1 : Int) ≤ c0_One)) && (decide (c0_One < (ishl .u32 (1 : Int) c0_Length)))) && (decide ((1 : Int) ≤ c0_Two))) && (decide (c0_Two < (ishl .u32 (1 : Int) c0_Length)))))] ∧ Hp S w0 w (Res.obj 41 v1 [.int .i64 c0_Length, .int .u32 c0_One, .int .u32 c0_Two] :: ow)) ?_ ?_
  · rcases Bool.eq_false_or_eq_true (((decide ((1 : Int) ≤ c0_One)) && (decide (c0_One < (ishl .u32 (1 : Int) c0_Length)))) && (decide ((1 : Int) ≤ c0_Two))) with hb11 | hb11
    · skip
      refine st_fa (o' := 2) hf (by decide) (off := 2) (sz := 1) (by kernel_rfl) (by decide) (wantY hf rfl rfl hb11) rfl (hp.ob (i := 0) rfl) rfl ?_
      clear hf; intro a ha hf; clear ha
      refine st_ldO (u := .int .u32 c0_Two) hf (by decide) pl37 (wantY hf rfl rfl hb11) rfl (hp.ob (i := 0) rfl) rfl ?_
      clear hf; intro a ha hf; clear ha
      refine st_move hf (wantY hf rfl rfl hb11) rfl (by decide) ?_
      clear hf; intro a ha hf; clear ha
      refine st_ilss hf (by decide) (wantY hf rfl rfl hb11) rfl rfl ?_
      clear hf; intro a ha hf; clear ha
      refine st_pick (v := .bool (decide (c0_Two < (ishl .u32 (1 : Int) c0_Length)))) hf rfl rfl (fun hb' => ?_) (fun hb' => ?_) (by decide) ?_
      · rfl
      · exact absurd (hb11.symm.trans hb') (by decide)
      clear hf; intro a ha hf; clear ha
      refine st_nil hf (th_n ?_)
      exact ⟨hf.sub ⟨rfl, rfl, (by rw [hb11]; rfl), trivial⟩, hp⟩
    refine st_skip hf (wantN hf rfl rfl hb11) rfl (by decide) ?_ rfl
    clear hf; intro a hf
    refine st_skip hf (wantN hf rfl rfl hb11) rfl (by decide) ?_ rfl
    clear hf; intro a hf
    refine st_skip hf (wantN hf rfl rfl hb11) rfl (by decide) ?_ rfl
    clear hf; intro a hf
    refine st_skip hf (wantN hf rfl rfl hb11) rfl (by decide) ?_ rfl
    clear hf; intro a hf
    refine st_pick (v := .bool false) hf rfl rfl (fun hb' => ?_) (fun hb' => ?_) (by decide) ?_
    · exact absurd (hb11.symm.trans hb') (by decide)
    · rfl
    clear hf; intro a ha hf; clear ha
    refine st_nil hf (th_n ?_)
    exact ⟨hf.sub ⟨rfl, rfl, (by rw [hb11]; rfl), trivial⟩, hp⟩
  rintro a w ⟨hf, hp⟩
  refine st_move hf rfl rfl (by decide) ?_
  clear hf; intro a ha hf; clear ha
  refine wpList_cut 11 (fun a w => Fr 50 a [(49, .bool (((((decide ((1 : Int) ≤ c0_One)) && (decide (c0_One < (ishl .u32 (1 : Int) c0_Length)))) && (decide ((1 : Int) ≤ c0_Two))) && (decide (c0_Two < (ishl .u32 (1 : Int) c0_Length)))) && ((decide ((IntKind.u32.wrap (((ishl .u32 (1 : Int) c0_Length)).tdiv (2 : Int))) ≤ c0_One)) || (decide ((IntKind.u32.wrap (((ishl .u32 (1 : Int) c0_Length)).tdiv (2 : Int))) ≤ c0_Two)))))] ∧ Hp S w0 w (Res.obj 41 v1 [.int .i64 c0_Length, .int .u32 c0_One, .int .u32 c0_Two] :: ow)) ?_ ?_
  · rcases Bool.eq_false_or_eq_true ((((decide ((1 : Int) ≤ c0_One)) && (decide (c0_One < (ishl .u32 (1 : Int) c0_Length)))) && (decide ((1 : Int) ≤ c0_Two))) && (decide (c0_Two < (ishl .u32 (1 : Int) c0_Length)))) with hb13 | hb13
    · skip
      refine st_fa (o' := 1) hf (by decide) (off := 1) (sz := 1) (by kernel_rfl) (by decide) (wantY hf rfl rfl hb13) rfl (hp.ob (i := 0) rfl) rfl ?_
      clear hf; intro a ha hf; clear ha
      refine st_ldO (u := .int .u32 c0_One) hf (by decide) pl37 (wantY hf rfl rfl hb13) rfl (hp.ob (i := 0) rfl) rfl ?_
      clear hf; intro a ha hf; clear ha
      refine st_move hf (wantY hf rfl rfl hb13) rfl (by decide) ?_
      clear hf; intro a ha hf; clear ha
      refine st_igeq hf (by decide) (wantY hf rfl rfl hb13) rfl rfl ?_
      clear hf; intro a ha hf; clear ha
      refine st_move hf (wantY hf rfl rfl hb13) rfl (by decide) ?_
      clear hf; intro a ha hf; clear ha
      refine wpList_cut 5 (fun a w => Fr 50 a [(38, .bool ((((decide ((1 : Int) ≤ c0_One)) && (decide (c0_One < (ishl .u32 (1 : Int) c0_Length)))) && (decide ((1 : Int) ≤ c0_Two))) && (decide (c0_Two < (ishl .u32 (1 : Int) c0_Length))))), (48, .bool ((decide ((IntKind.u32.wrap (((ishl .u32 (1 : Int) c0_Length)).tdiv (2 : Int))) ≤ c0_One)) || (decide ((IntKind.u32.wrap (((ishl .u32 (1 : Int) c0_Length)).tdiv (2 : Int))) ≤ c0_Two))))] ∧ Hp S w0 w (Res.obj 41 v1 [.int .i64 c0_Length, .int .u32 c0_One, .int .u32 c0_Two] :: ow)) ?_ ?_
      · rcases Bool.eq_false_or_eq_true (decide ((IntKind.u32.wrap (((ishl .u32 (1 : Int) c0_Length)).tdiv (2 : Int))) ≤ c0_One)) with hb15 | hb15
        · skip
          refine st_skip hf (wantN hf rfl rfl hb15) rfl (by decide) ?_ rfl
          clear hf; intro a hf
          refine st_skip hf (wantN hf rfl rfl hb15) rfl (by decide) ?_ rfl
          clear hf; intro a hf
          refine st_skip hf (wantN hf rfl rfl hb15) rfl (by decide) ?_ rfl
          clear hf; intro a hf
          refine st_skip hf (wantN hf rfl rfl hb15) rfl (by decide) ?_ rfl
          clear hf; intro a hf
          refine st_pick (v := .bool true) hf (wantY hf rfl rfl hb13) rfl (fun hb' => ?_) (fun hb' => ?_) (by decide) ?_
          · rfl
          · exact absurd (hb15.symm.trans hb') (by decide)
          clear hf; intro a ha hf; clear ha
          refine st_nil hf (th_n ?_)
          exact ⟨hf.sub ⟨rfl, (by rw [hb15]; rfl), trivial⟩, hp⟩
        refine st_fa (o' := 2) hf (by decide) (off := 2) (sz := 1) (by kernel_rfl) (by decide) (wantY hf rfl rfl hb15) rfl (hp.ob (i := 0) rfl) rfl ?_
        clear hf; intro a ha hf; clear ha
        refine st_ldO (u := .int .u32 c0_Two) hf (by decide) pl37 (wantY hf rfl rfl hb15) rfl (hp.ob (i := 0) rfl) rfl ?_
        clear hf; intro a ha hf; clear ha
        refine st_move hf (wantY hf rfl rfl hb15) rfl (by decide) ?_
        clear hf; intro a ha hf; clear ha
        refine st_igeq hf (by decide) (wantY hf rfl rfl hb15) rfl rfl ?_
        clear hf; intro a ha hf; clear ha
        refine st_pick (v := .bool (decide ((IntKind.u32.wrap (((ishl .u32 (1 : Int) c0_Length)).tdiv (2 : Int))) ≤ c0_Two))) hf (wantY hf rfl rfl hb13) rfl (fun hb' => ?_) (fun hb' => ?_) (by decide) ?_
        · exact absurd (hb15.symm.trans hb') (by decide)
        · rfl
        clear hf; intro a ha hf; clear ha
        refine st_nil hf (th_n ?_)
        exact ⟨hf.sub ⟨rfl, (by rw [hb15]; rfl), trivial⟩, hp⟩
      rintro a w ⟨hf, hp⟩
      refine st_pick (v := .bool ((decide ((IntKind.u32.wrap (((ishl .u32 (1 : Int) c0_Length)).tdiv (2 : Int))) ≤ c0_One)) || (decide ((IntKind.u32.wrap (((ishl .u32 (1 : Int) c0_Length)).tdiv (2 : Int))) ≤ c0_Two)))) hf rfl rfl (fun hb' => ?_) (fun hb' => ?_) (by decide) ?_
      · rfl
      · exact absurd (hb13.symm.trans hb') (by decide)
      clear hf; intro a ha hf; clear ha
      refine st_nil hf (th_n ?_)
      exact ⟨hf.sub ⟨(by rw [hb13]; rfl), trivial⟩, hp⟩
    refine st_skip hf (wantN hf rfl rfl hb13) rfl (by decide) ?_ rfl
    clear hf; intro a hf
    refine st_skip hf (wantN hf rfl rfl hb13) rfl (by decide) ?_ rfl
    clear hf; intro a hf
    refine st_skip hf (wantN hf rfl rfl hb13) rfl (by decide) ?_ rfl
    clear hf; intro a hf
    refine st_skip hf (wantN hf rfl rfl hb13) rfl (by decide) ?_ rfl
    clear hf; intro a hf
    refine st_skipU hf (wantN hf rfl rfl hb13) rfl (by decide) ?_
    clear hf; intro a hf
    refine st_skip hf (wantU hf rfl rfl) rfl (by decide) ?_ rfl
    clear hf; intro a hf
    refine st_skip hf (wantU hf rfl rfl) rfl (by decide) ?_ rfl
    clear hf; intro a hf
    refine st_skip hf (wantU hf rfl rfl) rfl (by decide) ?_ rfl
    clear hf; intro a hf
    refine st_skip hf (wantU hf rfl rfl) rfl (by decide) ?_ rfl
    clear hf; intro a hf
    refine st_skip hf (wantN hf rfl rfl hb13) rfl (by decide) ?_ rfl
    clear hf; intro a hf
    refine st_pick (v := .bool false) hf rfl rfl (fun hb' => ?_) (fun hb' => ?_) (by decide) ?_
    · exact absurd (hb13.symm.trans hb') (by decide)
    · rfl
    clear hf; intro a ha hf; clear ha
    refine st_nil hf (th_n ?_)
    exact ⟨hf.sub ⟨(by rw [hb13]; rfl), trivial⟩, hp⟩
  rintro a w ⟨hf, hp⟩
  refine st_assign hf rfl rfl (by decide) ?_
  clear hf; intro a ha hf; clear ha
  refine st_nil hf ?_
  refine th_n ?_
  refine wp_ret ?_
  obtain rfl := Option.some.inj h
  have hp : Hp _ _ _ (ow) := Hp.sel (pre := [Res.obj 41 v1 [.int .i64 c0_Length, .int .u32 c0_One, .int .u32 c0_Two]]) (tail := ow) (rs' := []) hp [] (by decide) (by simp) rfl
  exact ⟨rfl, ⟨hf.sub ⟨rfl, trivial⟩, hp⟩⟩

noncomputable def f_foghornref22_Fits.s1c (marks1 : (List Int)) (i5 : Int) : Option (Int ⊕ (Unit ⊕ Bool)) := (if (decide (i5 < (marks1.length : Int))) = true then (if 0 ≤ i5 ∧ i5 < (marks1.length : Int) then (if (decide ((2 : Int) < (gt marks1 i5))) = true then (some (Sum.inr (Sum.inr false))) else (some (Sum.inl (IntKind.i64.wrap (i5 + (1 : Int)))))) else none) else (some (Sum.inr (Sum.inl ()))))
noncomputable def f_foghornref22_Fits.s1 (marks1 : (List Int)) (s : Int) : Option (Int ⊕ (Unit ⊕ Bool)) := f_foghornref22_Fits.s1c marks1 s
noncomputable def f_foghornref22_Fits (c0_Length : Int) (c0_One : Int) (c0_Two : Int) (marks1 : (List Int)) : Option Bool := ((f_foghornref22_May c0_Length c0_One c0_Two).bind fun q3 => (if ((((!q3) || (decide ((32768 : Int) < (marks1.length : Int)))) || ((((marks1.length : Int)).tmod (2 : Int)) != (0 : Int))) || (decide ((marks1.length : Int) < (IntKind.i64.wrap ((2 : Int) * (IntKind.i64.wrap (c0_Length - (1 : Int)))))))) = true then (some false) else ((loop (f_foghornref22_Fits.s1 marks1) (0 : Int)).bind (fun q12 => sm q12 (fun q13 => (some true)) (fun q14 => (some q14))))))
theorem f_foghornref22_Fits_c {S : Nat → Prop} {w0 w : World} {ow : List Res} (hp : Hp S w0 w ow) (c0_Length : Int) (c0_One : Int) (c0_Two : Int) (vmarks1 : Value) (marks1 : (List Int)) (hmarks1 : RdS (Ek.int .u8) S w0 vmarks1 marks1) {r : Bool} (h : f_foghornref22_Fits c0_Length c0_One c0_Two marks1 = some r) :
    Calls Try.prog 33 #[.agg #[.int .i64 c0_Length, .int .u32 c0_One, .int .u32 c0_Two], vmarks1] w (fun e w' => e = .returned (.bool r) ∧ Hp S w0 w' (ow)) := by
  unfold f_foghornref22_Fits at h
  refine enter (n := 40) (args := [.agg #[.int .i64 c0_Length, .int .u32 c0_One, .int .u32 c0_Two], vmarks1]) Try.func33 rfl rfl (Nat.le_of_ble_eq_true rfl) fun a hf => ?_
  replace hf : Fr 40 a [(0, .agg #[.int .i64 c0_Length, .int .u32 c0_One, .int .u32 c0_Two]), (1, vmarks1)] := hf
  refine wp_mono (Q := fun e a w => e = .ret ∧ Fr 40 a [(4, .bool r)] ∧ Hp S w0 w (ow)) ?_ ?_
  rotate_left
  · rintro e a w ⟨rfl, hf, hp⟩
    exact ret1 hf rfl rfl ⟨rfl, hp⟩
  refine wp_seq ?_
  refine wp_reg ?_
  refine st_boxO (cs := [.int .i64 c0_Length, .int .u32 c0_One, .int .u32 c0_Two]) hf (by decide) hp rfl rfl rfl ?_
  clear hf; intro a w v1 hf hp0; clear hp; have hp := hp0; clear hp0
  replace hp : Hp _ _ _ (Res.obj 41 v1 [.int .i64 c0_Length, .int .u32 c0_One, .int .u32 c0_Two] :: ow) := hp
  refine st_assign hf rfl rfl (by decide) ?_
  clear hf; intro a ha hf; clear ha
  refine st_nil hf ?_
  refine th_n ?_
  refine wp_seq ?_
  refine wp_seq ?_
  refine wp_reg ?_
  refine st_ldOA (m := 3) (us := [.int .i64 c0_Length, .int .u32 c0_One, .int .u32 c0_Two]) hf (by decide) (by kernel_rfl) rfl rfl (hp.ob (i := 0) rfl) rfl rfl ?_
  clear hf; intro a ha hf; clear ha
  obtain ⟨q3, hcall4, h⟩ := bnd h
  refine st_call hf (by decide) Try.func49 rfl rfl rfl rfl rfl (f_foghornref22_May_c hp _ _ _ hcall4) ?_
  rintro _ w ⟨rfl, hp0⟩
  clear hp; have hp := hp0; clear hp0
  replace hp : Hp _ _ _ (Res.obj 41 v1 [.int .i64 c0_Length, .int .u32 c0_One, .int .u32 c0_Two] :: ow) := hp
  refine ⟨_, rfl, ?_⟩
  clear hf; intro a hf
  refine st_not hf (by decide) rfl rfl ?_
  clear hf; intro a ha hf; clear ha
  refine st_move hf rfl rfl (by decide) ?_
  clear hf; intro a ha hf; clear ha
  refine wpList_cut 4 (fun a w => Fr 40 a [(1, vmarks1), (2, optr v1 0), (13, .bool ((!q3) || (decide ((32768 : Int) < (marks1.length : Int)))))] ∧ Hp S w0 w (Res.obj 41 v1 [.int .i64 c0_Length, .int .u32 c0_One, .int .u32 c0_Two] :: ow)) ?_ ?_
  · rcases Bool.eq_false_or_eq_true (!q3) with hb6 | hb6
    · skip
      refine st_skip hf (wantN hf rfl rfl hb6) rfl (by decide) ?_ rfl
      clear hf; intro a hf
      refine st_skip hf (wantN hf rfl rfl hb6) rfl (by decide) ?_ rfl
      clear hf; intro a hf
      refine st_skip hf (wantN hf rfl rfl hb6) rfl (by decide) ?_ rfl
      clear hf; intro a hf
      refine st_pick (v := .bool true) hf rfl rfl (fun hb' => ?_) (fun hb' => ?_) (by decide) ?_
      · rfl
      · exact absurd (hb6.symm.trans hb') (by decide)
      clear hf; intro a ha hf; clear ha
      refine st_nil hf (th_n ?_)
      exact ⟨hf.sub ⟨rfl, rfl, (by rw [hb6]; rfl), trivial⟩, hp⟩
    refine st_move hf (wantY hf rfl rfl hb6) rfl (by decide) ?_
    clear hf; intro a ha hf; clear ha
    refine st_len (E := (Ek.int .u8)) hf (by decide) Try.underlying29 (wantY hf rfl rfl hb6) rfl (hmarks1.sl hp) ?_
    clear hf; intro a ha hf; clear ha
    refine st_igtr hf (by decide) (wantY hf rfl rfl hb6) rfl rfl ?_
    clear hf; intro a ha hf; clear ha
    refine st_pick (v := .bool (decide ((32768 : Int) < (marks1.length : Int)))) hf rfl rfl (fun hb' => ?_) (fun hb' => ?_) (by decide) ?_
    · exact absurd (hb6.symm.trans hb') (by decide)
    · rfl
    clear hf; intro a ha hf; clear ha
    refine st_nil hf (th_n ?_)
    exact ⟨hf.sub ⟨rfl, rfl, (by rw [hb6]; rfl), trivial⟩, hp⟩
  rintro a w ⟨hf, hp⟩
  refine st_move hf rfl rfl (by decide) ?_
  clear hf; intro a ha hf; clear ha
  refine wpList_cut 5 (fun a w => Fr 40 a [(1, vmarks1), (2, optr v1 0), (19, .bool (((!q3) || (decide ((32768 : Int) < (marks1.length : Int)))) || ((((marks1.length : Int)).tmod (2 : Int)) != (0 : Int))))] ∧ Hp S w0 w (Res.obj 41 v1 [.int .i64 c0_Length, .int .u32 c0_One, .int .u32 c0_Two] :: ow)) ?_ ?_
  · rcases Bool.eq_false_or_eq_true ((!q3) || (decide ((32768 : Int) < (marks1.length : Int)))) with hb8 | hb8
    · skip
      refine st_skip hf (wantN hf rfl rfl hb8) rfl (by decide) ?_ rfl
      clear hf; intro a hf
      refine st_skip hf (wantN hf rfl rfl hb8) rfl (by decide) ?_ rfl
      clear hf; intro a hf
      refine st_skip hf (wantN hf rfl rfl hb8) rfl (by decide) ?_ rfl
      clear hf; intro a hf
      refine st_skip hf (wantN hf rfl rfl hb8) rfl (by decide) ?_ rfl
      clear hf; intro a hf
      refine st_pick (v := .bool true) hf rfl rfl (fun hb' => ?_) (fun hb' => ?_) (by decide) ?_
      · rfl
      · exact absurd (hb8.symm.trans hb') (by decide)
      clear hf; intro a ha hf; clear ha
      refine st_nil hf (th_n ?_)
      exact ⟨hf.sub ⟨rfl, rfl, (by rw [hb8]; rfl), trivial⟩, hp⟩
    refine st_move hf (wantY hf rfl rfl hb8) rfl (by decide) ?_
    clear hf; intro a ha hf; clear ha
    refine st_len (E := (Ek.int .u8)) hf (by decide) Try.underlying29 (wantY hf rfl rfl hb8) rfl (hmarks1.sl hp) ?_
    clear hf; intro a ha hf; clear ha
    refine st_irem hf (by decide) (wantY hf rfl rfl hb8) rfl rfl (by decide) ?_
    clear hf; intro a ha hf; clear ha
    refine st_ineq hf (by decide) (wantY hf rfl rfl hb8) rfl rfl ?_
    clear hf; intro a ha hf; clear ha
    refine st_pick (v := .bool ((((marks1.length : Int)).tmod (2 : Int)) != (0 : Int))) hf rfl rfl (fun hb' => ?_) (fun hb' => ?_) (by decide) ?_
    · exact absurd (hb8.symm.trans hb') (by decide)
    · rfl
    clear hf; intro a ha hf; clear ha
    refine st_nil hf (th_n ?_)
    exact ⟨hf.sub ⟨rfl, rfl, (by rw [hb8]; rfl), trivial⟩, hp⟩
  rintro a w ⟨hf, hp⟩
  refine st_move hf rfl rfl (by decide) ?_
  clear hf; intro a ha hf; clear ha
  refine wpList_cut 8 (fun a w => Fr 40 a [(1, vmarks1), (28, .bool ((((!q3) || (decide ((32768 : Int) < (marks1.length : Int)))) || ((((marks1.length : Int)).tmod (2 : Int)) != (0 : Int))) || (decide ((marks1.length : Int) < (IntKind.i64.wrap ((2 : Int) * (IntKind.i64.wrap (c0_Length - (1 : Int)))))))))] ∧ Hp S w0 w (Res.obj 41 v1 [.int .i64 c0_Length, .int .u32 c0_One, .int .u32 c0_Two] :: ow)) ?_ ?_
  · rcases Bool.eq_false_or_eq_true (((!q3) || (decide ((32768 : Int) < (marks1.length : Int)))) || ((((marks1.length : Int)).tmod (2 : Int)) != (0 : Int))) with hb10 | hb10
    · skip
      refine st_skip hf (wantN hf rfl rfl hb10) rfl (by decide) ?_ rfl
      clear hf; intro a hf
      refine st_skip hf (wantN hf rfl rfl hb10) rfl (by decide) ?_ rfl
      clear hf; intro a hf
      refine st_skip hf (wantN hf rfl rfl hb10) rfl (by decide) ?_ rfl
      clear hf; intro a hf
      refine st_skip hf (wantN hf rfl rfl hb10) rfl (by decide) ?_ rfl
      clear hf; intro a hf
      refine st_skip hf (wantN hf rfl rfl hb10) rfl (by decide) ?_ rfl
      clear hf; intro a hf
      refine st_skip hf (wantN hf rfl rfl hb10) rfl (by decide) ?_ rfl
      clear hf; intro a hf
      refine st_skip hf (wantN hf rfl rfl hb10) rfl (by decide) ?_ rfl
      clear hf; intro a hf
      refine st_pick (v := .bool true) hf rfl rfl (fun hb' => ?_) (fun hb' => ?_) (by decide) ?_
      · rfl
      · exact absurd (hb10.symm.trans hb') (by decide)
      clear hf; intro a ha hf; clear ha
      refine st_nil hf (th_n ?_)
      exact ⟨hf.sub ⟨rfl, (by rw [hb10]; rfl), trivial⟩, hp⟩
    refine st_move hf (wantY hf rfl rfl hb10) rfl (by decide) ?_
    clear hf; intro a ha hf; clear ha
    refine st_len (E := (Ek.int .u8)) hf (by decide) Try.underlying29 (wantY hf rfl rfl hb10) rfl (hmarks1.sl hp) ?_
    clear hf; intro a ha hf; clear ha
    refine st_fa (o' := 0) hf (by decide) (off := 0) (sz := 1) (by kernel_rfl) (by decide) (wantY hf rfl rfl hb10) rfl (hp.ob (i := 0) rfl) rfl ?_
    clear hf; intro a ha hf; clear ha
    refine st_ldO (u := .int .i64 c0_Length) hf (by decide) pl3 (wantY hf rfl rfl hb10) rfl (hp.ob (i := 0) rfl) rfl ?_
    clear hf; intro a ha hf; clear ha
    refine st_isub hf (by decide) (wantY hf rfl rfl hb10) rfl rfl ?_
    clear hf; intro a ha hf; clear ha
    refine st_imul hf (by decide) (wantY hf rfl rfl hb10) rfl rfl ?_
    clear hf; intro a ha hf; clear ha
    refine st_ilss hf (by decide) (wantY hf rfl rfl hb10) rfl rfl ?_
    clear hf; intro a ha hf; clear ha
    refine st_pick (v := .bool (decide ((marks1.length : Int) < (IntKind.i64.wrap ((2 : Int) * (IntKind.i64.wrap (c0_Length - (1 : Int)))))))) hf rfl rfl (fun hb' => ?_) (fun hb' => ?_) (by decide) ?_
    · exact absurd (hb10.symm.trans hb') (by decide)
    · rfl
    clear hf; intro a ha hf; clear ha
    refine st_nil hf (th_n ?_)
    exact ⟨hf.sub ⟨rfl, (by rw [hb10]; rfl), trivial⟩, hp⟩
  rintro a w ⟨hf, hp⟩
  refine st_nil hf ?_
  refine th_n ?_
  refine wp_if hf rfl (fun hb => ?_) (fun hb => ?_)
  · replace h := ifT h hb
    refine wp_seq ?_
    refine wp_reg ?_
    refine st_assign hf rfl rfl (by decide) ?_
    clear hf; intro a ha hf; clear ha
    refine st_nil hf ?_
    refine th_n ?_
    refine wp_ret ?_
    refine th_r ?_
    obtain rfl := Option.some.inj h
    have hp : Hp _ _ _ (ow) := Hp.sel (pre := [Res.obj 41 v1 [.int .i64 c0_Length, .int .u32 c0_One, .int .u32 c0_Two]]) (tail := ow) (rs' := []) hp [] (by decide) (by simp) rfl
    exact ⟨rfl, ⟨hf.sub ⟨rfl, trivial⟩, hp⟩⟩
  replace h := ifF h hb
  refine wp_skip ?_
  refine th_n ?_
  refine wp_seq ?_
  refine wp_seq ?_
  refine wp_reg ?_
  refine st_assign hf rfl rfl (by decide) ?_
  clear hf; intro a ha hf; clear ha
  refine st_nil hf ?_
  refine th_n ?_
  refine wp_block ?_
  obtain ⟨q12, hl, h⟩ := bnd h
  have hp : Hp _ _ _ (ow) := Hp.sel (pre := [Res.obj 41 v1 [.int .i64 c0_Length, .int .u32 c0_One, .int .u32 c0_Two]]) (tail := ow) (rs' := []) hp [] (by decide) (by simp) rfl
  refine wp_loop_pure (f := (f_foghornref22_Fits.s1 marks1)) (s := (0 : Int)) (fun s a w => Fr 40 a [(1, vmarks1), (5, .int .i64 s)] ∧ Hp S w0 w (ow)) (fun q e a w => match q with | (Sum.inl q) => e = .exit 0 ∧ Fr 40 a [] ∧ Hp S w0 w (ow) | (Sum.inr q) => e = .ret ∧ Fr 40 a [(4, .bool q)] ∧ Hp S w0 w (ow)) ?_ hl ⟨hf.sub ⟨rfl, rfl, trivial⟩, hp⟩ ?_
  · clear hl hf hp
    intro s x a w h hI
    obtain ⟨i5, hs⟩ : ∃ z, z = s := ⟨s, rfl⟩; subst hs
    obtain ⟨hf, hp⟩ : Fr 40 a [(1, vmarks1), (5, .int .i64 i5)] ∧ Hp S w0 w (ow) := hI
    replace h : f_foghornref22_Fits.s1c marks1 i5 = some x := h
    unfold f_foghornref22_Fits.s1c at h
    refine wp_seq ?_
    refine wp_seq ?_
    refine wp_reg ?_
    refine st_move hf rfl rfl (by decide) ?_
    clear hf; intro a ha hf; clear ha
    refine st_move hf rfl rfl (by decide) ?_
    clear hf; intro a ha hf; clear ha
    refine st_len (E := (Ek.int .u8)) hf (by decide) Try.underlying29 rfl rfl (hmarks1.sl hp) ?_
    clear hf; intro a ha hf; clear ha
    refine st_ilss hf (by decide) rfl rfl rfl ?_
    clear hf; intro a ha hf; clear ha
    refine st_nil hf ?_
    refine th_n ?_
    refine wp_if hf rfl (fun hb => ?_) (fun hb => ?_)
    · replace h := ifT h hb
      refine wp_skip ?_
      refine th_n ?_
      refine wp_seq ?_
      refine wp_block ?_
      refine wp_seq ?_
      refine wp_reg ?_
      refine st_move hf rfl rfl (by decide) ?_
      clear hf; intro a ha hf; clear ha
      refine st_move hf rfl rfl (by decide) ?_
      clear hf; intro a ha hf; clear ha
      obtain ⟨hc11, h⟩ := chk h
      refine st_index (E := (Ek.int .u8)) hf (by decide) Try.underlying29 elt5 rfl rfl rfl (hmarks1.sl hp) hc11.1 hc11.2 ?_
      clear hf; intro a ha hf; clear ha
      refine st_ldI hf (by decide) pl5 rfl rfl (hmarks1.sl hp) hc11.1 hc11.2 ?_
      clear hf; intro a ha hf; clear ha
      refine st_igtr hf (by decide) rfl rfl rfl ?_
      clear hf; intro a ha hf; clear ha
      refine st_nil hf ?_
      refine th_n ?_
      refine wp_if hf rfl (fun hb => ?_) (fun hb => ?_)
      · replace h := ifT h hb
        refine wp_seq ?_
        refine wp_reg ?_
        refine st_assign hf rfl rfl (by decide) ?_
        clear hf; intro a ha hf; clear ha
        refine st_nil hf ?_
        refine th_n ?_
        refine wp_ret ?_
        refine ib_r ?_
        refine th_r ?_
        obtain rfl := Option.some.inj h
        exact rnd_r (by simp) ⟨rfl, ⟨hf.sub ⟨rfl, trivial⟩, hp⟩⟩
      replace h := ifF h hb
      refine wp_skip ?_
      refine ib_n ?_
      refine th_n ?_
      refine wp_reg ?_
      refine st_move hf rfl rfl (by decide) ?_
      clear hf; intro a ha hf; clear ha
      refine st_iadd hf (by decide) rfl rfl rfl ?_
      clear hf; intro a ha hf; clear ha
      refine st_assign hf rfl rfl (by decide) ?_
      clear hf; intro a ha hf; clear ha
      refine st_nil hf ?_
      obtain rfl := Option.some.inj h
      exact rnd_l ⟨hf.sub ⟨rfl, rfl, trivial⟩, hp⟩
    replace h := ifF h hb
    refine wp_exit ?_
    refine th_e ?_
    obtain rfl := Option.some.inj h
    exact rnd_r (by simp) ⟨rfl, hf.sub trivial, hp⟩
  clear hl hf hp
  intro e a w hne hO
  rcases q12 with q13 | q14
  · replace h := smL h
    obtain ⟨rfl, hf, hp⟩ := hO
    refine ib_same ?_
    refine th_n ?_
    refine wp_seq ?_
    refine wp_reg ?_
    refine st_assign hf rfl rfl (by decide) ?_
    clear hf; intro a ha hf; clear ha
    refine st_nil hf ?_
    refine th_n ?_
    refine wp_ret ?_
    obtain rfl := Option.some.inj h
    exact ⟨rfl, ⟨hf.sub ⟨rfl, trivial⟩, hp⟩⟩
  replace h := smR h
  obtain ⟨rfl, hf, hp⟩ := hO
  refine ib_r ?_
  refine th_r ?_
  obtain rfl := Option.some.inj h
  exact ⟨rfl, ⟨hf.sub ⟨rfl, trivial⟩, hp⟩⟩

noncomputable def f_foghornref22_odd.s1c (a0 : Int) (b1 : Int) (out5 : Bool) : Option ((Int × Int × Bool) ⊕ Bool) := (if ((decide ((0 : Int) < a0)) && (decide ((0 : Int) < b1))) = true then (if ((((a0).tmod (2 : Int)) == (1 : Int)) && (((b1).tmod (2 : Int)) == (1 : Int))) = true then (some (Sum.inl ((IntKind.u32.wrap ((a0).tdiv (2 : Int))), (IntKind.u32.wrap ((b1).tdiv (2 : Int))), (!out5)))) else (some (Sum.inl ((IntKind.u32.wrap ((a0).tdiv (2 : Int))), (IntKind.u32.wrap ((b1).tdiv (2 : Int))), out5)))) else (some (Sum.inr out5)))
noncomputable def f_foghornref22_odd.s1  (s : (Int × Int × Bool)) : Option ((Int × Int × Bool) ⊕ Bool) := f_foghornref22_odd.s1c s.1 s.2.1 s.2.2
noncomputable def f_foghornref22_odd (a0 : Int) (b1 : Int) : Option Bool := ((loop f_foghornref22_odd.s1 (a0, b1, false)).bind (fun q5 => (some q5)))
theorem f_foghornref22_odd_c {S : Nat → Prop} {w0 w : World} {ow : List Res} (hp : Hp S w0 w ow) (a0 : Int) (b1 : Int) {r : Bool} (h : f_foghornref22_odd a0 b1 = some r) :
    Calls Try.prog 50 #[.int .u32 a0, .int .u32 b1] w (fun e w' => e = .returned (.bool r) ∧ Hp S w0 w' (ow)) := by
  unfold f_foghornref22_odd at h
  refine enter (n := 27) (args := [.int .u32 a0, .int .u32 b1]) Try.func50 rfl rfl (Nat.le_of_ble_eq_true rfl) fun a hf => ?_
  replace hf : Fr 27 a [(0, .int .u32 a0), (1, .int .u32 b1)] := hf
  refine wp_mono (Q := fun e a w => e = .ret ∧ Fr 27 a [(4, .bool r)] ∧ Hp S w0 w (ow)) ?_ ?_
  rotate_left
  · rintro e a w ⟨rfl, hf, hp⟩
    exact ret1 hf rfl rfl ⟨rfl, hp⟩
  refine wp_seq ?_
  refine wp_reg ?_
  refine st_assign hf rfl rfl (by decide) ?_
  clear hf; intro a ha hf; clear ha
  refine st_nil hf ?_
  refine th_n ?_
  refine wp_seq ?_
  refine wp_reg ?_
  refine st_assign hf rfl rfl (by decide) ?_
  clear hf; intro a ha hf; clear ha
  refine st_nil hf ?_
  refine th_n ?_
  refine wp_seq ?_
  refine wp_block ?_
  obtain ⟨q5, hl, h⟩ := bnd h
  refine wp_loop_pure (f := f_foghornref22_odd.s1) (s := (a0, b1, false)) (fun s a w => Fr 27 a [(0, .int .u32 s.1), (1, .int .u32 s.2.1), (5, .bool s.2.2)] ∧ Hp S w0 w (ow)) (fun q e a w => e = .exit 0 ∧ Fr 27 a [(5, .bool q)] ∧ Hp S w0 w (ow)) ?_ hl ⟨hf.sub ⟨rfl, rfl, rfl, trivial⟩, hp⟩ ?_
  · clear hl hf hp
    intro s x a w h hI
    obtain ⟨a0, b1, out5⟩ := s
    obtain ⟨hf, hp⟩ : Fr 27 a [(0, .int .u32 a0), (1, .int .u32 b1), (5, .bool out5)] ∧ Hp S w0 w (ow) := hI
    replace h : f_foghornref22_odd.s1c a0 b1 out5 = some x := h
    unfold f_foghornref22_odd.s1c at h
    refine wp_seq ?_
    refine wp_seq ?_
    refine wp_reg ?_
    refine st_move hf rfl rfl (by decide) ?_
    clear hf; intro a ha hf; clear ha
    refine st_igtr hf (by decide) rfl rfl rfl ?_
    clear hf; intro a ha hf; clear ha
    refine st_move hf rfl rfl (by decide) ?_
    clear hf; intro a ha hf; clear ha
    refine wpList_cut 3 (fun a w => Fr 27 a [(0, .int .u32 a0), (1, .int .u32 b1), (5, .bool out5), (11, .bool ((decide ((0 : Int) < a0)) && (decide ((0 : Int) < b1))))] ∧ Hp S w0 w (ow)) ?_ ?_
    · rcases Bool.eq_false_or_eq_true (decide ((0 : Int) < a0)) with hb2 | hb2
      · skip
        refine st_move hf (wantY hf rfl rfl hb2) rfl (by decide) ?_
        clear hf; intro a ha hf; clear ha
        refine st_igtr hf (by decide) (wantY hf rfl rfl hb2) rfl rfl ?_
        clear hf; intro a ha hf; clear ha
        refine st_pick (v := .bool (decide ((0 : Int) < b1))) hf rfl rfl (fun hb' => ?_) (fun hb' => ?_) (by decide) ?_
        · rfl
        · exact absurd (hb2.symm.trans hb') (by decide)
        clear hf; intro a ha hf; clear ha
        refine st_nil hf (th_n ?_)
        exact ⟨hf.sub ⟨rfl, rfl, rfl, (by rw [hb2]; rfl), trivial⟩, hp⟩
      refine st_skip hf (wantN hf rfl rfl hb2) rfl (by decide) ?_ rfl
      clear hf; intro a hf
      refine st_skip hf (wantN hf rfl rfl hb2) rfl (by decide) ?_ rfl
      clear hf; intro a hf
      refine st_pick (v := .bool false) hf rfl rfl (fun hb' => ?_) (fun hb' => ?_) (by decide) ?_
      · exact absurd (hb2.symm.trans hb') (by decide)
      · rfl
      clear hf; intro a ha hf; clear ha
      refine st_nil hf (th_n ?_)
      exact ⟨hf.sub ⟨rfl, rfl, rfl, (by rw [hb2]; rfl), trivial⟩, hp⟩
    rintro a w ⟨hf, hp⟩
    refine st_nil hf ?_
    refine th_n ?_
    refine wp_if hf rfl (fun hb => ?_) (fun hb => ?_)
    · replace h := ifT h hb
      refine wp_skip ?_
      refine th_n ?_
      refine wp_block ?_
      refine wp_seq ?_
      refine wp_seq ?_
      refine wp_reg ?_
      refine st_move hf rfl rfl (by decide) ?_
      clear hf; intro a ha hf; clear ha
      refine st_irem hf (by decide) rfl rfl rfl (by decide) ?_
      clear hf; intro a ha hf; clear ha
      refine st_ieql hf (by decide) rfl rfl rfl ?_
      clear hf; intro a ha hf; clear ha
      refine st_move hf rfl rfl (by decide) ?_
      clear hf; intro a ha hf; clear ha
      refine wpList_cut 4 (fun a w => Fr 27 a [(0, .int .u32 a0), (1, .int .u32 b1), (5, .bool out5), (19, .bool ((((a0).tmod (2 : Int)) == (1 : Int)) && (((b1).tmod (2 : Int)) == (1 : Int))))] ∧ Hp S w0 w (ow)) ?_ ?_
      · rcases Bool.eq_false_or_eq_true (((a0).tmod (2 : Int)) == (1 : Int)) with hb4 | hb4
        · skip
          refine st_move hf (wantY hf rfl rfl hb4) rfl (by decide) ?_
          clear hf; intro a ha hf; clear ha
          refine st_irem hf (by decide) (wantY hf rfl rfl hb4) rfl rfl (by decide) ?_
          clear hf; intro a ha hf; clear ha
          refine st_ieql hf (by decide) (wantY hf rfl rfl hb4) rfl rfl ?_
          clear hf; intro a ha hf; clear ha
          refine st_pick (v := .bool (((b1).tmod (2 : Int)) == (1 : Int))) hf rfl rfl (fun hb' => ?_) (fun hb' => ?_) (by decide) ?_
          · rfl
          · exact absurd (hb4.symm.trans hb') (by decide)
          clear hf; intro a ha hf; clear ha
          refine st_nil hf (th_n ?_)
          exact ⟨hf.sub ⟨rfl, rfl, rfl, (by rw [hb4]; rfl), trivial⟩, hp⟩
        refine st_skip hf (wantN hf rfl rfl hb4) rfl (by decide) ?_ rfl
        clear hf; intro a hf
        refine st_skip hf (wantN hf rfl rfl hb4) rfl (by decide) ?_ rfl
        clear hf; intro a hf
        refine st_skip hf (wantN hf rfl rfl hb4) rfl (by decide) ?_ rfl
        clear hf; intro a hf
        refine st_pick (v := .bool false) hf rfl rfl (fun hb' => ?_) (fun hb' => ?_) (by decide) ?_
        · exact absurd (hb4.symm.trans hb') (by decide)
        · rfl
        clear hf; intro a ha hf; clear ha
        refine st_nil hf (th_n ?_)
        exact ⟨hf.sub ⟨rfl, rfl, rfl, (by rw [hb4]; rfl), trivial⟩, hp⟩
      rintro a w ⟨hf, hp⟩
      refine st_nil hf ?_
      refine th_n ?_
      refine wp_if hf rfl (fun hb => ?_) (fun hb => ?_)
      · replace h := ifT h hb
        refine wp_reg ?_
        refine st_move hf rfl rfl (by decide) ?_
        clear hf; intro a ha hf; clear ha
        refine st_not hf (by decide) rfl rfl ?_
        clear hf; intro a ha hf; clear ha
        refine st_assign hf rfl rfl (by decide) ?_
        clear hf; intro a ha hf; clear ha
        refine st_nil hf ?_
        refine th_n ?_
        refine wp_seq ?_
        refine wp_reg ?_
        refine st_move hf rfl rfl (by decide) ?_
        clear hf; intro a ha hf; clear ha
        refine st_iquo hf (by decide) rfl rfl rfl (by decide) ?_
        clear hf; intro a ha hf; clear ha
        refine st_assign hf rfl rfl (by decide) ?_
        clear hf; intro a ha hf; clear ha
        refine st_nil hf ?_
        refine th_n ?_
        refine wp_reg ?_
        refine st_move hf rfl rfl (by decide) ?_
        clear hf; intro a ha hf; clear ha
        refine st_iquo hf (by decide) rfl rfl rfl (by decide) ?_
        clear hf; intro a ha hf; clear ha
        refine st_assign hf rfl rfl (by decide) ?_
        clear hf; intro a ha hf; clear ha
        refine st_nil hf ?_
        refine ib_n ?_
        obtain rfl := Option.some.inj h
        exact rnd_l ⟨hf.sub ⟨rfl, rfl, rfl, trivial⟩, hp⟩
      replace h := ifF h hb
      refine wp_skip ?_
      refine th_n ?_
      refine wp_seq ?_
      refine wp_reg ?_
      refine st_move hf rfl rfl (by decide) ?_
      clear hf; intro a ha hf; clear ha
      refine st_iquo hf (by decide) rfl rfl rfl (by decide) ?_
      clear hf; intro a ha hf; clear ha
      refine st_assign hf rfl rfl (by decide) ?_
      clear hf; intro a ha hf; clear ha
      refine st_nil hf ?_
      refine th_n ?_
      refine wp_reg ?_
      refine st_move hf rfl rfl (by decide) ?_
      clear hf; intro a ha hf; clear ha
      refine st_iquo hf (by decide) rfl rfl rfl (by decide) ?_
      clear hf; intro a ha hf; clear ha
      refine st_assign hf rfl rfl (by decide) ?_
      clear hf; intro a ha hf; clear ha
      refine st_nil hf ?_
      refine ib_n ?_
      obtain rfl := Option.some.inj h
      exact rnd_l ⟨hf.sub ⟨rfl, rfl, rfl, trivial⟩, hp⟩
    replace h := ifF h hb
    refine wp_exit ?_
    refine th_e ?_
    obtain rfl := Option.some.inj h
    exact rnd_r (by simp) ⟨rfl, hf.sub ⟨rfl, trivial⟩, hp⟩
  clear hl hf hp
  intro e a w hne hO
  obtain ⟨rfl, hf, hp⟩ := hO
  refine ib_same ?_
  refine th_n ?_
  refine wp_seq ?_
  refine wp_reg ?_
  refine st_move hf rfl rfl (by decide) ?_
  clear hf; intro a ha hf; clear ha
  refine st_assign hf rfl rfl (by decide) ?_
  clear hf; intro a ha hf; clear ha
  refine st_nil hf ?_
  refine th_n ?_
  refine wp_ret ?_
  obtain rfl := Option.some.inj h
  exact ⟨rfl, ⟨hf.sub ⟨rfl, trivial⟩, hp⟩⟩

noncomputable def f_foghornref22_Step.j1 (c0_One : Int) (c0_Two : Int) (all9 : Int) : Option (Int × Bool × Bool) := ((f_foghornref22_odd all9 c0_One).bind fun q9 => ((f_foghornref22_odd all9 c0_Two).bind fun q11 => (some ((IntKind.u32.wrap ((all9).tdiv (2 : Int))), q9, q11))))
noncomputable def f_foghornref22_Step (c0_Length : Int) (c0_One : Int) (c0_Two : Int) (state1 : Int) (bit2 : Bool) : Option (Int × Bool × Bool) := (if bit2 = true then (if 0 ≤ (IntKind.i64.wrap (c0_Length - (1 : Int))) then (f_foghornref22_Step.j1 c0_One c0_Two (IntKind.u32.wrap (state1 + (ishl .u32 (1 : Int) (IntKind.i64.wrap (c0_Length - (1 : Int))))))) else none) else (f_foghornref22_Step.j1 c0_One c0_Two state1))
theorem f_foghornref22_Step_c {S : Nat → Prop} {w0 w : World} {ow : List Res} (hp : Hp S w0 w ow) (c0_Length : Int) (c0_One : Int) (c0_Two : Int) (state1 : Int) (bit2 : Bool) {r : (Int × Bool × Bool)} (h : f_foghornref22_Step c0_Length c0_One c0_Two state1 bit2 = some r) :
    Calls Try.prog 35 #[.agg #[.int .i64 c0_Length, .int .u32 c0_One, .int .u32 c0_Two], .int .u32 state1, .bool bit2] w (fun e w' => e = .returned (.tuple #[.int .u32 r.1, .bool r.2.1, .bool r.2.2]) ∧ Hp S w0 w' (ow)) := by
  unfold f_foghornref22_Step at h
  refine enter (n := 28) (args := [.agg #[.int .i64 c0_Length, .int .u32 c0_One, .int .u32 c0_Two], .int .u32 state1, .bool bit2]) Try.func35 rfl rfl (Nat.le_of_ble_eq_true rfl) fun a hf => ?_
  replace hf : Fr 28 a [(0, .agg #[.int .i64 c0_Length, .int .u32 c0_One, .int .u32 c0_Two]), (1, .int .u32 state1), (2, .bool bit2)] := hf
  refine wp_mono (Q := fun e a w => e = .ret ∧ Fr 28 a [(6, .int .u32 r.1), (7, .bool r.2.1), (8, .bool r.2.2)] ∧ Hp S w0 w (ow)) ?_ ?_
  rotate_left
  · rintro e a w ⟨rfl, hf, hp⟩
    exact ret3 hf rfl rfl rfl rfl ⟨rfl, hp⟩
  refine wp_seq ?_
  refine wp_reg ?_
  refine st_boxO (cs := [.int .i64 c0_Length, .int .u32 c0_One, .int .u32 c0_Two]) hf (by decide) hp rfl rfl rfl ?_
  clear hf; intro a w v1 hf hp0; clear hp; have hp := hp0; clear hp0
  replace hp : Hp _ _ _ (Res.obj 41 v1 [.int .i64 c0_Length, .int .u32 c0_One, .int .u32 c0_Two] :: ow) := hp
  refine st_assign hf rfl rfl (by decide) ?_
  clear hf; intro a ha hf; clear ha
  refine st_assign hf rfl rfl (by decide) ?_
  clear hf; intro a ha hf; clear ha
  refine st_assign hf rfl rfl (by decide) ?_
  clear hf; intro a ha hf; clear ha
  refine st_nil hf ?_
  refine th_n ?_
  refine wp_seq ?_
  refine wp_reg ?_
  refine st_move hf rfl rfl (by decide) ?_
  clear hf; intro a ha hf; clear ha
  refine st_assign hf rfl rfl (by decide) ?_
  clear hf; intro a ha hf; clear ha
  refine st_nil hf ?_
  refine th_n ?_
  refine wp_seq_cut (fun a w => ∃ (all9 : Int), f_foghornref22_Step.j1 c0_One c0_Two all9 = some r ∧ Fr 28 a [(3, optr v1 0), (9, .int .u32 all9)] ∧ Hp S w0 w (Res.obj 41 v1 [.int .i64 c0_Length, .int .u32 c0_One, .int .u32 c0_Two] :: ow)) ?_ ?_
  · skip
    refine wp_seq ?_
    refine wp_reg ?_
    refine st_move hf rfl rfl (by decide) ?_
    clear hf; intro a ha hf; clear ha
    refine st_nil hf ?_
    refine th_n ?_
    refine wp_if hf rfl (fun hb => ?_) (fun hb => ?_)
    · replace h := ifT h hb
      refine wp_reg ?_
      refine st_move hf rfl rfl (by decide) ?_
      clear hf; intro a ha hf; clear ha
      refine st_fa (o' := 0) hf (by decide) (off := 0) (sz := 1) (by kernel_rfl) (by decide) rfl rfl (hp.ob (i := 0) rfl) rfl ?_
      clear hf; intro a ha hf; clear ha
      refine st_ldO (u := .int .i64 c0_Length) hf (by decide) pl3 rfl rfl (hp.ob (i := 0) rfl) rfl ?_
      clear hf; intro a ha hf; clear ha
      refine st_isub hf (by decide) rfl rfl rfl ?_
      clear hf; intro a ha hf; clear ha
      obtain ⟨hc13, h⟩ := chk h
      refine st_ishl hf (by decide) rfl rfl rfl hc13 ?_
      clear hf; intro a ha hf; clear ha
      refine st_iadd hf (by decide) rfl rfl rfl ?_
      clear hf; intro a ha hf; clear ha
      refine st_assign hf rfl rfl (by decide) ?_
      clear hf; intro a ha hf; clear ha
      refine st_nil hf ?_
      refine th_n ?_
      exact ⟨_, h, hf.sub ⟨rfl, rfl, trivial⟩, hp⟩
    replace h := ifF h hb
    refine wp_skip ?_
    refine th_n ?_
    exact ⟨_, h, hf.sub ⟨rfl, rfl, trivial⟩, hp⟩
  rintro a w ⟨all9, h, hf, hp⟩
  unfold f_foghornref22_Step.j1 at h
  refine wp_seq ?_
  obtain ⟨S3, hp4, rd5, up6, bk7⟩ := Hp.lendO hp (i := 0) rfl
  have rl8 := rd5
  obtain ⟨q9, hcall10, h⟩ := bnd h
  obtain ⟨q11, hcall12, h⟩ := bnd h
  refine wp_cutN (fun a w => Fr 28 a [(6, .int .u32 (IntKind.u32.wrap ((all9).tdiv (2 : Int)))), (7, .bool q9), (8, .bool q11)] ∧ Hp S w0 w (Res.obj 41 v1 [.int .i64 c0_Length, .int .u32 c0_One, .int .u32 c0_Two] :: ow)) ?_ ?_
  · have hp := hp4.same (Same.drew w)
    refine dr_begin' (fun a w => Fr 28 a [(6, .int .u32 (IntKind.u32.wrap ((all9).tdiv (2 : Int)))), (7, .bool q9), (8, .bool q11)] ∧ Hp S w0 w (Res.obj 41 v1 [.int .i64 c0_Length, .int .u32 c0_One, .int .u32 c0_Two] :: ow)) (fun w' => ∃ l, Hp S3 w w' l) [] (by kernel_rfl) ?_
    refine dr_take 0 (.int .u32 all9) rfl (by kernel_rfl) (by kernel_rfl) (by kernel_rfl) (by kernel_rfl) rfl rfl hf (by decide) rfl (fun w hp => ?_) ⟨_, hp⟩ ?_
    · obtain ⟨_, hp⟩ := hp
      refine st_move hf rfl rfl (by decide) ?_
      clear hf; intro a ha hf
      exact st_nil hf (th_n ⟨ha, rfl⟩)
    clear hf; intro a hf
    refine dr_take 1 (.int .u32 (IntKind.u32.wrap ((all9).tdiv (2 : Int)))) rfl (by kernel_rfl) (by kernel_rfl) (by kernel_rfl) (by kernel_rfl) rfl rfl hf (by decide) rfl (fun w hp => ?_) ⟨_, hp⟩ ?_
    · obtain ⟨_, hp⟩ := hp
      refine st_iquo hf (by decide) rfl rfl rfl (by decide) ?_
      clear hf; intro a ha hf
      exact st_nil hf (th_n ⟨ha, rfl⟩)
    clear hf; intro a hf
    refine dr_take 2 (.int .u32 all9) rfl (by kernel_rfl) (by kernel_rfl) (by kernel_rfl) (by kernel_rfl) rfl rfl hf (by decide) rfl (fun w hp => ?_) ⟨_, hp⟩ ?_
    · obtain ⟨_, hp⟩ := hp
      refine st_move hf rfl rfl (by decide) ?_
      clear hf; intro a ha hf
      exact st_nil hf (th_n ⟨ha, rfl⟩)
    clear hf; intro a hf
    refine dr_take 3 (optr v1 1) rfl (by kernel_rfl) (by kernel_rfl) (by kernel_rfl) (by kernel_rfl) rfl rfl hf (by decide) rfl (fun w hp => ?_) ⟨_, hp⟩ ?_
    · obtain ⟨_, hp⟩ := hp
      refine st_fa (o' := 1) hf (by decide) (off := 1) (sz := 1) (by kernel_rfl) (by decide) rfl rfl (rl8.ob hp) rfl ?_
      clear hf; intro a ha hf
      exact st_nil hf (th_n ⟨ha, rfl⟩)
    clear hf; intro a hf
    refine dr_take 4 (.int .u32 c0_One) rfl (by kernel_rfl) (by kernel_rfl) (by kernel_rfl) (by kernel_rfl) rfl rfl hf (by decide) rfl (fun w hp => ?_) ⟨_, hp⟩ ?_
    · obtain ⟨_, hp⟩ := hp
      refine st_ldO (u := .int .u32 c0_One) hf (by decide) pl37 rfl rfl (rl8.ob hp) rfl ?_
      clear hf; intro a ha hf
      exact st_nil hf (th_n ⟨ha, rfl⟩)
    clear hf; intro a hf
    refine dr_take 6 (.int .u32 all9) rfl (by kernel_rfl) (by kernel_rfl) (by kernel_rfl) (by kernel_rfl) rfl rfl hf (by decide) rfl (fun w hp => ?_) ⟨_, hp⟩ ?_
    · obtain ⟨_, hp⟩ := hp
      refine st_move hf rfl rfl (by decide) ?_
      clear hf; intro a ha hf
      exact st_nil hf (th_n ⟨ha, rfl⟩)
    clear hf; intro a hf
    refine dr_take 7 (optr v1 2) rfl (by kernel_rfl) (by kernel_rfl) (by kernel_rfl) (by kernel_rfl) rfl rfl hf (by decide) rfl (fun w hp => ?_) ⟨_, hp⟩ ?_
    · obtain ⟨_, hp⟩ := hp
      refine st_fa (o' := 2) hf (by decide) (off := 2) (sz := 1) (by kernel_rfl) (by decide) rfl rfl (rl8.ob hp) rfl ?_
      clear hf; intro a ha hf
      exact st_nil hf (th_n ⟨ha, rfl⟩)
    clear hf; intro a hf
    refine dr_take 8 (.int .u32 c0_Two) rfl (by kernel_rfl) (by kernel_rfl) (by kernel_rfl) (by kernel_rfl) rfl rfl hf (by decide) rfl (fun w hp => ?_) ⟨_, hp⟩ ?_
    · obtain ⟨_, hp⟩ := hp
      refine st_ldO (u := .int .u32 c0_Two) hf (by decide) pl37 rfl rfl (rl8.ob hp) rfl ?_
      clear hf; intro a ha hf
      exact st_nil hf (th_n ⟨ha, rfl⟩)
    clear hf; intro a hf
    refine dr_one 5 rfl (by kernel_rfl) ?_
    refine st_call hf (by decide) Try.func50 rfl rfl rfl rfl rfl (f_foghornref22_odd_c hp _ _ hcall10) ?_
    rintro _ w ⟨rfl, hp0⟩
    clear hp; have hp := hp0; clear hp0
    replace hp : Hp _ _ _ (ow) := hp
    refine ⟨_, rfl, ?_⟩
    clear hf; intro a hf
    refine st_nil hf (th_n ⟨fun _ _ => ⟨_, hp⟩, ?_⟩)
    refine dr_one 9 rfl (by kernel_rfl) ?_
    refine st_call hf (by decide) Try.func50 rfl rfl rfl rfl rfl (f_foghornref22_odd_c hp _ _ hcall12) ?_
    rintro _ w ⟨rfl, hp0⟩
    clear hp; have hp := hp0; clear hp0
    replace hp : Hp _ _ _ (ow) := hp
    refine ⟨_, rfl, ?_⟩
    clear hf; intro a hf
    refine st_nil hf (th_n ⟨fun _ _ => ⟨_, hp⟩, ?_⟩)
    refine dr_take 10 (.int .u32 (IntKind.u32.wrap ((all9).tdiv (2 : Int)))) rfl (by kernel_rfl) (by kernel_rfl) (by kernel_rfl) (by kernel_rfl) rfl rfl hf (by decide) rfl (fun w hp => ?_) ⟨_, hp⟩ ?_
    · obtain ⟨_, hp⟩ := hp
      refine st_assign hf rfl rfl (by decide) ?_
      clear hf; intro a ha hf
      exact st_nil hf (th_n ⟨ha, rfl⟩)
    clear hf; intro a hf
    refine dr_take 11 (.bool q9) rfl (by kernel_rfl) (by kernel_rfl) (by kernel_rfl) (by kernel_rfl) rfl rfl hf (by decide) rfl (fun w hp => ?_) ⟨_, hp⟩ ?_
    · obtain ⟨_, hp⟩ := hp
      refine st_assign hf rfl rfl (by decide) ?_
      clear hf; intro a ha hf
      exact st_nil hf (th_n ⟨ha, rfl⟩)
    clear hf; intro a hf
    refine dr_take 12 (.bool q11) rfl (by kernel_rfl) (by kernel_rfl) (by kernel_rfl) (by kernel_rfl) rfl rfl hf (by decide) rfl (fun w hp => ?_) ⟨_, hp⟩ ?_
    · obtain ⟨_, hp⟩ := hp
      refine st_assign hf rfl rfl (by decide) ?_
      clear hf; intro a ha hf
      exact st_nil hf (th_n ⟨ha, rfl⟩)
    clear hf; intro a hf
    refine dr_end (by kernel_rfl) ?_ _
    have hp := bk7 _ _ hp
    exact ⟨hf.sub ⟨rfl, rfl, rfl, trivial⟩, hp⟩
  rintro a w ⟨hf, hp⟩
  refine th_n ?_
  refine wp_ret ?_
  obtain rfl := Option.some.inj h
  have hp : Hp _ _ _ (ow) := Hp.sel (pre := [Res.obj 41 v1 [.int .i64 c0_Length, .int .u32 c0_One, .int .u32 c0_Two]]) (tail := ow) (rs' := []) hp [] (by decide) (by simp) rfl
  exact ⟨rfl, ⟨hf.sub ⟨rfl, rfl, rfl, trivial⟩, hp⟩⟩

noncomputable def f_foghornref22_unlike (b0 : Bool) (m1 : Int) : Option Int := (if (((m1 == (0 : Int)) && b0) || ((m1 == (1 : Int)) && (!b0))) = true then (some (1 : Int)) else (some (0 : Int)))
theorem f_foghornref22_unlike_c {S : Nat → Prop} {w0 w : World} {ow : List Res} (hp : Hp S w0 w ow) (b0 : Bool) (m1 : Int) {r : Int} (h : f_foghornref22_unlike b0 m1 = some r) :
    Calls Try.prog 37 #[.bool b0, .int .u8 m1] w (fun e w' => e = .returned (.int .i64 r) ∧ Hp S w0 w' (ow)) := by
  unfold f_foghornref22_unlike at h
  refine enter (n := 18) (args := [.bool b0, .int .u8 m1]) Try.func37 rfl rfl (Nat.le_of_ble_eq_true rfl) fun a hf => ?_
  replace hf : Fr 18 a [(0, .bool b0), (1, .int .u8 m1)] := hf
  refine wp_mono (Q := fun e a w => e = .ret ∧ Fr 18 a [(4, .int .i64 r)] ∧ Hp S w0 w (ow)) ?_ ?_
  rotate_left
  · rintro e a w ⟨rfl, hf, hp⟩
    exact ret1 hf rfl rfl ⟨rfl, hp⟩
  refine wp_seq ?_
  refine wp_reg ?_
  refine st_assign hf rfl rfl (by decide) ?_
  clear hf; intro a ha hf; clear ha
  refine st_nil hf ?_
  refine th_n ?_
  refine wp_seq ?_
  refine wp_seq ?_
  refine wp_reg ?_
  refine st_move hf rfl rfl (by decide) ?_
  clear hf; intro a ha hf; clear ha
  refine st_ieql hf (by decide) rfl rfl rfl ?_
  clear hf; intro a ha hf; clear ha
  refine st_move hf rfl rfl (by decide) ?_
  clear hf; intro a ha hf; clear ha
  refine wpList_cut 2 (fun a w => Fr 18 a [(0, .bool b0), (1, .int .u8 m1), (9, .bool ((m1 == (0 : Int)) && b0))] ∧ Hp S w0 w (ow)) ?_ ?_
  · rcases Bool.eq_false_or_eq_true (m1 == (0 : Int)) with hb2 | hb2
    · skip
      refine st_move hf (wantY hf rfl rfl hb2) rfl (by decide) ?_
      clear hf; intro a ha hf; clear ha
      refine st_pick (v := .bool b0) hf rfl rfl (fun hb' => ?_) (fun hb' => ?_) (by decide) ?_
      · rfl
      · exact absurd (hb2.symm.trans hb') (by decide)
      clear hf; intro a ha hf; clear ha
      refine st_nil hf (th_n ?_)
      exact ⟨hf.sub ⟨rfl, rfl, (by rw [hb2]; rfl), trivial⟩, hp⟩
    refine st_skip hf (wantN hf rfl rfl hb2) rfl (by decide) ?_ rfl
    clear hf; intro a hf
    refine st_pick (v := .bool false) hf rfl rfl (fun hb' => ?_) (fun hb' => ?_) (by decide) ?_
    · exact absurd (hb2.symm.trans hb') (by decide)
    · rfl
    clear hf; intro a ha hf; clear ha
    refine st_nil hf (th_n ?_)
    exact ⟨hf.sub ⟨rfl, rfl, (by rw [hb2]; rfl), trivial⟩, hp⟩
  rintro a w ⟨hf, hp⟩
  refine st_move hf rfl rfl (by decide) ?_
  clear hf; intro a ha hf; clear ha
  refine wpList_cut 7 (fun a w => Fr 18 a [(17, .bool (((m1 == (0 : Int)) && b0) || ((m1 == (1 : Int)) && (!b0))))] ∧ Hp S w0 w (ow)) ?_ ?_
  · rcases Bool.eq_false_or_eq_true ((m1 == (0 : Int)) && b0) with hb4 | hb4
    · skip
      refine st_skip hf (wantN hf rfl rfl hb4) rfl (by decide) ?_ rfl
      clear hf; intro a hf
      refine st_skip hf (wantN hf rfl rfl hb4) rfl (by decide) ?_ rfl
      clear hf; intro a hf
      refine st_skipU hf (wantN hf rfl rfl hb4) rfl (by decide) ?_
      clear hf; intro a hf
      refine st_skip hf (wantU hf rfl rfl) rfl (by decide) ?_ rfl
      clear hf; intro a hf
      refine st_skip hf (wantU hf rfl rfl) rfl (by decide) ?_ rfl
      clear hf; intro a hf
      refine st_skip hf (wantN hf rfl rfl hb4) rfl (by decide) ?_ rfl
      clear hf; intro a hf
      refine st_pick (v := .bool true) hf rfl rfl (fun hb' => ?_) (fun hb' => ?_) (by decide) ?_
      · rfl
      · exact absurd (hb4.symm.trans hb') (by decide)
      clear hf; intro a ha hf; clear ha
      refine st_nil hf (th_n ?_)
      exact ⟨hf.sub ⟨(by rw [hb4]; rfl), trivial⟩, hp⟩
    refine st_move hf (wantY hf rfl rfl hb4) rfl (by decide) ?_
    clear hf; intro a ha hf; clear ha
    refine st_ieql hf (by decide) (wantY hf rfl rfl hb4) rfl rfl ?_
    clear hf; intro a ha hf; clear ha
    refine st_move hf (wantY hf rfl rfl hb4) rfl (by decide) ?_
    clear hf; intro a ha hf; clear ha
    refine wpList_cut 3 (fun a w => Fr 18 a [(10, .bool ((m1 == (0 : Int)) && b0)), (16, .bool ((m1 == (1 : Int)) && (!b0)))] ∧ Hp S w0 w (ow)) ?_ ?_
    · rcases Bool.eq_false_or_eq_true (m1 == (1 : Int)) with hb6 | hb6
      · skip
        refine st_move hf (wantY hf rfl rfl hb6) rfl (by decide) ?_
        clear hf; intro a ha hf; clear ha
        refine st_not hf (by decide) (wantY hf rfl rfl hb6) rfl ?_
        clear hf; intro a ha hf; clear ha
        refine st_pick (v := .bool (!b0)) hf (wantY hf rfl rfl hb4) rfl (fun hb' => ?_) (fun hb' => ?_) (by decide) ?_
        · rfl
        · exact absurd (hb6.symm.trans hb') (by decide)
        clear hf; intro a ha hf; clear ha
        refine st_nil hf (th_n ?_)
        exact ⟨hf.sub ⟨rfl, (by rw [hb6]; rfl), trivial⟩, hp⟩
      refine st_skip hf (wantN hf rfl rfl hb6) rfl (by decide) ?_ rfl
      clear hf; intro a hf
      refine st_skip hf (wantN hf rfl rfl hb6) rfl (by decide) ?_ rfl
      clear hf; intro a hf
      refine st_pick (v := .bool false) hf (wantY hf rfl rfl hb4) rfl (fun hb' => ?_) (fun hb' => ?_) (by decide) ?_
      · exact absurd (hb6.symm.trans hb') (by decide)
      · rfl
      clear hf; intro a ha hf; clear ha
      refine st_nil hf (th_n ?_)
      exact ⟨hf.sub ⟨rfl, (by rw [hb6]; rfl), trivial⟩, hp⟩
    rintro a w ⟨hf, hp⟩
    refine st_pick (v := .bool ((m1 == (1 : Int)) && (!b0))) hf rfl rfl (fun hb' => ?_) (fun hb' => ?_) (by decide) ?_
    · exact absurd (hb4.symm.trans hb') (by decide)
    · rfl
    clear hf; intro a ha hf; clear ha
    refine st_nil hf (th_n ?_)
    exact ⟨hf.sub ⟨(by rw [hb4]; rfl), trivial⟩, hp⟩
  rintro a w ⟨hf, hp⟩
  refine st_nil hf ?_
  refine th_n ?_
  refine wp_if hf rfl (fun hb => ?_) (fun hb => ?_)
  · replace h := ifT h hb
    refine wp_seq ?_
    refine wp_reg ?_
    refine st_assign hf rfl rfl (by decide) ?_
    clear hf; intro a ha hf; clear ha
    refine st_nil hf ?_
    refine th_n ?_
    refine wp_ret ?_
    refine th_r ?_
    obtain rfl := Option.some.inj h
    exact ⟨rfl, ⟨hf.sub ⟨rfl, trivial⟩, hp⟩⟩
  replace h := ifF h hb
  refine wp_skip ?_
  refine th_n ?_
  refine wp_seq ?_
  refine wp_reg ?_
  refine st_assign hf rfl rfl (by decide) ?_
  clear hf; intro a ha hf; clear ha
  refine st_nil hf ?_
  refine th_n ?_
  refine wp_ret ?_
  obtain rfl := Option.some.inj h
  exact ⟨rfl, ⟨hf.sub ⟨rfl, trivial⟩, hp⟩⟩

noncomputable def f_foghornref22_way (c0_Length : Int) (c0_One : Int) (c0_Two : Int) (s1 : Int) (bit2 : Bool) (marks3 : (List Int)) (t4 : Int) (least5 : (List (List Int))) : Option Int := ((f_foghornref22_Step c0_Length c0_One c0_Two s1 bit2).bind fun q3 => (if 0 ≤ (IntKind.i64.wrap ((2 : Int) * t4)) ∧ (IntKind.i64.wrap ((2 : Int) * t4)) < (marks3.length : Int) then ((f_foghornref22_unlike q3.2.1 (gt marks3 (IntKind.i64.wrap ((2 : Int) * t4)))).bind fun q6 => (if 0 ≤ (IntKind.i64.wrap ((IntKind.i64.wrap ((2 : Int) * t4)) + (1 : Int))) ∧ (IntKind.i64.wrap ((IntKind.i64.wrap ((2 : Int) * t4)) + (1 : Int))) < (marks3.length : Int) then ((f_foghornref22_unlike q3.2.2 (gt marks3 (IntKind.i64.wrap ((IntKind.i64.wrap ((2 : Int) * t4)) + (1 : Int))))).bind fun q9 => (if 0 ≤ (IntKind.i64.wrap (t4 + (1 : Int))) ∧ (IntKind.i64.wrap (t4 + (1 : Int))) < (least5.length : Int) then (if 0 ≤ q3.1 ∧ q3.1 < ((gt least5 (IntKind.i64.wrap (t4 + (1 : Int)))).length : Int) then (some (IntKind.i64.wrap ((IntKind.i64.wrap (q6 + q9)) + (gt (gt least5 (IntKind.i64.wrap (t4 + (1 : Int)))) q3.1)))) else none) else none)) else none)) else none))
theorem f_foghornref22_way_c {S : Nat → Prop} {w0 w : World} {ow : List Res} (hp : Hp S w0 w ow) (c0_Length : Int) (c0_One : Int) (c0_Two : Int) (s1 : Int) (bit2 : Bool) (vmarks3 : Value) (marks3 : (List Int)) (hmarks3 : RdS (Ek.int .u8) S w0 vmarks3 marks3) (t4 : Int) (vleast5 : Value) (sleast5 : List Value) (least5 : (List (List Int))) (hleast5 : RdR (RowK.sl (Ek.int .i64) 3) S w0 vleast5 sleast5 (least5.map some)) {r : Int} (h : f_foghornref22_way c0_Length c0_One c0_Two s1 bit2 marks3 t4 least5 = some r) :
    Calls Try.prog 34 #[.agg #[.int .i64 c0_Length, .int .u32 c0_One, .int .u32 c0_Two], .int .u32 s1, .bool bit2, vmarks3, .int .i64 t4, vleast5] w (fun e w' => e = .returned (.int .i64 r) ∧ Hp S w0 w' (ow)) := by
  unfold f_foghornref22_way at h
  refine enter (n := 49) (args := [.agg #[.int .i64 c0_Length, .int .u32 c0_One, .int .u32 c0_Two], .int .u32 s1, .bool bit2, vmarks3, .int .i64 t4, vleast5]) Try.func34 rfl rfl (Nat.le_of_ble_eq_true rfl) fun a hf => ?_
  replace hf : Fr 49 a [(0, .agg #[.int .i64 c0_Length, .int .u32 c0_One, .int .u32 c0_Two]), (1, .int .u32 s1), (2, .bool bit2), (3, vmarks3), (4, .int .i64 t4), (5, vleast5)] := hf
  refine wp_mono (Q := fun e a w => e = .ret ∧ Fr 49 a [(12, .int .i64 r)] ∧ Hp S w0 w (ow)) ?_ ?_
  rotate_left
  · rintro e a w ⟨rfl, hf, hp⟩
    exact ret1 hf rfl rfl ⟨rfl, hp⟩
  refine wp_seq ?_
  refine wp_reg ?_
  refine st_boxO (cs := [.int .i64 c0_Length, .int .u32 c0_One, .int .u32 c0_Two]) hf (by decide) hp rfl rfl rfl ?_
  clear hf; intro a w v1 hf hp0; clear hp; have hp := hp0; clear hp0
  replace hp : Hp _ _ _ (Res.obj 41 v1 [.int .i64 c0_Length, .int .u32 c0_One, .int .u32 c0_Two] :: ow) := hp
  refine st_assign hf rfl rfl (by decide) ?_
  clear hf; intro a ha hf; clear ha
  refine st_nil hf ?_
  refine th_n ?_
  refine wp_seq ?_
  refine wp_reg ?_
  refine st_ldOA (m := 3) (us := [.int .i64 c0_Length, .int .u32 c0_One, .int .u32 c0_Two]) hf (by decide) (by kernel_rfl) rfl rfl (hp.ob (i := 0) rfl) rfl rfl ?_
  clear hf; intro a ha hf; clear ha
  refine st_move hf rfl rfl (by decide) ?_
  clear hf; intro a ha hf; clear ha
  refine st_move hf rfl rfl (by decide) ?_
  clear hf; intro a ha hf; clear ha
  obtain ⟨q3, hcall4, h⟩ := bnd h
  refine st_call hf (by decide) Try.func35 rfl rfl rfl rfl rfl (f_foghornref22_Step_c hp _ _ _ _ _ hcall4) ?_
  rintro _ w ⟨rfl, hp0⟩
  clear hp; have hp := hp0; clear hp0
  replace hp : Hp _ _ _ (Res.obj 41 v1 [.int .i64 c0_Length, .int .u32 c0_One, .int .u32 c0_Two] :: ow) := hp
  refine ⟨_, rfl, ?_⟩
  clear hf; intro a hf
  refine st_move hf rfl rfl (by decide) ?_
  clear hf; intro a ha hf; clear ha
  refine st_extract hf (by decide) rfl rfl rfl ?_
  clear hf; intro a ha hf; clear ha
  refine st_extract hf (by decide) rfl rfl rfl ?_
  clear hf; intro a ha hf; clear ha
  refine st_extract hf (by decide) rfl rfl rfl ?_
  clear hf; intro a ha hf; clear ha
  refine st_assign hf rfl rfl (by decide) ?_
  clear hf; intro a ha hf; clear ha
  refine st_assign hf rfl rfl (by decide) ?_
  clear hf; intro a ha hf; clear ha
  refine st_assign hf rfl rfl (by decide) ?_
  clear hf; intro a ha hf; clear ha
  refine st_nil hf ?_
  refine th_n ?_
  refine wp_seq ?_
  obtain ⟨hc5, h⟩ := chk h
  obtain ⟨q6, hcall7, h⟩ := bnd h
  obtain ⟨hc8, h⟩ := chk h
  obtain ⟨q9, hcall10, h⟩ := bnd h
  obtain ⟨hc11, h⟩ := chk h
  obtain ⟨hc12, h⟩ := chk h
  refine wp_cutN (fun a w => Fr 49 a [(12, .int .i64 (IntKind.i64.wrap ((IntKind.i64.wrap (q6 + q9)) + (gt (gt least5 (IntKind.i64.wrap (t4 + (1 : Int)))) q3.1))))] ∧ Hp S w0 w (Res.obj 41 v1 [.int .i64 c0_Length, .int .u32 c0_One, .int .u32 c0_Two] :: ow)) ?_ ?_
  · have hp := hp.same (Same.drew w)
    refine dr_begin' (fun a w => Fr 49 a [(12, .int .i64 (IntKind.i64.wrap ((IntKind.i64.wrap (q6 + q9)) + (gt (gt least5 (IntKind.i64.wrap (t4 + (1 : Int)))) q3.1))))] ∧ Hp S w0 w (Res.obj 41 v1 [.int .i64 c0_Length, .int .u32 c0_One, .int .u32 c0_Two] :: ow)) (fun w' => ∃ l, Hp S w0 w' l) [] (by kernel_rfl) ?_
    refine dr_take 0 (.bool q3.2.1) rfl (by kernel_rfl) (by kernel_rfl) (by kernel_rfl) (by kernel_rfl) rfl rfl hf (by decide) rfl (fun w hp => ?_) ⟨_, hp⟩ ?_
    · obtain ⟨_, hp⟩ := hp
      refine st_move hf rfl rfl (by decide) ?_
      clear hf; intro a ha hf
      exact st_nil hf (th_n ⟨ha, rfl⟩)
    clear hf; intro a hf
    refine dr_take 1 (vmarks3) rfl (by kernel_rfl) (by kernel_rfl) (by kernel_rfl) (by kernel_rfl) rfl rfl hf (by decide) rfl (fun w hp => ?_) ⟨_, hp⟩ ?_
    · obtain ⟨_, hp⟩ := hp
      refine st_move hf rfl rfl (by decide) ?_
      clear hf; intro a ha hf
      exact st_nil hf (th_n ⟨ha, rfl⟩)
    clear hf; intro a hf
    refine dr_take 2 (.int .i64 t4) rfl (by kernel_rfl) (by kernel_rfl) (by kernel_rfl) (by kernel_rfl) rfl rfl hf (by decide) rfl (fun w hp => ?_) ⟨_, hp⟩ ?_
    · obtain ⟨_, hp⟩ := hp
      refine st_move hf rfl rfl (by decide) ?_
      clear hf; intro a ha hf
      exact st_nil hf (th_n ⟨ha, rfl⟩)
    clear hf; intro a hf
    refine dr_take 3 (.int .i64 (IntKind.i64.wrap ((2 : Int) * t4))) rfl (by kernel_rfl) (by kernel_rfl) (by kernel_rfl) (by kernel_rfl) rfl rfl hf (by decide) rfl (fun w hp => ?_) ⟨_, hp⟩ ?_
    · obtain ⟨_, hp⟩ := hp
      refine st_imul hf (by decide) rfl rfl rfl ?_
      clear hf; intro a ha hf
      exact st_nil hf (th_n ⟨ha, rfl⟩)
    clear hf; intro a hf
    refine dr_take 4 (eptr vmarks3 (IntKind.i64.wrap ((2 : Int) * t4)) 1) rfl (by kernel_rfl) (by kernel_rfl) (by kernel_rfl) (by kernel_rfl) rfl rfl hf (by decide) rfl (fun w hp => ?_) ⟨_, hp⟩ ?_
    · obtain ⟨_, hp⟩ := hp
      refine st_index (E := (Ek.int .u8)) hf (by decide) Try.underlying29 elt5 rfl rfl rfl (hmarks3.sl hp) hc5.1 hc5.2 ?_
      clear hf; intro a ha hf
      exact st_nil hf (th_n ⟨ha, rfl⟩)
    clear hf; intro a hf
    refine dr_take 5 (.int .u8 (gt marks3 (IntKind.i64.wrap ((2 : Int) * t4)))) rfl (by kernel_rfl) (by kernel_rfl) (by kernel_rfl) (by kernel_rfl) rfl rfl hf (by decide) rfl (fun w hp => ?_) ⟨_, hp⟩ ?_
    · obtain ⟨_, hp⟩ := hp
      refine st_ldI hf (by decide) pl5 rfl rfl (hmarks3.sl hp) hc5.1 hc5.2 ?_
      clear hf; intro a ha hf
      exact st_nil hf (th_n ⟨ha, rfl⟩)
    clear hf; intro a hf
    refine dr_take 7 (.bool q3.2.2) rfl (by kernel_rfl) (by kernel_rfl) (by kernel_rfl) (by kernel_rfl) rfl rfl hf (by decide) rfl (fun w hp => ?_) ⟨_, hp⟩ ?_
    · obtain ⟨_, hp⟩ := hp
      refine st_move hf rfl rfl (by decide) ?_
      clear hf; intro a ha hf
      exact st_nil hf (th_n ⟨ha, rfl⟩)
    clear hf; intro a hf
    refine dr_take 8 (vmarks3) rfl (by kernel_rfl) (by kernel_rfl) (by kernel_rfl) (by kernel_rfl) rfl rfl hf (by decide) rfl (fun w hp => ?_) ⟨_, hp⟩ ?_
    · obtain ⟨_, hp⟩ := hp
      refine st_move hf rfl rfl (by decide) ?_
      clear hf; intro a ha hf
      exact st_nil hf (th_n ⟨ha, rfl⟩)
    clear hf; intro a hf
    refine dr_take 9 (.int .i64 t4) rfl (by kernel_rfl) (by kernel_rfl) (by kernel_rfl) (by kernel_rfl) rfl rfl hf (by decide) rfl (fun w hp => ?_) ⟨_, hp⟩ ?_
    · obtain ⟨_, hp⟩ := hp
      refine st_move hf rfl rfl (by decide) ?_
      clear hf; intro a ha hf
      exact st_nil hf (th_n ⟨ha, rfl⟩)
    clear hf; intro a hf
    refine dr_take 10 (.int .i64 (IntKind.i64.wrap ((2 : Int) * t4))) rfl (by kernel_rfl) (by kernel_rfl) (by kernel_rfl) (by kernel_rfl) rfl rfl hf (by decide) rfl (fun w hp => ?_) ⟨_, hp⟩ ?_
    · obtain ⟨_, hp⟩ := hp
      refine st_imul hf (by decide) rfl rfl rfl ?_
      clear hf; intro a ha hf
      exact st_nil hf (th_n ⟨ha, rfl⟩)
    clear hf; intro a hf
    refine dr_take 11 (.int .i64 (IntKind.i64.wrap ((IntKind.i64.wrap ((2 : Int) * t4)) + (1 : Int)))) rfl (by kernel_rfl) (by kernel_rfl) (by kernel_rfl) (by kernel_rfl) rfl rfl hf (by decide) rfl (fun w hp => ?_) ⟨_, hp⟩ ?_
    · obtain ⟨_, hp⟩ := hp
      refine st_iadd hf (by decide) rfl rfl rfl ?_
      clear hf; intro a ha hf
      exact st_nil hf (th_n ⟨ha, rfl⟩)
    clear hf; intro a hf
    refine dr_take 12 (eptr vmarks3 (IntKind.i64.wrap ((IntKind.i64.wrap ((2 : Int) * t4)) + (1 : Int))) 1) rfl (by kernel_rfl) (by kernel_rfl) (by kernel_rfl) (by kernel_rfl) rfl rfl hf (by decide) rfl (fun w hp => ?_) ⟨_, hp⟩ ?_
    · obtain ⟨_, hp⟩ := hp
      refine st_index (E := (Ek.int .u8)) hf (by decide) Try.underlying29 elt5 rfl rfl rfl (hmarks3.sl hp) hc8.1 hc8.2 ?_
      clear hf; intro a ha hf
      exact st_nil hf (th_n ⟨ha, rfl⟩)
    clear hf; intro a hf
    refine dr_take 13 (.int .u8 (gt marks3 (IntKind.i64.wrap ((IntKind.i64.wrap ((2 : Int) * t4)) + (1 : Int))))) rfl (by kernel_rfl) (by kernel_rfl) (by kernel_rfl) (by kernel_rfl) rfl rfl hf (by decide) rfl (fun w hp => ?_) ⟨_, hp⟩ ?_
    · obtain ⟨_, hp⟩ := hp
      refine st_ldI hf (by decide) pl5 rfl rfl (hmarks3.sl hp) hc8.1 hc8.2 ?_
      clear hf; intro a ha hf
      exact st_nil hf (th_n ⟨ha, rfl⟩)
    clear hf; intro a hf
    refine dr_take 16 (vleast5) rfl (by kernel_rfl) (by kernel_rfl) (by kernel_rfl) (by kernel_rfl) rfl rfl hf (by decide) rfl (fun w hp => ?_) ⟨_, hp⟩ ?_
    · obtain ⟨_, hp⟩ := hp
      refine st_move hf rfl rfl (by decide) ?_
      clear hf; intro a ha hf
      exact st_nil hf (th_n ⟨ha, rfl⟩)
    clear hf; intro a hf
    refine dr_take 17 (.int .i64 t4) rfl (by kernel_rfl) (by kernel_rfl) (by kernel_rfl) (by kernel_rfl) rfl rfl hf (by decide) rfl (fun w hp => ?_) ⟨_, hp⟩ ?_
    · obtain ⟨_, hp⟩ := hp
      refine st_move hf rfl rfl (by decide) ?_
      clear hf; intro a ha hf
      exact st_nil hf (th_n ⟨ha, rfl⟩)
    clear hf; intro a hf
    refine dr_take 18 (.int .i64 (IntKind.i64.wrap (t4 + (1 : Int)))) rfl (by kernel_rfl) (by kernel_rfl) (by kernel_rfl) (by kernel_rfl) rfl rfl hf (by decide) rfl (fun w hp => ?_) ⟨_, hp⟩ ?_
    · obtain ⟨_, hp⟩ := hp
      refine st_iadd hf (by decide) rfl rfl rfl ?_
      clear hf; intro a ha hf
      exact st_nil hf (th_n ⟨ha, rfl⟩)
    clear hf; intro a hf
    refine dr_take 19 (eptr vleast5 (IntKind.i64.wrap (t4 + (1 : Int))) 1) rfl (by kernel_rfl) (by kernel_rfl) (by kernel_rfl) (by kernel_rfl) rfl rfl hf (by decide) rfl (fun w hp => ?_) ⟨_, hp⟩ ?_
    · obtain ⟨_, hp⟩ := hp
      refine st_indexV (E := Ek.val) (m := least5.length) hf (by decide) Try.underlying69 eltv70 rfl rfl rfl (hleast5.ob hp).shapeNY hc11.1 hc11.2 ?_
      clear hf; intro a ha hf
      exact st_nil hf (th_n ⟨ha, rfl⟩)
    clear hf; intro a hf
    refine dr_take 20 ((gtv sleast5 (IntKind.i64.wrap (t4 + (1 : Int))))) rfl (by kernel_rfl) (by kernel_rfl) (by kernel_rfl) (by kernel_rfl) rfl rfl hf (by decide) rfl (fun w hp => ?_) ⟨_, hp⟩ ?_
    · obtain ⟨_, hp⟩ := hp
      refine st_ldRY hf (by decide) pl70 rfl rfl (hleast5.ob hp) hc11.1 hc11.2 ?_
      clear hf; intro a ha hf
      exact st_nil hf (th_n ⟨ha, rfl⟩)
    clear hf; intro a hf
    refine dr_take 21 (.int .u32 q3.1) rfl (by kernel_rfl) (by kernel_rfl) (by kernel_rfl) (by kernel_rfl) rfl rfl hf (by decide) rfl (fun w hp => ?_) ⟨_, hp⟩ ?_
    · obtain ⟨_, hp⟩ := hp
      refine st_move hf rfl rfl (by decide) ?_
      clear hf; intro a ha hf
      exact st_nil hf (th_n ⟨ha, rfl⟩)
    clear hf; intro a hf
    refine dr_take 22 (eptr (gtv sleast5 (IntKind.i64.wrap (t4 + (1 : Int)))) q3.1 1) rfl (by kernel_rfl) (by kernel_rfl) (by kernel_rfl) (by kernel_rfl) rfl rfl hf (by decide) rfl (fun w hp => ?_) ⟨_, hp⟩ ?_
    · obtain ⟨_, hp⟩ := hp
      refine st_index (E := (Ek.int .i64)) hf (by decide) Try.underlying70 elt3 rfl rfl rfl ((RdR.rowS hleast5 hc11.1 hc11.2).sl hp) hc12.1 hc12.2 ?_
      clear hf; intro a ha hf
      exact st_nil hf (th_n ⟨ha, rfl⟩)
    clear hf; intro a hf
    refine dr_take 23 (.int .i64 (gt (gt least5 (IntKind.i64.wrap (t4 + (1 : Int)))) q3.1)) rfl (by kernel_rfl) (by kernel_rfl) (by kernel_rfl) (by kernel_rfl) rfl rfl hf (by decide) rfl (fun w hp => ?_) ⟨_, hp⟩ ?_
    · obtain ⟨_, hp⟩ := hp
      refine st_ldI hf (by decide) pl3 rfl rfl ((RdR.rowS hleast5 hc11.1 hc11.2).sl hp) hc12.1 hc12.2 ?_
      clear hf; intro a ha hf
      exact st_nil hf (th_n ⟨ha, rfl⟩)
    clear hf; intro a hf
    refine dr_one 6 rfl (by kernel_rfl) ?_
    refine st_call hf (by decide) Try.func37 rfl rfl rfl rfl rfl (f_foghornref22_unlike_c hp _ _ hcall7) ?_
    rintro _ w ⟨rfl, hp0⟩
    clear hp; have hp := hp0; clear hp0
    replace hp : Hp _ _ _ (Res.obj 41 v1 [.int .i64 c0_Length, .int .u32 c0_One, .int .u32 c0_Two] :: ow) := hp
    refine ⟨_, rfl, ?_⟩
    clear hf; intro a hf
    refine st_nil hf (th_n ⟨fun _ _ => ⟨_, hp⟩, ?_⟩)
    refine dr_one 14 rfl (by kernel_rfl) ?_
    refine st_call hf (by decide) Try.func37 rfl rfl rfl rfl rfl (f_foghornref22_unlike_c hp _ _ hcall10) ?_
    rintro _ w ⟨rfl, hp0⟩
    clear hp; have hp := hp0; clear hp0
    replace hp : Hp _ _ _ (Res.obj 41 v1 [.int .i64 c0_Length, .int .u32 c0_One, .int .u32 c0_Two] :: ow) := hp
    refine ⟨_, rfl, ?_⟩
    clear hf; intro a hf
    refine st_nil hf (th_n ⟨fun _ _ => ⟨_, hp⟩, ?_⟩)
    refine dr_take 15 (.int .i64 (IntKind.i64.wrap (q6 + q9))) rfl (by kernel_rfl) (by kernel_rfl) (by kernel_rfl) (by kernel_rfl) rfl rfl hf (by decide) rfl (fun w hp => ?_) ⟨_, hp⟩ ?_
    · obtain ⟨_, hp⟩ := hp
      refine st_iadd hf (by decide) rfl rfl rfl ?_
      clear hf; intro a ha hf
      exact st_nil hf (th_n ⟨ha, rfl⟩)
    clear hf; intro a hf
    refine dr_take 24 (.int .i64 (IntKind.i64.wrap ((IntKind.i64.wrap (q6 + q9)) + (gt (gt least5 (IntKind.i64.wrap (t4 + (1 : Int)))) q3.1)))) rfl (by kernel_rfl) (by kernel_rfl) (by kernel_rfl) (by kernel_rfl) rfl rfl hf (by decide) rfl (fun w hp => ?_) ⟨_, hp⟩ ?_
    · obtain ⟨_, hp⟩ := hp
      refine st_iadd hf (by decide) rfl rfl rfl ?_
      clear hf; intro a ha hf
      exact st_nil hf (th_n ⟨ha, rfl⟩)
    clear hf; intro a hf
    refine dr_take 25 (.int .i64 (IntKind.i64.wrap ((IntKind.i64.wrap (q6 + q9)) + (gt (gt least5 (IntKind.i64.wrap (t4 + (1 : Int)))) q3.1)))) rfl (by kernel_rfl) (by kernel_rfl) (by kernel_rfl) (by kernel_rfl) rfl rfl hf (by decide) rfl (fun w hp => ?_) ⟨_, hp⟩ ?_
    · obtain ⟨_, hp⟩ := hp
      refine st_assign hf rfl rfl (by decide) ?_
      clear hf; intro a ha hf
      exact st_nil hf (th_n ⟨ha, rfl⟩)
    clear hf; intro a hf
    refine dr_end (by kernel_rfl) ?_ _
    exact ⟨hf.sub ⟨rfl, trivial⟩, hp⟩
  rintro a w ⟨hf, hp⟩
  refine th_n ?_
  refine wp_ret ?_
  obtain rfl := Option.some.inj h
  have hp : Hp _ _ _ (ow) := Hp.sel (pre := [Res.obj 41 v1 [.int .i64 c0_Length, .int .u32 c0_One, .int .u32 c0_Two]]) (tail := ow) (rs' := []) hp [] (by decide) (by simp) rfl
  exact ⟨rfl, ⟨hf.sub ⟨rfl, trivial⟩, hp⟩⟩

end Go.Proofs.Ythajdlihjobcoaa
