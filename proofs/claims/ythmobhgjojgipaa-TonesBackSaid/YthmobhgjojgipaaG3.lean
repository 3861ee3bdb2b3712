/- The functions foghorn foghornlaw09.TonesBack: what each answers, as a plain function, and that its call answers it; printed by gen.py. -/
import Derived.Test.YthmobhgjojgipaaProg
import Derived.Test.YthmobhgjojgipaaGlU
import Derived.KernelRfl
import Derived.Test.YthmobhgjojgipaaG3p1
set_option linter.unusedVariables false
set_option linter.unusedSimpArgs false
set_option maxRecDepth 100000
set_option maxHeartbeats 4000000
namespace Go.Proofs.Ythmobhgjojgipaa
open GL
noncomputable def f_foghornlaw09_TonesBack.s1c (q5 : (List (Fl × Fl))) (bx6 : (List (Fl × Fl))) : Option ((List (Fl × Fl)) ⊕ (List (Fl × Fl))) := (if (decide ((bx6.length : Int) < (q5.length : Int))) = true then (if (bx6.length + ([(Fl.bits 0, Fl.bits 0)]).length) * 16 ≤ 140737488355328 then (some (Sum.inl (bx6 ++ [(Fl.bits 0, Fl.bits 0)]))) else none) else (some (Sum.inr bx6)))
noncomputable def f_foghornlaw09_TonesBack.s1 (q5 : (List (Fl × Fl))) (s : (List (Fl × Fl))) : Option ((List (Fl × Fl)) ⊕ (List (Fl × Fl))) := f_foghornlaw09_TonesBack.s1c q5 s
noncomputable def f_foghornlaw09_TonesBack.s2c (wx0_N : Int) (q5 : (List (Fl × Fl))) (q21 : (List (Fl × Fl))) (both7 : (List (Fl × Fl))) (turned8 : (List (Fl × Fl))) (i9 : Int) : Option (((List (Fl × Fl)) × (List (Fl × Fl)) × Int) ⊕ ((List (Fl × Fl)) × (List (Fl × Fl)))) := (if (decide (i9 < (q5.length : Int))) = true then (if 0 ≤ i9 ∧ i9 < (q5.length : Int) then (if 0 ≤ i9 ∧ i9 < (((q21 ++ ([] : List (Fl × Fl))).take (((q5.length : Int)).toNat)).length : Int) then (if (both7.length + ([(cadd (gt q5 i9) (gt ((q21 ++ ([] : List (Fl × Fl))).take (((q5.length : Int)).toNat)) i9))]).length) * 16 ≤ 140737488355328 then (if 0 ≤ i9 ∧ i9 < (q5.length : Int) then ((f_plane_Turn (gt q5 i9) wx0_N).bind fun q70 => (if (turned8.length + ([q70]).length) * 16 ≤ 140737488355328 then (some (Sum.inl ((both7 ++ [(cadd (gt q5 i9) (gt ((q21 ++ ([] : List (Fl × Fl))).take (((q5.length : Int)).toNat)) i9))]), (turned8 ++ [q70]), (IntKind.i64.wrap (i9 + (1 : Int)))))) else none)) else none) else none) else none) else none) else (some (Sum.inr (both7, turned8))))
noncomputable def f_foghornlaw09_TonesBack.s2 (wx0_N : Int) (q5 : (List (Fl × Fl))) (q21 : (List (Fl × Fl))) (s : ((List (Fl × Fl)) × (List (Fl × Fl)) × Int)) : Option (((List (Fl × Fl)) × (List (Fl × Fl)) × Int) ⊕ ((List (Fl × Fl)) × (List (Fl × Fl)))) := f_foghornlaw09_TonesBack.s2c wx0_N q5 q21 s.1 s.2.1 s.2.2
noncomputable def f_foghornlaw09_TonesBack.s3c (wx0_N : Int) (q5 : (List (Fl × Fl))) (q83 : ((List (Fl × Fl)) × Int)) (q92 : ((List (Fl × Fl)) × Int)) (q101 : ((List (Fl × Fl)) × Int)) (q110 : ((List (Fl × Fl)) × Int)) (qx24 : Int) : Option (Int ⊕ (Unit ⊕ Bool)) := (if (decide (qx24 < (q5.length : Int))) = true then (if 0 ≤ qx24 ∧ qx24 < (q101.1.length : Int) then (if 0 ≤ qx24 ∧ qx24 < (q83.1.length : Int) then (if 0 ≤ qx24 ∧ qx24 < (q92.1.length : Int) then ((if (!ceq (gt q101.1 qx24) (cadd (gt q83.1 qx24) (gt q92.1 qx24))) = true then (some true) else (if 0 ≤ qx24 ∧ qx24 < (q110.1.length : Int) then (if 0 ≤ qx24 ∧ qx24 < (q83.1.length : Int) then ((f_plane_Turn (gt q83.1 qx24) wx0_N).bind fun q256 => (some (!ceq (gt q110.1 qx24) q256))) else none) else none)).bind fun z262 => (if z262 = true then (some (Sum.inr (Sum.inr false))) else (some (Sum.inl (IntKind.i64.wrap (qx24 + (1 : Int))))))) else none) else none) else none) else (some (Sum.inr (Sum.inl ()))))
noncomputable def f_foghornlaw09_TonesBack.s3 (wx0_N : Int) (q5 : (List (Fl × Fl))) (q83 : ((List (Fl × Fl)) × Int)) (q92 : ((List (Fl × Fl)) × Int)) (q101 : ((List (Fl × Fl)) × Int)) (q110 : ((List (Fl × Fl)) × Int)) (s : Int) : Option (Int ⊕ (Unit ⊕ Bool)) := f_foghornlaw09_TonesBack.s3c wx0_N q5 q83 q92 q101 q110 s
noncomputable def f_foghornlaw09_TonesBack.s4c (q3 : Int) (q5 : (List (Fl × Fl))) (q83 : ((List (Fl × Fl)) × Int)) (qx26 : Int) : Option (Int ⊕ (Unit ⊕ Bool)) := (if (decide (qx26 < (q5.length : Int))) = true then (if 0 ≤ qx26 ∧ qx26 ≤ (IntKind.i64.wrap (qx26 + (ishl .i64 (1 : Int) (IntKind.i64.wrap ((2 : Int) * q3))))) ∧ (IntKind.i64.wrap (qx26 + (ishl .i64 (1 : Int) (IntKind.i64.wrap ((2 : Int) * q3))))) ≤ (q5.length : Int) then ((f_tones_Energy ((q5.drop ((qx26).toNat)).take (((IntKind.i64.wrap (qx26 + (ishl .i64 (1 : Int) (IntKind.i64.wrap ((2 : Int) * q3)))))).toNat - (qx26).toNat))).bind fun q270 => (if 0 ≤ qx26 ∧ qx26 ≤ (IntKind.i64.wrap (qx26 + (ishl .i64 (1 : Int) (IntKind.i64.wrap ((2 : Int) * q3))))) ∧ (IntKind.i64.wrap (qx26 + (ishl .i64 (1 : Int) (IntKind.i64.wrap ((2 : Int) * q3))))) ≤ (q83.1.length : Int) then ((f_tones_Energy ((q83.1.drop ((qx26).toNat)).take (((IntKind.i64.wrap (qx26 + (ishl .i64 (1 : Int) (IntKind.i64.wrap ((2 : Int) * q3)))))).toNat - (qx26).toNat))).bind fun q282 => (if (((q270.2 != (0 : Int)) || (q282.2 != (0 : Int))) || (fne q270.1 q282.1)) = true then (some (Sum.inr (Sum.inr false))) else (some (Sum.inl (IntKind.i64.wrap (qx26 + (ishl .i64 (1 : Int) (IntKind.i64.wrap ((2 : Int) * q3))))))))) else none)) else none) else (some (Sum.inr (Sum.inl ()))))
noncomputable def f_foghornlaw09_TonesBack.s4 (q3 : Int) (q5 : (List (Fl × Fl))) (q83 : ((List (Fl × Fl)) × Int)) (s : Int) : Option (Int ⊕ (Unit ⊕ Bool)) := f_foghornlaw09_TonesBack.s4c q3 q5 q83 s
noncomputable def f_foghornlaw09_TonesBack (wx0_Power : Int) (wx0_One : (List (Int × Int))) (wx0_Other : (List (Int × Int))) (wx0_N : Int) : Option Bool := ((f_foghornlaw09_power wx0_Power).bind fun q3 => ((f_foghornlaw09_list wx0_One q3).bind fun q5 => ((f_foghornlaw09_list wx0_Other q3).bind fun q9 => ((loop (f_foghornlaw09_TonesBack.s1 q5) q9).bind (fun q21 => (if 0 ≤ (q5.length : Int) ∧ (q5.length : Int) ≤ ((q21 ++ ([] : List (Fl × Fl))).length : Int) then ((loop (f_foghornlaw09_TonesBack.s2 wx0_N q5 q21) ([], [], (0 : Int))).bind (fun q80 => ((f_tones_Send q3 q5).bind fun q83 => ((f_tones_Send q3 ((q21 ++ ([] : List (Fl × Fl))).take (((q5.length : Int)).toNat))).bind fun q92 => ((f_tones_Send q3 q80.1).bind fun q101 => ((f_tones_Send q3 q80.2).bind fun q110 => ((f_tones_Back q3 q83.1).bind fun q119 => ((f_tones_Back q3 q5).bind fun q128 => ((f_tones_Send q3 q128.1).bind fun q137 => ((if (((((((((((q83.2 != (0 : Int)) || (q92.2 != (0 : Int))) || (q101.2 != (0 : Int))) || (q110.2 != (0 : Int))) || (q119.2 != (0 : Int))) || (q128.2 != (0 : Int))) || (q137.2 != (0 : Int))) || ((q83.1.length : Int) != (q5.length : Int))) || ((q92.1.length : Int) != (q5.length : Int))) || ((q101.1.length : Int) != (q5.length : Int))) || ((q110.1.length : Int) != (q5.length : Int))) = true then (some true) else ((f_foghornlaw09_same q119.1 q5).bind fun q169 => (some (!q169)))).bind fun z168 => ((if z168 = true then (some true) else ((f_foghornlaw09_same q137.1 q5).bind fun q184 => (some (!q184)))).bind fun z183 => (if z183 = true then (some false) else ((loop (f_foghornlaw09_TonesBack.s3 wx0_N q5 q83 q92 q101 q110) (0 : Int)).bind (fun q263 => sm q263 (fun q264 => (if 0 ≤ (IntKind.i64.wrap ((2 : Int) * q3)) then ((loop (f_foghornlaw09_TonesBack.s4 q3 q5 q83) (0 : Int)).bind (fun q295 => sm q295 (fun q296 => ((f_foghornlaw09_awake).bind fun q298 => (some q298))) (fun q297 => (some q297)))) else none)) (fun q265 => (some q265)))))))))))))))) else none))))))
theorem f_foghornlaw09_TonesBack_c {S : Nat → Prop} {w0 w : World} {ow : List Res} (hp : Hp S w0 w ow) (wx0_Power : Int) (vwx0_One : Value) (wx0_One : (List (Int × Int))) (hwx0_One : RdS (Ek.pair (Ek.int .i16) (Ek.int .i16)) S w0 vwx0_One wx0_One) (vwx0_Other : Value) (wx0_Other : (List (Int × Int))) (hwx0_Other : RdS (Ek.pair (Ek.int .i16) (Ek.int .i16)) S w0 vwx0_Other wx0_Other) (wx0_N : Int) {r : Bool} (h : f_foghornlaw09_TonesBack wx0_Power wx0_One wx0_Other wx0_N = some r) :
    Calls Try.prog 3 #[.agg #[.int .i64 wx0_Power, vwx0_One, vwx0_Other, .int .i64 wx0_N]] w (fun e w' => e = .returned (.bool r) ∧ Hp S w0 w' (ow)) := by
  unfold f_foghornlaw09_TonesBack at h
  refine enter (n := 266) (args := [.agg #[.int .i64 wx0_Power, vwx0_One, vwx0_Other, .int .i64 wx0_N]]) Try.func3 rfl rfl (Nat.le_of_ble_eq_true rfl) fun a hf => ?_
  replace hf : Fr 266 a [(0, .agg #[.int .i64 wx0_Power, vwx0_One, vwx0_Other, .int .i64 wx0_N])] := hf
  refine wp_mono (Q := fun e a w => e = .ret ∧ Fr 266 a [(2, .bool r)] ∧ Hp S w0 w (ow)) ?_ ?_
  rotate_left
  · rintro e a w ⟨rfl, hf, hp⟩
    exact ret1 hf rfl rfl ⟨rfl, hp⟩
  refine wp_seq ?_
  refine wp_reg ?_
  refine st_boxO (cs := [.int .i64 wx0_Power, vwx0_One, vwx0_Other, .int .i64 wx0_N]) hf (by decide) hp rfl rfl rfl ?_
  clear hf; intro a w v1 hf hp0; clear hp; have hp := hp0; clear hp0
  replace hp : Hp _ _ _ (Res.obj 24 v1 [.int .i64 wx0_Power, vwx0_One, vwx0_Other, .int .i64 wx0_N] :: ow) := hp
  refine st_assign hf rfl rfl (by decide) ?_
  clear hf; intro a ha hf; clear ha
  refine st_nil hf ?_
  refine th_n ?_
  refine wp_seq ?_
  refine wp_reg ?_
  refine st_fa (o' := 3) hf (by decide) (off := 3) (sz := 1) (by kernel_rfl) (by decide) rfl rfl (hp.ob (i := 0) rfl) rfl ?_
  clear hf; intro a ha hf; clear ha
  refine st_ldO (u := .int .i64 wx0_N) hf (by decide) pl3 rfl rfl (hp.ob (i := 0) rfl) rfl ?_
  clear hf; intro a ha hf; clear ha
  refine st_assign hf rfl rfl (by decide) ?_
  clear hf; intro a ha hf; clear ha
  refine st_nil hf ?_
  refine th_n ?_
  refine wp_seq ?_
  refine wp_reg ?_
  refine st_fa (o' := 0) hf (by decide) (off := 0) (sz := 1) (by kernel_rfl) (by decide) rfl rfl (hp.ob (i := 0) rfl) rfl ?_
  clear hf; intro a ha hf; clear ha
  refine st_ldO (u := .int .i64 wx0_Power) hf (by decide) pl3 rfl rfl (hp.ob (i := 0) rfl) rfl ?_
  clear hf; intro a ha hf; clear ha
  obtain ⟨q3, hcall4, h⟩ := bnd h
  refine st_call hf (by decide) Try.func6 rfl rfl rfl rfl rfl (f_foghornlaw09_power_c hp _ hcall4) ?_
  rintro _ w ⟨rfl, hp0⟩
  clear hp; have hp := hp0; clear hp0
  replace hp : Hp _ _ _ (Res.obj 24 v1 [.int .i64 wx0_Power, vwx0_One, vwx0_Other, .int .i64 wx0_N] :: ow) := hp
  refine ⟨_, rfl, ?_⟩
  clear hf; intro a hf
  refine st_assign hf rfl rfl (by decide) ?_
  clear hf; intro a ha hf; clear ha
  refine st_nil hf ?_
  refine th_n ?_
  refine wp_seq ?_
  refine wp_reg ?_
  refine st_fa (o' := 1) hf (by decide) (off := 1) (sz := 1) (by kernel_rfl) (by decide) rfl rfl (hp.ob (i := 0) rfl) rfl ?_
  clear hf; intro a ha hf; clear ha
  refine st_ldO (u := vwx0_One) hf (by decide) pl22 rfl rfl (hp.ob (i := 0) rfl) rfl ?_
  clear hf; intro a ha hf; clear ha
  refine st_move hf rfl rfl (by decide) ?_
  clear hf; intro a ha hf; clear ha
  obtain ⟨q5, hcall6, h⟩ := bnd h
  refine st_call hf (by decide) Try.func7 rfl rfl rfl rfl rfl (f_foghornlaw09_list_c hp _ _ hwx0_One _ hcall6) ?_
  rintro _ w ⟨v7, rfl, hp0⟩
  clear hp; have hp := hp0; clear hp0
  replace hp : Hp _ _ _ (Res.sl Ek.c128 28 v7 q5 :: Res.obj 24 v1 [.int .i64 wx0_Power, vwx0_One, vwx0_Other, .int .i64 wx0_N] :: ow) := hp
  refine ⟨_, rfl, ?_⟩
  clear hf; intro a hf
  refine st_assign hf rfl rfl (by decide) ?_
  clear hf; intro a ha hf; clear ha
  refine st_nil hf ?_
  refine th_n ?_
  refine wp_seq ?_
  refine wp_reg ?_
  refine st_fa (o' := 2) hf (by decide) (off := 2) (sz := 1) (by kernel_rfl) (by decide) rfl rfl (hp.ob (i := 1) rfl) rfl ?_
  clear hf; intro a ha hf; clear ha
  refine st_ldO (u := vwx0_Other) hf (by decide) pl22 rfl rfl (hp.ob (i := 1) rfl) rfl ?_
  clear hf; intro a ha hf; clear ha
  refine st_move hf rfl rfl (by decide) ?_
  clear hf; intro a ha hf; clear ha
  obtain ⟨q9, hcall10, h⟩ := bnd h
  refine st_call hf (by decide) Try.func7 rfl rfl rfl rfl rfl (f_foghornlaw09_list_c hp _ _ hwx0_Other _ hcall10) ?_
  rintro _ w ⟨v11, rfl, hp0⟩
  clear hp; have hp := hp0; clear hp0
  replace hp : Hp _ _ _ (Res.sl Ek.c128 28 v11 q9 :: Res.sl Ek.c128 28 v7 q5 :: Res.obj 24 v1 [.int .i64 wx0_Power, vwx0_One, vwx0_Other, .int .i64 wx0_N] :: ow) := hp
  refine ⟨_, rfl, ?_⟩
  clear hf; intro a hf
  refine st_assign hf rfl rfl (by decide) ?_
  clear hf; intro a ha hf; clear ha
  refine st_nil hf ?_
  refine th_n ?_
  refine wp_seq ?_
  refine wp_block ?_
  obtain ⟨q21, hl, h⟩ := bnd h
  have hp : Hp _ _ _ (Res.sl Ek.c128 28 v11 q9 :: Res.sl Ek.c128 28 v7 q5 :: ow) := Hp.sel (pre := [Res.sl Ek.c128 28 v11 q9, Res.sl Ek.c128 28 v7 q5, Res.obj 24 v1 [.int .i64 wx0_Power, vwx0_One, vwx0_Other, .int .i64 wx0_N]]) (tail := ow) (rs' := [Res.sl Ek.c128 28 v11 q9, Res.sl Ek.c128 28 v7 q5]) hp [0, 1] (by decide) (by simp) rfl
  refine wp_loop_pure (f := (f_foghornlaw09_TonesBack.s1 q5)) (s := q9) (fun s a w => ∃ (v13 : Value), Fr 266 a [(3, .int .i64 wx0_N), (4, .int .i64 q3), (5, v7), (6, v13)] ∧ Hp S w0 w (Res.sl Ek.c128 28 v13 s :: Res.sl Ek.c128 28 v7 q5 :: ow)) (fun q e a w => e = .exit 0 ∧ ∃ (v15 : Value), Fr 266 a [(3, .int .i64 wx0_N), (4, .int .i64 q3), (5, v7), (6, v15)] ∧ Hp S w0 w (Res.sl Ek.c128 28 v15 q :: Res.sl Ek.c128 28 v7 q5 :: ow)) ?_ hl ⟨_, hf.sub ⟨rfl, rfl, rfl, rfl, trivial⟩, hp⟩ ?_
  · clear hl hf hp
    intro s x a w h hI
    obtain ⟨bx6, hs⟩ : ∃ z, z = s := ⟨s, rfl⟩; subst hs
    obtain ⟨v13, hf, hp⟩ : ∃ (v13 : Value), Fr 266 a [(3, .int .i64 wx0_N), (4, .int .i64 q3), (5, v7), (6, v13)] ∧ Hp S w0 w (Res.sl Ek.c128 28 v13 bx6 :: Res.sl Ek.c128 28 v7 q5 :: ow) := hI
    replace h : f_foghornlaw09_TonesBack.s1c q5 bx6 = some x := h
    unfold f_foghornlaw09_TonesBack.s1c at h
    refine wp_seq ?_
    refine wp_seq ?_
    refine wp_reg ?_
    refine st_move hf rfl rfl (by decide) ?_
    clear hf; intro a ha hf; clear ha
    refine st_len (E := Ek.c128) hf (by decide) Try.underlying26 rfl rfl (hp.sl (i := 0) rfl) ?_
    clear hf; intro a ha hf; clear ha
    refine st_move hf rfl rfl (by decide) ?_
    clear hf; intro a ha hf; clear ha
    refine st_len (E := Ek.c128) hf (by decide) Try.underlying26 rfl rfl (hp.sl (i := 1) rfl) ?_
    clear hf; intro a ha hf; clear ha
    refine st_ilss hf (by decide) rfl rfl rfl ?_
    clear hf; intro a ha hf; clear ha
    refine st_nil hf ?_
    refine th_n ?_
    refine wp_if hf rfl (fun hb => ?_) (fun hb => ?_)
    · replace h := ifT h hb
      refine wp_skip ?_
      refine th_n ?_
      refine wp_block ?_
      refine wp_reg ?_
      refine st_move hf rfl rfl (by decide) ?_
      clear hf; intro a ha hf; clear ha
      refine st_build (E := Ek.c128) (xs := [(Fl.bits 0, Fl.bits 0)]) hf (by decide) elt28 Try.underlying26 hp (vals := #[(0, .complex .f64 0 0)]) (cells := #[.complex .f64 0 0]) rfl (by simp [hf.ev (x := (Operand.const (.complex .f64 0 0))) rfl]) (by decide) (by decide) (z := .complex .f64 0 0) (by kernel_rfl) (by kernel_rfl) rfl (reps_cons (cs := [.complex .f64 0 0]) (show Ek.c128.rep [.complex .f64 0 0] (Fl.bits 0, Fl.bits 0) from ⟨_, _, rfl, rfl, rfl⟩) (reps_nil _)) ?_
      clear hf; intro a w v17 hf hp0; clear hp; have hp := hp0; clear hp0
      replace hp : Hp _ _ _ (Res.sl Ek.c128 28 v17 ([(Fl.bits 0, Fl.bits 0)]) :: Res.sl Ek.c128 28 v13 bx6 :: Res.sl Ek.c128 28 v7 q5 :: ow) := hp
      obtain ⟨hc19, h⟩ := chk h
      refine st_append (E := Ek.c128) hf (by decide) elt28 Try.underlying26 (by decide) hp (i := 1) rfl rfl rfl rfl (hp.sl (i := 0) rfl) hc19 ?_
      clear hf; intro a w v20 hf hp0; clear hp; have hp := hp0; clear hp0
      replace hp : Hp _ _ _ (Res.sl Ek.c128 28 v17 ([(Fl.bits 0, Fl.bits 0)]) :: Res.sl Ek.c128 28 v20 (bx6 ++ [(Fl.bits 0, Fl.bits 0)]) :: Res.sl Ek.c128 28 v7 q5 :: ow) := hp
      refine st_assign hf rfl rfl (by decide) ?_
      clear hf; intro a ha hf; clear ha
      refine st_nil hf ?_
      refine ib_n ?_
      obtain rfl := Option.some.inj h
      have hp : Hp _ _ _ (Res.sl Ek.c128 28 v20 (bx6 ++ [(Fl.bits 0, Fl.bits 0)]) :: Res.sl Ek.c128 28 v7 q5 :: ow) := Hp.sel (pre := [Res.sl Ek.c128 28 v17 ([(Fl.bits 0, Fl.bits 0)]), Res.sl Ek.c128 28 v20 (bx6 ++ [(Fl.bits 0, Fl.bits 0)]), Res.sl Ek.c128 28 v7 q5]) (tail := ow) (rs' := [Res.sl Ek.c128 28 v20 (bx6 ++ [(Fl.bits 0, Fl.bits 0)]), Res.sl Ek.c128 28 v7 q5]) hp [1, 2] (by decide) (by simp) rfl
      exact rnd_l ⟨_, hf.sub ⟨rfl, rfl, rfl, rfl, trivial⟩, hp⟩
    replace h := ifF h hb
    refine wp_exit ?_
    refine th_e ?_
    obtain rfl := Option.some.inj h
    exact rnd_r (by simp) ⟨rfl, _, hf.sub ⟨rfl, rfl, rfl, rfl, trivial⟩, hp⟩
  clear hl hf hp
  intro e a w hne hO
  obtain ⟨rfl, v15, hf, hp⟩ := hO
  refine ib_same ?_
  refine th_n ?_
  refine wp_seq ?_
  refine wp_reg ?_
  refine st_move hf rfl rfl (by decide) ?_
  clear hf; intro a ha hf; clear ha
  refine st_move hf rfl rfl (by decide) ?_
  clear hf; intro a ha hf; clear ha
  refine st_len (E := Ek.c128) hf (by decide) Try.underlying26 rfl rfl (hp.sl (i := 1) rfl) ?_
  clear hf; intro a ha hf; clear ha
  obtain ⟨hc22, h⟩ := chk h
  have hc23 : 0 ≤ ((q5.length : Int)).toNat := by omega
  have hc24 : ((q5.length : Int)).toNat ≤ (q21 ++ ([] : List (Fl × Fl))).length := by omega
  refine st_cutX (E := Ek.c128) hf (by decide) Try.underlying26 elt28 hp (i := 0) rfl rfl rfl (.inl ⟨rfl, rfl⟩) (.inr ⟨_, _, rfl, evI rfl (by omega)⟩) hc23 hc24 ?_
  clear hf; intro a ha hf; clear ha
  replace hp : Hp _ _ _ (Res.slx Ek.c128 28 (GL.cut v15 0 (((q5.length : Int)).toNat) 1) ((q21 ++ ([] : List (Fl × Fl))).take (((q5.length : Int)).toNat)) ((q21 ++ ([] : List (Fl × Fl))).drop (((q5.length : Int)).toNat)) :: Res.sl Ek.c128 28 v7 q5 :: ow) := hp.cutOwn (i := 0) rfl hc24
  refine st_assign hf rfl rfl (by decide) ?_
  clear hf; intro a ha hf; clear ha
  refine st_nil hf ?_
  refine th_n ?_
  refine wp_seq ?_
  refine wp_reg ?_
  refine st_assign hf rfl rfl (by decide) ?_
  clear hf; intro a ha hf; clear ha
  refine st_assign hf rfl rfl (by decide) ?_
  clear hf; intro a ha hf; clear ha
  refine st_nil hf ?_
  refine th_n ?_
  refine wp_seq ?_
  refine wp_seq ?_
  refine wp_reg ?_
  refine st_assign hf rfl rfl (by decide) ?_
  clear hf; intro a ha hf; clear ha
  refine st_nil hf ?_
  refine th_n ?_
  refine wp_block ?_
  obtain ⟨q80, hl, h⟩ := bnd h
  have hp := hp.nil Ek.c128 28
  have hp := hp.nil Ek.c128 28
  have hp : Hp _ _ _ (Res.sl Ek.c128 28 (.slice none 0 0) ([]) :: Res.sl Ek.c128 28 (.slice none 0 0) ([]) :: Res.sl Ek.c128 28 v7 q5 :: Res.slx Ek.c128 28 (GL.cut v15 0 (((q5.length : Int)).toNat) 1) ((q21 ++ ([] : List (Fl × Fl))).take (((q5.length : Int)).toNat)) ((q21 ++ ([] : List (Fl × Fl))).drop (((q5.length : Int)).toNat)) :: ow) := Hp.sel (pre := [Res.sl Ek.c128 28 (.slice none 0 0) ([]), Res.sl Ek.c128 28 (.slice none 0 0) ([]), Res.slx Ek.c128 28 (GL.cut v15 0 (((q5.length : Int)).toNat) 1) ((q21 ++ ([] : List (Fl × Fl))).take (((q5.length : Int)).toNat)) ((q21 ++ ([] : List (Fl × Fl))).drop (((q5.length : Int)).toNat)), Res.sl Ek.c128 28 v7 q5]) (tail := ow) (rs' := [Res.sl Ek.c128 28 (.slice none 0 0) ([]), Res.sl Ek.c128 28 (.slice none 0 0) ([]), Res.sl Ek.c128 28 v7 q5, Res.slx Ek.c128 28 (GL.cut v15 0 (((q5.length : Int)).toNat) 1) ((q21 ++ ([] : List (Fl × Fl))).take (((q5.length : Int)).toNat)) ((q21 ++ ([] : List (Fl × Fl))).drop (((q5.length : Int)).toNat))]) hp [1, 0, 3, 2] (by decide) (by simp) rfl
  refine wp_loop_pure (f := (f_foghornlaw09_TonesBack.s2 wx0_N q5 q21)) (s := ([], [], (0 : Int))) (fun s a w => ∃ (v25 : Value) (v27 : Value), Fr 266 a [(3, .int .i64 wx0_N), (4, .int .i64 q3), (5, v7), (6, (GL.cut v15 0 (((q5.length : Int)).toNat) 1)), (7, v25), (8, v27), (9, .int .i64 s.2.2)] ∧ Hp S w0 w (Res.sl Ek.c128 28 v25 s.1 :: Res.sl Ek.c128 28 v27 s.2.1 :: Res.sl Ek.c128 28 v7 q5 :: Res.slx Ek.c128 28 (GL.cut v15 0 (((q5.length : Int)).toNat) 1) ((q21 ++ ([] : List (Fl × Fl))).take (((q5.length : Int)).toNat)) ((q21 ++ ([] : List (Fl × Fl))).drop (((q5.length : Int)).toNat)) :: ow)) (fun q e a w => e = .exit 2 ∧ ∃ (v29 : Value) (v31 : Value), Fr 266 a [(3, .int .i64 wx0_N), (4, .int .i64 q3), (5, v7), (6, (GL.cut v15 0 (((q5.length : Int)).toNat) 1)), (7, v29), (8, v31)] ∧ Hp S w0 w (Res.sl Ek.c128 28 v29 q.1 :: Res.sl Ek.c128 28 v31 q.2 :: Res.sl Ek.c128 28 v7 q5 :: Res.slx Ek.c128 28 (GL.cut v15 0 (((q5.length : Int)).toNat) 1) ((q21 ++ ([] : List (Fl × Fl))).take (((q5.length : Int)).toNat)) ((q21 ++ ([] : List (Fl × Fl))).drop (((q5.length : Int)).toNat)) :: ow)) ?_ hl ⟨_, _, hf.sub ⟨rfl, rfl, rfl, rfl, rfl, rfl, rfl, trivial⟩, hp⟩ ?_
  · clear hl hf hp
    intro s x a w h hI
    obtain ⟨both7, turned8, i9⟩ := s
    obtain ⟨v25, v27, hf, hp⟩ : ∃ (v25 : Value) (v27 : Value), Fr 266 a [(3, .int .i64 wx0_N), (4, .int .i64 q3), (5, v7), (6, (GL.cut v15 0 (((q5.length : Int)).toNat) 1)), (7, v25), (8, v27), (9, .int .i64 i9)] ∧ Hp S w0 w (Res.sl Ek.c128 28 v25 both7 :: Res.sl Ek.c128 28 v27 turned8 :: Res.sl Ek.c128 28 v7 q5 :: Res.slx Ek.c128 28 (GL.cut v15 0 (((q5.length : Int)).toNat) 1) ((q21 ++ ([] : List (Fl × Fl))).take (((q5.length : Int)).toNat)) ((q21 ++ ([] : List (Fl × Fl))).drop (((q5.length : Int)).toNat)) :: ow) := hI
    replace h : f_foghornlaw09_TonesBack.s2c wx0_N q5 q21 both7 turned8 i9 = some x := h
    unfold f_foghornlaw09_TonesBack.s2c at h
    refine wp_seq ?_
    refine wp_seq ?_
    refine wp_reg ?_
    refine st_move hf rfl rfl (by decide) ?_
    clear hf; intro a ha hf; clear ha
    refine st_move hf rfl rfl (by decide) ?_
    clear hf; intro a ha hf; clear ha
    refine st_len (E := Ek.c128) hf (by decide) Try.underlying26 rfl rfl (hp.sl (i := 2) rfl) ?_
    clear hf; intro a ha hf; clear ha
    refine st_ilss hf (by decide) rfl rfl rfl ?_
    clear hf; intro a ha hf; clear ha
    refine st_nil hf ?_
    refine th_n ?_
    refine wp_if hf rfl (fun hb => ?_) (fun hb => ?_)
    · replace h := ifT h hb
      refine wp_skip ?_
      refine th_n ?_
      refine wp_seq ?_
      refine wp_block ?_
      refine wp_seq ?_
      obtain ⟨S33, hp34, rd35, up36, bk37⟩ := Hp.lendS hp (i := 2) rfl
      obtain ⟨S38, hp39, rd40, up41, bk42⟩ := Hp.lendS hp34 (i := 2) rfl
      have rl43 := ((rd35.now hp34).mono up41)
      have rl44 := rd40
      obtain ⟨hc45, h⟩ := chk h
      obtain ⟨bb47, bb48, y49, y50, hl46⟩ := RdS.pinC (p := i9) rl43 hc45.1 hc45.2
      obtain ⟨hc51, h⟩ := chk h
      obtain ⟨bb53, bb54, y55, y56, hl52⟩ := RdS.pinC (p := i9) rl44 hc51.1 hc51.2
      obtain ⟨hc63, h⟩ := chk h
      refine wp_cutN (fun a w => ∃ (v61 : Value) (v64 : Value), Fr 266 a [(3, .int .i64 wx0_N), (4, .int .i64 q3), (5, v7), (6, (GL.cut v15 0 (((q5.length : Int)).toNat) 1)), (7, v64), (8, v27), (9, .int .i64 i9)] ∧ Hp S w0 w (Res.sl Ek.c128 28 v7 q5 :: Res.slx Ek.c128 28 (GL.cut v15 0 (((q5.length : Int)).toNat) 1) ((q21 ++ ([] : List (Fl × Fl))).take (((q5.length : Int)).toNat)) ((q21 ++ ([] : List (Fl × Fl))).drop (((q5.length : Int)).toNat)) :: Res.sl Ek.c128 28 v61 ([(cadd (gt q5 i9) (gt ((q21 ++ ([] : List (Fl × Fl))).take (((q5.length : Int)).toNat)) i9))]) :: Res.sl Ek.c128 28 v64 (both7 ++ [(cadd (gt q5 i9) (gt ((q21 ++ ([] : List (Fl × Fl))).take (((q5.length : Int)).toNat)) i9))]) :: Res.sl Ek.c128 28 v27 turned8 :: ow)) ?_ ?_
      · have hp := hp39.same (Same.drew w)
        refine dr_begin' (fun a w => ∃ (v61 : Value) (v64 : Value), Fr 266 a [(3, .int .i64 wx0_N), (4, .int .i64 q3), (5, v7), (6, (GL.cut v15 0 (((q5.length : Int)).toNat) 1)), (7, v64), (8, v27), (9, .int .i64 i9)] ∧ Hp S w0 w (Res.sl Ek.c128 28 v7 q5 :: Res.slx Ek.c128 28 (GL.cut v15 0 (((q5.length : Int)).toNat) 1) ((q21 ++ ([] : List (Fl × Fl))).take (((q5.length : Int)).toNat)) ((q21 ++ ([] : List (Fl × Fl))).drop (((q5.length : Int)).toNat)) :: Res.sl Ek.c128 28 v61 ([(cadd (gt q5 i9) (gt ((q21 ++ ([] : List (Fl × Fl))).take (((q5.length : Int)).toNat)) i9))]) :: Res.sl Ek.c128 28 v64 (both7 ++ [(cadd (gt q5 i9) (gt ((q21 ++ ([] : List (Fl × Fl))).take (((q5.length : Int)).toNat)) i9))]) :: Res.sl Ek.c128 28 v27 turned8 :: ow)) (fun w' => ∃ l, Hp S38 w w' l) [] (by kernel_rfl) ?_
        refine dr_take 0 (v25) rfl (by kernel_rfl) (by kernel_rfl) (by kernel_rfl) (by kernel_rfl) rfl rfl hf (by decide) rfl (fun w hp => ?_) ⟨_, hp⟩ ?_
        · obtain ⟨_, hp⟩ := hp
          refine st_move hf rfl rfl (by decide) ?_
          clear hf; intro a ha hf
          exact st_nil hf (th_n ⟨ha, rfl⟩)
        clear hf; intro a hf
        refine dr_take 1 (v7) rfl (by kernel_rfl) (by kernel_rfl) (by kernel_rfl) (by kernel_rfl) rfl rfl hf (by decide) rfl (fun w hp => ?_) ⟨_, hp⟩ ?_
        · obtain ⟨_, hp⟩ := hp
          refine st_move hf rfl rfl (by decide) ?_
          clear hf; intro a ha hf
          exact st_nil hf (th_n ⟨ha, rfl⟩)
        clear hf; intro a hf
        refine dr_take 2 (.int .i64 i9) rfl (by kernel_rfl) (by kernel_rfl) (by kernel_rfl) (by kernel_rfl) rfl rfl hf (by decide) rfl (fun w hp => ?_) ⟨_, hp⟩ ?_
        · obtain ⟨_, hp⟩ := hp
          refine st_move hf rfl rfl (by decide) ?_
          clear hf; intro a ha hf
          exact st_nil hf (th_n ⟨ha, rfl⟩)
        clear hf; intro a hf
        refine dr_take 3 (eptr v7 i9 1) rfl (by kernel_rfl) (by kernel_rfl) (by kernel_rfl) (by kernel_rfl) rfl rfl hf (by decide) rfl (fun w hp => ?_) ⟨_, hp⟩ ?_
        · obtain ⟨_, hp⟩ := hp
          refine st_index (E := Ek.c128) hf (by decide) Try.underlying26 elt28 rfl rfl rfl (rl43.sl hp) hc45.1 hc45.2 ?_
          clear hf; intro a ha hf
          exact st_nil hf (th_n ⟨ha, rfl⟩)
        clear hf; intro a hf
        refine dr_take 4 (.complex .f64 bb47 bb48) rfl (by kernel_rfl) (by kernel_rfl) (by kernel_rfl) (by kernel_rfl) rfl rfl hf (by decide) rfl (fun w hp => ?_) ⟨_, hp⟩ ?_
        · obtain ⟨_, hp⟩ := hp
          refine st_ldP hf (by decide) pl28 rfl rfl (hl46 _ _ hp) ?_
          clear hf; intro a ha hf
          exact st_nil hf (th_n ⟨ha, rfl⟩)
        clear hf; intro a hf
        refine dr_take 5 ((GL.cut v15 0 (((q5.length : Int)).toNat) 1)) rfl (by kernel_rfl) (by kernel_rfl) (by kernel_rfl) (by kernel_rfl) rfl rfl hf (by decide) rfl (fun w hp => ?_) ⟨_, hp⟩ ?_
        · obtain ⟨_, hp⟩ := hp
          refine st_move hf rfl rfl (by decide) ?_
          clear hf; intro a ha hf
          exact st_nil hf (th_n ⟨ha, rfl⟩)
        clear hf; intro a hf
        refine dr_take 6 (.int .i64 i9) rfl (by kernel_rfl) (by kernel_rfl) (by kernel_rfl) (by kernel_rfl) rfl rfl hf (by decide) rfl (fun w hp => ?_) ⟨_, hp⟩ ?_
        · obtain ⟨_, hp⟩ := hp
          refine st_move hf rfl rfl (by decide) ?_
          clear hf; intro a ha hf
          exact st_nil hf (th_n ⟨ha, rfl⟩)
        clear hf; intro a hf
        refine dr_take 7 (eptr (GL.cut v15 0 (((q5.length : Int)).toNat) 1) i9 1) rfl (by kernel_rfl) (by kernel_rfl) (by kernel_rfl) (by kernel_rfl) rfl rfl hf (by decide) rfl (fun w hp => ?_) ⟨_, hp⟩ ?_
        · obtain ⟨_, hp⟩ := hp
          refine st_index (E := Ek.c128) hf (by decide) Try.underlying26 elt28 rfl rfl rfl (rl44.sl hp) hc51.1 hc51.2 ?_
          clear hf; intro a ha hf
          exact st_nil hf (th_n ⟨ha, rfl⟩)
        clear hf; intro a hf
        refine dr_take 8 (.complex .f64 bb53 bb54) rfl (by kernel_rfl) (by kernel_rfl) (by kernel_rfl) (by kernel_rfl) rfl rfl hf (by decide) rfl (fun w hp => ?_) ⟨_, hp⟩ ?_
        · obtain ⟨_, hp⟩ := hp
          refine st_ldP hf (by decide) pl28 rfl rfl (hl52 _ _ hp) ?_
          clear hf; intro a ha hf
          exact st_nil hf (th_n ⟨ha, rfl⟩)
        clear hf; intro a hf
        refine dr_one 9 rfl (by kernel_rfl) ?_
        refine st_carith (op := .add) (zx := (gt q5 i9)) (zy := (gt ((q21 ++ ([] : List (Fl × Fl))).take (((q5.length : Int)).toNat)) i9)) rfl hf (by decide) hp rfl rfl rfl y49 y50 y55 y56 ?_
        clear hf; intro a w bb57 bb58 y59 y60 hf hp0; clear hp; have hp := hp0; clear hp0
        replace hp : Hp _ _ _ (Res.sl Ek.c128 28 v25 both7 :: Res.sl Ek.c128 28 v27 turned8 :: ow) := hp
        refine st_nil hf (th_n ⟨fun _ _ => ⟨_, hp⟩, ?_⟩)
        refine dr_one 10 rfl (by kernel_rfl) ?_
        refine st_build (E := Ek.c128) (xs := [(cadd (gt q5 i9) (gt ((q21 ++ ([] : List (Fl × Fl))).take (((q5.length : Int)).toNat)) i9))]) hf (by decide) elt28 Try.underlying26 hp (vals := #[(0, .complex .f64 bb57 bb58)]) (cells := #[.complex .f64 bb57 bb58]) rfl (by simp [hf.ev (x := (Operand.tmp 71)) rfl]) (by decide) (by decide) (z := .complex .f64 0 0) (by kernel_rfl) (by kernel_rfl) rfl (reps_cons (cs := [.complex .f64 bb57 bb58]) (show Ek.c128.rep [.complex .f64 bb57 bb58] (cadd (gt q5 i9) (gt ((q21 ++ ([] : List (Fl × Fl))).take (((q5.length : Int)).toNat)) i9)) from ⟨_, _, rfl, y59, y60⟩) (reps_nil _)) ?_
        clear hf; intro a w v61 hf hp0; clear hp; have hp := hp0; clear hp0
        replace hp : Hp _ _ _ (Res.sl Ek.c128 28 v61 ([(cadd (gt q5 i9) (gt ((q21 ++ ([] : List (Fl × Fl))).take (((q5.length : Int)).toNat)) i9))]) :: Res.sl Ek.c128 28 v25 both7 :: Res.sl Ek.c128 28 v27 turned8 :: ow) := hp
        refine st_nil hf (th_n ⟨fun _ _ => ⟨_, hp⟩, ?_⟩)
        refine dr_one 11 rfl (by kernel_rfl) ?_
        refine st_append (E := Ek.c128) hf (by decide) elt28 Try.underlying26 (by decide) hp (i := 1) rfl rfl rfl rfl (hp.sl (i := 0) rfl) hc63 ?_
        clear hf; intro a w v64 hf hp0; clear hp; have hp := hp0; clear hp0
        replace hp : Hp _ _ _ (Res.sl Ek.c128 28 v61 ([(cadd (gt q5 i9) (gt ((q21 ++ ([] : List (Fl × Fl))).take (((q5.length : Int)).toNat)) i9))]) :: Res.sl Ek.c128 28 v64 (both7 ++ [(cadd (gt q5 i9) (gt ((q21 ++ ([] : List (Fl × Fl))).take (((q5.length : Int)).toNat)) i9))]) :: Res.sl Ek.c128 28 v27 turned8 :: ow) := hp
        refine st_nil hf (th_n ⟨fun _ _ => ⟨_, hp⟩, ?_⟩)
        refine dr_take 12 (v64) rfl (by kernel_rfl) (by kernel_rfl) (by kernel_rfl) (by kernel_rfl) rfl rfl hf (by decide) rfl (fun w hp => ?_) ⟨_, hp⟩ ?_
        · obtain ⟨_, hp⟩ := hp
          refine st_assign hf rfl rfl (by decide) ?_
          clear hf; intro a ha hf
          exact st_nil hf (th_n ⟨ha, rfl⟩)
        clear hf; intro a hf
        refine dr_end (by kernel_rfl) ?_ _
        have hp := bk42 _ _ hp
        have hp := bk37 _ _ hp
        exact ⟨v61, v64, hf.sub ⟨rfl, rfl, rfl, rfl, rfl, rfl, rfl, trivial⟩, hp⟩
      rintro a w ⟨v61, v64, hf, hp⟩
      refine th_n ?_
      refine wp_reg ?_
      refine st_move hf rfl rfl (by decide) ?_
      clear hf; intro a ha hf; clear ha
      refine st_move hf rfl rfl (by decide) ?_
      clear hf; intro a ha hf; clear ha
      refine st_move hf rfl rfl (by decide) ?_
      clear hf; intro a ha hf; clear ha
      obtain ⟨hc65, h⟩ := chk h
      refine st_index (E := Ek.c128) hf (by decide) Try.underlying26 elt28 rfl rfl rfl (hp.sl (i := 0) rfl) hc65.1 hc65.2 ?_
      clear hf; intro a ha hf; clear ha
      refine st_ldC hf (by decide) pl28 rfl rfl (hp.sl (i := 0) rfl) hc65.1 hc65.2 ?_
      clear hf; intro a bb66 bb67 y68 y69 ha hf; clear ha
      refine st_move hf rfl rfl (by decide) ?_
      clear hf; intro a ha hf; clear ha
      obtain ⟨q70, hcall71, h⟩ := bnd h
      refine st_call hf (by decide) Try.func8 rfl rfl rfl rfl rfl (f_plane_Turn_c hp _ _ _ (show Fl.rep bb66 ((gt q5 i9)).1 from y68) (show Fl.rep bb67 ((gt q5 i9)).2 from y69) _ hcall71) ?_
      rintro _ w ⟨v72, v73, rfl, y74, y75, hp0⟩
      clear hp; have hp := hp0; clear hp0
      replace hp : Hp _ _ _ (Res.sl Ek.c128 28 v7 q5 :: Res.slx Ek.c128 28 (GL.cut v15 0 (((q5.length : Int)).toNat) 1) ((q21 ++ ([] : List (Fl × Fl))).take (((q5.length : Int)).toNat)) ((q21 ++ ([] : List (Fl × Fl))).drop (((q5.length : Int)).toNat)) :: Res.sl Ek.c128 28 v61 ([(cadd (gt q5 i9) (gt ((q21 ++ ([] : List (Fl × Fl))).take (((q5.length : Int)).toNat)) i9))]) :: Res.sl Ek.c128 28 v64 (both7 ++ [(cadd (gt q5 i9) (gt ((q21 ++ ([] : List (Fl × Fl))).take (((q5.length : Int)).toNat)) i9))]) :: Res.sl Ek.c128 28 v27 turned8 :: ow) := hp
      refine ⟨_, rfl, ?_⟩
      clear hf; intro a hf
      refine st_build (E := Ek.c128) (xs := [q70]) hf (by decide) elt28 Try.underlying26 hp (vals := #[(0, .complex .f64 v72 v73)]) (cells := #[.complex .f64 v72 v73]) rfl (by simp [hf.ev (x := (Operand.tmp 80)) rfl]) (by decide) (by decide) (z := .complex .f64 0 0) (by kernel_rfl) (by kernel_rfl) rfl (reps_cons (cs := [.complex .f64 v72 v73]) (show Ek.c128.rep [.complex .f64 v72 v73] q70 from ⟨_, _, rfl, y74, y75⟩) (reps_nil _)) ?_
      clear hf; intro a w v76 hf hp0; clear hp; have hp := hp0; clear hp0
      replace hp : Hp _ _ _ (Res.sl Ek.c128 28 v76 ([q70]) :: Res.sl Ek.c128 28 v7 q5 :: Res.slx Ek.c128 28 (GL.cut v15 0 (((q5.length : Int)).toNat) 1) ((q21 ++ ([] : List (Fl × Fl))).take (((q5.length : Int)).toNat)) ((q21 ++ ([] : List (Fl × Fl))).drop (((q5.length : Int)).toNat)) :: Res.sl Ek.c128 28 v61 ([(cadd (gt q5 i9) (gt ((q21 ++ ([] : List (Fl × Fl))).take (((q5.length : Int)).toNat)) i9))]) :: Res.sl Ek.c128 28 v64 (both7 ++ [(cadd (gt q5 i9) (gt ((q21 ++ ([] : List (Fl × Fl))).take (((q5.length : Int)).toNat)) i9))]) :: Res.sl Ek.c128 28 v27 turned8 :: ow) := hp
      obtain ⟨hc78, h⟩ := chk h
      refine st_append (E := Ek.c128) hf (by decide) elt28 Try.underlying26 (by decide) hp (i := 5) rfl rfl rfl rfl (hp.sl (i := 0) rfl) hc78 ?_
      clear hf; intro a w v79 hf hp0; clear hp; have hp := hp0; clear hp0
      replace hp : Hp _ _ _ (Res.sl Ek.c128 28 v76 ([q70]) :: Res.sl Ek.c128 28 v7 q5 :: Res.slx Ek.c128 28 (GL.cut v15 0 (((q5.length : Int)).toNat) 1) ((q21 ++ ([] : List (Fl × Fl))).take (((q5.length : Int)).toNat)) ((q21 ++ ([] : List (Fl × Fl))).drop (((q5.length : Int)).toNat)) :: Res.sl Ek.c128 28 v61 ([(cadd (gt q5 i9) (gt ((q21 ++ ([] : List (Fl × Fl))).take (((q5.length : Int)).toNat)) i9))]) :: Res.sl Ek.c128 28 v64 (both7 ++ [(cadd (gt q5 i9) (gt ((q21 ++ ([] : List (Fl × Fl))).take (((q5.length : Int)).toNat)) i9))]) :: Res.sl Ek.c128 28 v79 (turned8 ++ [q70]) :: ow) := hp
      refine st_assign hf rfl rfl (by decide) ?_
      clear hf; intro a ha hf; clear ha
      refine st_nil hf ?_
      refine ib_n ?_
      refine th_n ?_
      refine wp_reg ?_
      refine st_move hf rfl rfl (by decide) ?_
      clear hf; intro a ha hf; clear ha
      refine st_iadd hf (by decide) rfl rfl rfl ?_
      clear hf; intro a ha hf; clear ha
      refine st_assign hf rfl rfl (by decide) ?_
      clear hf; intro a ha hf; clear ha
      refine st_nil hf ?_
      obtain rfl := Option.some.inj h
      have hp : Hp _ _ _ (Res.sl Ek.c128 28 v64 (both7 ++ [(cadd (gt q5 i9) (gt ((q21 ++ ([] : List (Fl × Fl))).take (((q5.length : Int)).toNat)) i9))]) :: Res.sl Ek.c128 28 v79 (turned8 ++ [q70]) :: Res.sl Ek.c128 28 v7 q5 :: Res.slx Ek.c128 28 (GL.cut v15 0 (((q5.length : Int)).toNat) 1) ((q21 ++ ([] : List (Fl × Fl))).take (((q5.length : Int)).toNat)) ((q21 ++ ([] : List (Fl × Fl))).drop (((q5.length : Int)).toNat)) :: ow) := Hp.sel (pre := [Res.sl Ek.c128 28 v76 ([q70]), Res.sl Ek.c128 28 v7 q5, Res.slx Ek.c128 28 (GL.cut v15 0 (((q5.length : Int)).toNat) 1) ((q21 ++ ([] : List (Fl × Fl))).take (((q5.length : Int)).toNat)) ((q21 ++ ([] : List (Fl × Fl))).drop (((q5.length : Int)).toNat)), Res.sl Ek.c128 28 v61 ([(cadd (gt q5 i9) (gt ((q21 ++ ([] : List (Fl × Fl))).take (((q5.length : Int)).toNat)) i9))]), Res.sl Ek.c128 28 v64 (both7 ++ [(cadd (gt q5 i9) (gt ((q21 ++ ([] : List (Fl × Fl))).take (((q5.length : Int)).toNat)) i9))]), Res.sl Ek.c128 28 v79 (turned8 ++ [q70])]) (tail := ow) (rs' := [Res.sl Ek.c128 28 v64 (both7 ++ [(cadd (gt q5 i9) (gt ((q21 ++ ([] : List (Fl × Fl))).take (((q5.length : Int)).toNat)) i9))]), Res.sl Ek.c128 28 v79 (turned8 ++ [q70]), Res.sl Ek.c128 28 v7 q5, Res.slx Ek.c128 28 (GL.cut v15 0 (((q5.length : Int)).toNat) 1) ((q21 ++ ([] : List (Fl × Fl))).take (((q5.length : Int)).toNat)) ((q21 ++ ([] : List (Fl × Fl))).drop (((q5.length : Int)).toNat))]) hp [4, 5, 1, 2] (by decide) (by simp) rfl
      exact rnd_l ⟨_, _, hf.sub ⟨rfl, rfl, rfl, rfl, rfl, rfl, rfl, trivial⟩, hp⟩
    replace h := ifF h hb
    refine wp_exit ?_
    refine th_e ?_
    obtain rfl := Option.some.inj h
    exact rnd_r (by simp) ⟨rfl, _, _, hf.sub ⟨rfl, rfl, rfl, rfl, rfl, rfl, trivial⟩, hp⟩
  clear hl hf hp
  intro e a w hne hO
  obtain ⟨rfl, v29, v31, hf, hp⟩ := hO
  refine ib_same ?_
  refine th_n ?_
  refine wp_seq ?_
  refine wp_reg ?_
  refine st_move hf rfl rfl (by decide) ?_
  clear hf; intro a ha hf; clear ha
  refine st_move hf rfl rfl (by decide) ?_
  clear hf; intro a ha hf; clear ha
  obtain ⟨q83, hcall84, h⟩ := bnd h
  obtain ⟨S85, hp86, rd87, up88, bk89⟩ := Hp.lendS hp (i := 2) rfl
  refine st_call hf (by decide) Try.func9 rfl rfl rfl rfl rfl (f_tones_Send_c hp86 _ _ _ rd87 hcall84) ?_
  rintro _ w ⟨v90, rfl, hp0⟩
  have hp0 := bk89 _ _ hp0
  clear hp; have hp := hp0; clear hp0
  replace hp : Hp _ _ _ (Res.sl Ek.c128 28 v7 q5 :: Res.sl Ek.c128 28 v90 q83.1 :: Res.sl Ek.c128 28 v29 q80.1 :: Res.sl Ek.c128 28 v31 q80.2 :: Res.slx Ek.c128 28 (GL.cut v15 0 (((q5.length : Int)).toNat) 1) ((q21 ++ ([] : List (Fl × Fl))).take (((q5.length : Int)).toNat)) ((q21 ++ ([] : List (Fl × Fl))).drop (((q5.length : Int)).toNat)) :: ow) := hp
  refine ⟨_, rfl, ?_⟩
  clear hf; intro a hf
  refine st_move hf rfl rfl (by decide) ?_
  clear hf; intro a ha hf; clear ha
  refine st_extract hf (by decide) rfl rfl rfl ?_
  clear hf; intro a ha hf; clear ha
  refine st_extract hf (by decide) rfl rfl rfl ?_
  clear hf; intro a ha hf; clear ha
  refine st_assign hf rfl rfl (by decide) ?_
  clear hf; intro a ha hf; clear ha
  refine st_assign hf rfl rfl (by decide) ?_
  clear hf; intro a ha hf; clear ha
  refine st_nil hf ?_
  refine th_n ?_
  refine wp_seq ?_
  refine wp_reg ?_
  refine st_move hf rfl rfl (by decide) ?_
  clear hf; intro a ha hf; clear ha
  refine st_move hf rfl rfl (by decide) ?_
  clear hf; intro a ha hf; clear ha
  obtain ⟨q92, hcall93, h⟩ := bnd h
  obtain ⟨S94, hp95, rd96, up97, bk98⟩ := Hp.lendS hp (i := 4) rfl
  refine st_call hf (by decide) Try.func9 rfl rfl rfl rfl rfl (f_tones_Send_c hp95 _ _ _ rd96 hcall93) ?_
  rintro _ w ⟨v99, rfl, hp0⟩
  have hp0 := bk98 _ _ hp0
  clear hp; have hp := hp0; clear hp0
  replace hp : Hp _ _ _ (Res.slx Ek.c128 28 (GL.cut v15 0 (((q5.length : Int)).toNat) 1) ((q21 ++ ([] : List (Fl × Fl))).take (((q5.length : Int)).toNat)) ((q21 ++ ([] : List (Fl × Fl))).drop (((q5.length : Int)).toNat)) :: Res.sl Ek.c128 28 v99 q92.1 :: Res.sl Ek.c128 28 v7 q5 :: Res.sl Ek.c128 28 v90 q83.1 :: Res.sl Ek.c128 28 v29 q80.1 :: Res.sl Ek.c128 28 v31 q80.2 :: ow) := hp
  refine ⟨_, rfl, ?_⟩
  clear hf; intro a hf
  refine st_move hf rfl rfl (by decide) ?_
  clear hf; intro a ha hf; clear ha
  refine st_extract hf (by decide) rfl rfl rfl ?_
  clear hf; intro a ha hf; clear ha
  refine st_extract hf (by decide) rfl rfl rfl ?_
  clear hf; intro a ha hf; clear ha
  refine st_assign hf rfl rfl (by decide) ?_
  clear hf; intro a ha hf; clear ha
  refine st_assign hf rfl rfl (by decide) ?_
  clear hf; intro a ha hf; clear ha
  refine st_nil hf ?_
  refine th_n ?_
  refine wp_seq ?_
  refine wp_reg ?_
  refine st_move hf rfl rfl (by decide) ?_
  clear hf; intro a ha hf; clear ha
  refine st_move hf rfl rfl (by decide) ?_
  clear hf; intro a ha hf; clear ha
  obtain ⟨q101, hcall102, h⟩ := bnd h
  obtain ⟨S103, hp104, rd105, up106, bk107⟩ := Hp.lendS hp (i := 4) rfl
  refine st_call hf (by decide) Try.func9 rfl rfl rfl rfl rfl (f_tones_Send_c hp104 _ _ _ rd105 hcall102) ?_
  rintro _ w ⟨v108, rfl, hp0⟩
  have hp0 := bk107 _ _ hp0
  clear hp; have hp := hp0; clear hp0
  replace hp : Hp _ _ _ (Res.sl Ek.c128 28 v29 q80.1 :: Res.sl Ek.c128 28 v108 q101.1 :: Res.slx Ek.c128 28 (GL.cut v15 0 (((q5.length : Int)).toNat) 1) ((q21 ++ ([] : List (Fl × Fl))).take (((q5.length : Int)).toNat)) ((q21 ++ ([] : List (Fl × Fl))).drop (((q5.length : Int)).toNat)) :: Res.sl Ek.c128 28 v99 q92.1 :: Res.sl Ek.c128 28 v7 q5 :: Res.sl Ek.c128 28 v90 q83.1 :: Res.sl Ek.c128 28 v31 q80.2 :: ow) := hp
  refine ⟨_, rfl, ?_⟩
  clear hf; intro a hf
  refine st_move hf rfl rfl (by decide) ?_
  clear hf; intro a ha hf; clear ha
  refine st_extract hf (by decide) rfl rfl rfl ?_
  clear hf; intro a ha hf; clear ha
  refine st_extract hf (by decide) rfl rfl rfl ?_
  clear hf; intro a ha hf; clear ha
  refine st_assign hf rfl rfl (by decide) ?_
  clear hf; intro a ha hf; clear ha
  refine st_assign hf rfl rfl (by decide) ?_
  clear hf; intro a ha hf; clear ha
  refine st_nil hf ?_
  refine th_n ?_
  refine wp_seq ?_
  refine wp_reg ?_
  refine st_move hf rfl rfl (by decide) ?_
  clear hf; intro a ha hf; clear ha
  refine st_move hf rfl rfl (by decide) ?_
  clear hf; intro a ha hf; clear ha
  obtain ⟨q110, hcall111, h⟩ := bnd h
  obtain ⟨S112, hp113, rd114, up115, bk116⟩ := Hp.lendS hp (i := 6) rfl
  refine st_call hf (by decide) Try.func9 rfl rfl rfl rfl rfl (f_tones_Send_c hp113 _ _ _ rd114 hcall111) ?_
  rintro _ w ⟨v117, rfl, hp0⟩
  have hp0 := bk116 _ _ hp0
  clear hp; have hp := hp0; clear hp0
  replace hp : Hp _ _ _ (Res.sl Ek.c128 28 v31 q80.2 :: Res.sl Ek.c128 28 v117 q110.1 :: Res.sl Ek.c128 28 v29 q80.1 :: Res.sl Ek.c128 28 v108 q101.1 :: Res.slx Ek.c128 28 (GL.cut v15 0 (((q5.length : Int)).toNat) 1) ((q21 ++ ([] : List (Fl × Fl))).take (((q5.length : Int)).toNat)) ((q21 ++ ([] : List (Fl × Fl))).drop (((q5.length : Int)).toNat)) :: Res.sl Ek.c128 28 v99 q92.1 :: Res.sl Ek.c128 28 v7 q5 :: Res.sl Ek.c128 28 v90 q83.1 :: ow) := hp
  refine ⟨_, rfl, ?_⟩
  clear hf; intro a hf
  refine st_move hf rfl rfl (by decide) ?_
  clear hf; intro a ha hf; clear ha
  refine st_extract hf (by decide) rfl rfl rfl ?_
  clear hf; intro a ha hf; clear ha
  refine st_extract hf (by decide) rfl rfl rfl ?_
  clear hf; intro a ha hf; clear ha
  refine st_assign hf rfl rfl (by decide) ?_
  clear hf; intro a ha hf; clear ha
  refine st_assign hf rfl rfl (by decide) ?_
  clear hf; intro a ha hf; clear ha
  refine st_nil hf ?_
  refine th_n ?_
  refine wp_seq ?_
  refine wp_reg ?_
  refine st_move hf rfl rfl (by decide) ?_
  clear hf; intro a ha hf; clear ha
  refine st_move hf rfl rfl (by decide) ?_
  clear hf; intro a ha hf; clear ha
  obtain ⟨q119, hcall120, h⟩ := bnd h
  obtain ⟨S121, hp122, rd123, up124, bk125⟩ := Hp.lendS hp (i := 7) rfl
  refine st_call hf (by decide) Try.func10 rfl rfl rfl rfl rfl (f_tones_Back_c hp122 _ _ _ rd123 hcall120) ?_
  rintro _ w ⟨v126, rfl, hp0⟩
  have hp0 := bk125 _ _ hp0
  clear hp; have hp := hp0; clear hp0
  replace hp : Hp _ _ _ (Res.sl Ek.c128 28 v90 q83.1 :: Res.sl Ek.c128 28 v126 q119.1 :: Res.sl Ek.c128 28 v31 q80.2 :: Res.sl Ek.c128 28 v117 q110.1 :: Res.sl Ek.c128 28 v29 q80.1 :: Res.sl Ek.c128 28 v108 q101.1 :: Res.slx Ek.c128 28 (GL.cut v15 0 (((q5.length : Int)).toNat) 1) ((q21 ++ ([] : List (Fl × Fl))).take (((q5.length : Int)).toNat)) ((q21 ++ ([] : List (Fl × Fl))).drop (((q5.length : Int)).toNat)) :: Res.sl Ek.c128 28 v99 q92.1 :: Res.sl Ek.c128 28 v7 q5 :: ow) := hp
  refine ⟨_, rfl, ?_⟩
  clear hf; intro a hf
  refine st_move hf rfl rfl (by decide) ?_
  clear hf; intro a ha hf; clear ha
  refine st_extract hf (by decide) rfl rfl rfl ?_
  clear hf; intro a ha hf; clear ha
  refine st_extract hf (by decide) rfl rfl rfl ?_
  clear hf; intro a ha hf; clear ha
  refine st_assign hf rfl rfl (by decide) ?_
  clear hf; intro a ha hf; clear ha
  refine st_assign hf rfl rfl (by decide) ?_
  clear hf; intro a ha hf; clear ha
  refine st_nil hf ?_
  refine th_n ?_
  refine wp_seq ?_
  refine wp_reg ?_
  refine st_move hf rfl rfl (by decide) ?_
  clear hf; intro a ha hf; clear ha
  refine st_move hf rfl rfl (by decide) ?_
  clear hf; intro a ha hf; clear ha
  obtain ⟨q128, hcall129, h⟩ := bnd h
  obtain ⟨S130, hp131, rd132, up133, bk134⟩ := Hp.lendS hp (i := 8) rfl
  refine st_call hf (by decide) Try.func10 rfl rfl rfl rfl rfl (f_tones_Back_c hp131 _ _ _ rd132 hcall129) ?_
  rintro _ w ⟨v135, rfl, hp0⟩
  have hp0 := bk134 _ _ hp0
  clear hp; have hp := hp0; clear hp0
  replace hp : Hp _ _ _ (Res.sl Ek.c128 28 v7 q5 :: Res.sl Ek.c128 28 v135 q128.1 :: Res.sl Ek.c128 28 v90 q83.1 :: Res.sl Ek.c128 28 v126 q119.1 :: Res.sl Ek.c128 28 v31 q80.2 :: Res.sl Ek.c128 28 v117 q110.1 :: Res.sl Ek.c128 28 v29 q80.1 :: Res.sl Ek.c128 28 v108 q101.1 :: Res.slx Ek.c128 28 (GL.cut v15 0 (((q5.length : Int)).toNat) 1) ((q21 ++ ([] : List (Fl × Fl))).take (((q5.length : Int)).toNat)) ((q21 ++ ([] : List (Fl × Fl))).drop (((q5.length : Int)).toNat)) :: Res.sl Ek.c128 28 v99 q92.1 :: ow) := hp
  refine ⟨_, rfl, ?_⟩
  clear hf; intro a hf
  refine st_move hf rfl rfl (by decide) ?_
  clear hf; intro a ha hf; clear ha
  refine st_extract hf (by decide) rfl rfl rfl ?_
  clear hf; intro a ha hf; clear ha
  refine st_extract hf (by decide) rfl rfl rfl ?_
  clear hf; intro a ha hf; clear ha
  refine st_assign hf rfl rfl (by decide) ?_
  clear hf; intro a ha hf; clear ha
  refine st_assign hf rfl rfl (by decide) ?_
  clear hf; intro a ha hf; clear ha
  refine st_nil hf ?_
  refine th_n ?_
  refine wp_seq ?_
  refine wp_reg ?_
  refine st_move hf rfl rfl (by decide) ?_
  clear hf; intro a ha hf; clear ha
  refine st_move hf rfl rfl (by decide) ?_
  clear hf; intro a ha hf; clear ha
  obtain ⟨q137, hcall138, h⟩ := bnd h
  obtain ⟨S139, hp140, rd141, up142, bk143⟩ := Hp.lendS hp (i := 1) rfl
  refine st_call hf (by decide) Try.func9 rfl rfl rfl rfl rfl (f_tones_Send_c hp140 _ _ _ rd141 hcall138) ?_
  rintro _ w ⟨v144, rfl, hp0⟩
  have hp0 := bk143 _ _ hp0
  clear hp; have hp := hp0; clear hp0
  replace hp : Hp _ _ _ (Res.sl Ek.c128 28 v135 q128.1 :: Res.sl Ek.c128 28 v144 q137.1 :: Res.sl Ek.c128 28 v7 q5 :: Res.sl Ek.c128 28 v90 q83.1 :: Res.sl Ek.c128 28 v126 q119.1 :: Res.sl Ek.c128 28 v31 q80.2 :: Res.sl Ek.c128 28 v117 q110.1 :: Res.sl Ek.c128 28 v29 q80.1 :: Res.sl Ek.c128 28 v108 q101.1 :: Res.slx Ek.c128 28 (GL.cut v15 0 (((q5.length : Int)).toNat) 1) ((q21 ++ ([] : List (Fl × Fl))).take (((q5.length : Int)).toNat)) ((q21 ++ ([] : List (Fl × Fl))).drop (((q5.length : Int)).toNat)) :: Res.sl Ek.c128 28 v99 q92.1 :: ow) := hp
  refine ⟨_, rfl, ?_⟩
  clear hf; intro a hf
  refine st_move hf rfl rfl (by decide) ?_
  clear hf; intro a ha hf; clear ha
  refine st_extract hf (by decide) rfl rfl rfl ?_
  clear hf; intro a ha hf; clear ha
  refine st_extract hf (by decide) rfl rfl rfl ?_
  clear hf; intro a ha hf; clear ha
  refine st_assign hf rfl rfl (by decide) ?_
  clear hf; intro a ha hf; clear ha
  refine st_assign hf rfl rfl (by decide) ?_
  clear hf; intro a ha hf; clear ha
  refine st_nil hf ?_
  refine th_n ?_
  refine wp_seq ?_
  refine wp_seq ?_
  refine wp_reg ?_
  refine st_move hf rfl rfl (by decide) ?_
  clear hf; intro a ha hf; clear ha
  refine st_ineq hf (by decide) rfl rfl rfl ?_
  clear hf; intro a ha hf; clear ha
  refine st_move hf rfl rfl (by decide) ?_
  clear hf; intro a ha hf; clear ha
  refine wpList_cut 3 (fun a w => Fr 266 a [(3, .int .i64 wx0_N), (4, .int .i64 q3), (5, v7), (10, v90), (12, v99), (14, v108), (15, .int .i64 q101.2), (16, v117), (17, .int .i64 q110.2), (18, v126), (19, .int .i64 q119.2), (21, .int .i64 q128.2), (22, v144), (23, .int .i64 q137.2), (130, .bool ((q83.2 != (0 : Int)) || (q92.2 != (0 : Int))))] ∧ Hp S w0 w (Res.sl Ek.c128 28 v135 q128.1 :: Res.sl Ek.c128 28 v144 q137.1 :: Res.sl Ek.c128 28 v7 q5 :: Res.sl Ek.c128 28 v90 q83.1 :: Res.sl Ek.c128 28 v126 q119.1 :: Res.sl Ek.c128 28 v31 q80.2 :: Res.sl Ek.c128 28 v117 q110.1 :: Res.sl Ek.c128 28 v29 q80.1 :: Res.sl Ek.c128 28 v108 q101.1 :: Res.slx Ek.c128 28 (GL.cut v15 0 (((q5.length : Int)).toNat) 1) ((q21 ++ ([] : List (Fl × Fl))).take (((q5.length : Int)).toNat)) ((q21 ++ ([] : List (Fl × Fl))).drop (((q5.length : Int)).toNat)) :: Res.sl Ek.c128 28 v99 q92.1 :: ow)) ?_ ?_
  · rcases Bool.eq_false_or_eq_true (q83.2 != (0 : Int)) with hb147 | hb147
    · skip
      refine st_skip hf (wantN hf rfl rfl hb147) rfl (by decide) ?_ rfl
      clear hf; intro a hf
      refine st_skip hf (wantN hf rfl rfl hb147) rfl (by decide) ?_ rfl
      clear hf; intro a hf
      refine st_pick (v := .bool true) hf rfl rfl (fun hb' => ?_) (fun hb' => ?_) (by decide) ?_
      · rfl
      · exact absurd (hb147.symm.trans hb') (by decide)
      clear hf; intro a ha hf; clear ha
      refine st_nil hf (th_n ?_)
      exact ⟨hf.sub ⟨rfl, rfl, rfl, rfl, rfl, rfl, rfl, rfl, rfl, rfl, rfl, rfl, rfl, rfl, (by rw [hb147]; rfl), trivial⟩, hp⟩
    refine st_move hf (wantY hf rfl rfl hb147) rfl (by decide) ?_
    clear hf; intro a ha hf; clear ha
    refine st_ineq hf (by decide) (wantY hf rfl rfl hb147) rfl rfl ?_
    clear hf; intro a ha hf; clear ha
    refine st_pick (v := .bool (q92.2 != (0 : Int))) hf rfl rfl (fun hb' => ?_) (fun hb' => ?_) (by decide) ?_
    · exact absurd (hb147.symm.trans hb') (by decide)
    · rfl
    clear hf; intro a ha hf; clear ha
    refine st_nil hf (th_n ?_)
    exact ⟨hf.sub ⟨rfl, rfl, rfl, rfl, rfl, rfl, rfl, rfl, rfl, rfl, rfl, rfl, rfl, rfl, (by rw [hb147]; rfl), trivial⟩, hp⟩
  rintro a w ⟨hf, hp⟩
  refine st_move hf rfl rfl (by decide) ?_
  clear hf; intro a ha hf; clear ha
  refine wpList_cut 3 (fun a w => Fr 266 a [(3, .int .i64 wx0_N), (4, .int .i64 q3), (5, v7), (10, v90), (12, v99), (14, v108), (16, v117), (17, .int .i64 q110.2), (18, v126), (19, .int .i64 q119.2), (21, .int .i64 q128.2), (22, v144), (23, .int .i64 q137.2), (134, .bool (((q83.2 != (0 : Int)) || (q92.2 != (0 : Int))) || (q101.2 != (0 : Int))))] ∧ Hp S w0 w (Res.sl Ek.c128 28 v135 q128.1 :: Res.sl Ek.c128 28 v144 q137.1 :: Res.sl Ek.c128 28 v7 q5 :: Res.sl Ek.c128 28 v90 q83.1 :: Res.sl Ek.c128 28 v126 q119.1 :: Res.sl Ek.c128 28 v31 q80.2 :: Res.sl Ek.c128 28 v117 q110.1 :: Res.sl Ek.c128 28 v29 q80.1 :: Res.sl Ek.c128 28 v108 q101.1 :: Res.slx Ek.c128 28 (GL.cut v15 0 (((q5.length : Int)).toNat) 1) ((q21 ++ ([] : List (Fl × Fl))).take (((q5.length : Int)).toNat)) ((q21 ++ ([] : List (Fl × Fl))).drop (((q5.length : Int)).toNat)) :: Res.sl Ek.c128 28 v99 q92.1 :: ow)) ?_ ?_
  · rcases Bool.eq_false_or_eq_true ((q83.2 != (0 : Int)) || (q92.2 != (0 : Int))) with hb149 | hb149
    · skip
      refine st_skip hf (wantN hf rfl rfl hb149) rfl (by decide) ?_ rfl
      clear hf; intro a hf
      refine st_skip hf (wantN hf rfl rfl hb149) rfl (by decide) ?_ rfl
      clear hf; intro a hf
      refine st_pick (v := .bool true) hf rfl rfl (fun hb' => ?_) (fun hb' => ?_) (by decide) ?_
      · rfl
      · exact absurd (hb149.symm.trans hb') (by decide)
      clear hf; intro a ha hf; clear ha
      refine st_nil hf (th_n ?_)
      exact ⟨hf.sub ⟨rfl, rfl, rfl, rfl, rfl, rfl, rfl, rfl, rfl, rfl, rfl, rfl, rfl, (by rw [hb149]; rfl), trivial⟩, hp⟩
    refine st_move hf (wantY hf rfl rfl hb149) rfl (by decide) ?_
    clear hf; intro a ha hf; clear ha
    refine st_ineq hf (by decide) (wantY hf rfl rfl hb149) rfl rfl ?_
    clear hf; intro a ha hf; clear ha
    refine st_pick (v := .bool (q101.2 != (0 : Int))) hf rfl rfl (fun hb' => ?_) (fun hb' => ?_) (by decide) ?_
    · exact absurd (hb149.symm.trans hb') (by decide)
    · rfl
    clear hf; intro a ha hf; clear ha
    refine st_nil hf (th_n ?_)
    exact ⟨hf.sub ⟨rfl, rfl, rfl, rfl, rfl, rfl, rfl, rfl, rfl, rfl, rfl, rfl, rfl, (by rw [hb149]; rfl), trivial⟩, hp⟩
  rintro a w ⟨hf, hp⟩
  refine st_move hf rfl rfl (by decide) ?_
  clear hf; intro a ha hf; clear ha
  refine wpList_cut 3 (fun a w => Fr 266 a [(3, .int .i64 wx0_N), (4, .int .i64 q3), (5, v7), (10, v90), (12, v99), (14, v108), (16, v117), (18, v126), (19, .int .i64 q119.2), (21, .int .i64 q128.2), (22, v144), (23, .int .i64 q137.2), (138, .bool ((((q83.2 != (0 : Int)) || (q92.2 != (0 : Int))) || (q101.2 != (0 : Int))) || (q110.2 != (0 : Int))))] ∧ Hp S w0 w (Res.sl Ek.c128 28 v135 q128.1 :: Res.sl Ek.c128 28 v144 q137.1 :: Res.sl Ek.c128 28 v7 q5 :: Res.sl Ek.c128 28 v90 q83.1 :: Res.sl Ek.c128 28 v126 q119.1 :: Res.sl Ek.c128 28 v31 q80.2 :: Res.sl Ek.c128 28 v117 q110.1 :: Res.sl Ek.c128 28 v29 q80.1 :: Res.sl Ek.c128 28 v108 q101.1 :: Res.slx Ek.c128 28 (GL.cut v15 0 (((q5.length : Int)).toNat) 1) ((q21 ++ ([] : List (Fl × Fl))).take (((q5.length : Int)).toNat)) ((q21 ++ ([] : List (Fl × Fl))).drop (((q5.length : Int)).toNat)) :: Res.sl Ek.c128 28 v99 q92.1 :: ow)) ?_ ?_
  · rcases Bool.eq_false_or_eq_true (((q83.2 != (0 : Int)) || (q92.2 != (0 : Int))) || (q101.2 != (0 : Int))) with hb151 | hb151
    · skip
      refine st_skip hf (wantN hf rfl rfl hb151) rfl (by decide) ?_ rfl
      clear hf; intro a hf
      refine st_skip hf (wantN hf rfl rfl hb151) rfl (by decide) ?_ rfl
      clear hf; intro a hf
      refine st_pick (v := .bool true) hf rfl rfl (fun hb' => ?_) (fun hb' => ?_) (by decide) ?_
      · rfl
      · exact absurd (hb151.symm.trans hb') (by decide)
      clear hf; intro a ha hf; clear ha
      refine st_nil hf (th_n ?_)
      exact ⟨hf.sub ⟨rfl, rfl, rfl, rfl, rfl, rfl, rfl, rfl, rfl, rfl, rfl, rfl, (by rw [hb151]; rfl), trivial⟩, hp⟩
    refine st_move hf (wantY hf rfl rfl hb151) rfl (by decide) ?_
    clear hf; intro a ha hf; clear ha
    refine st_ineq hf (by decide) (wantY hf rfl rfl hb151) rfl rfl ?_
    clear hf; intro a ha hf; clear ha
    refine st_pick (v := .bool (q110.2 != (0 : Int))) hf rfl rfl (fun hb' => ?_) (fun hb' => ?_) (by decide) ?_
    · exact absurd (hb151.symm.trans hb') (by decide)
    · rfl
    clear hf; intro a ha hf; clear ha
    refine st_nil hf (th_n ?_)
    exact ⟨hf.sub ⟨rfl, rfl, rfl, rfl, rfl, rfl, rfl, rfl, rfl, rfl, rfl, rfl, (by rw [hb151]; rfl), trivial⟩, hp⟩
  rintro a w ⟨hf, hp⟩
  refine st_move hf rfl rfl (by decide) ?_
  clear hf; intro a ha hf; clear ha
  refine wpList_cut 3 (fun a w => Fr 266 a [(3, .int .i64 wx0_N), (4, .int .i64 q3), (5, v7), (10, v90), (12, v99), (14, v108), (16, v117), (18, v126), (21, .int .i64 q128.2), (22, v144), (23, .int .i64 q137.2), (142, .bool (((((q83.2 != (0 : Int)) || (q92.2 != (0 : Int))) || (q101.2 != (0 : Int))) || (q110.2 != (0 : Int))) || (q119.2 != (0 : Int))))] ∧ Hp S w0 w (Res.sl Ek.c128 28 v135 q128.1 :: Res.sl Ek.c128 28 v144 q137.1 :: Res.sl Ek.c128 28 v7 q5 :: Res.sl Ek.c128 28 v90 q83.1 :: Res.sl Ek.c128 28 v126 q119.1 :: Res.sl Ek.c128 28 v31 q80.2 :: Res.sl Ek.c128 28 v117 q110.1 :: Res.sl Ek.c128 28 v29 q80.1 :: Res.sl Ek.c128 28 v108 q101.1 :: Res.slx Ek.c128 28 (GL.cut v15 0 (((q5.length : Int)).toNat) 1) ((q21 ++ ([] : List (Fl × Fl))).take (((q5.length : Int)).toNat)) ((q21 ++ ([] : List (Fl × Fl))).drop (((q5.length : Int)).toNat)) :: Res.sl Ek.c128 28 v99 q92.1 :: ow)) ?_ ?_
  · rcases Bool.eq_false_or_eq_true ((((q83.2 != (0 : Int)) || (q92.2 != (0 : Int))) || (q101.2 != (0 : Int))) || (q110.2 != (0 : Int))) with hb153 | hb153
    · skip
      refine st_skip hf (wantN hf rfl rfl hb153) rfl (by decide) ?_ rfl
      clear hf; intro a hf
      refine st_skip hf (wantN hf rfl rfl hb153) rfl (by decide) ?_ rfl
      clear hf; intro a hf
      refine st_pick (v := .bool true) hf rfl rfl (fun hb' => ?_) (fun hb' => ?_) (by decide) ?_
      · rfl
      · exact absurd (hb153.symm.trans hb') (by decide)
      clear hf; intro a ha hf; clear ha
      refine st_nil hf (th_n ?_)
      exact ⟨hf.sub ⟨rfl, rfl, rfl, rfl, rfl, rfl, rfl, rfl, rfl, rfl, rfl, (by rw [hb153]; rfl), trivial⟩, hp⟩
    refine st_move hf (wantY hf rfl rfl hb153) rfl (by decide) ?_
    clear hf; intro a ha hf; clear ha
    refine st_ineq hf (by decide) (wantY hf rfl rfl hb153) rfl rfl ?_
    clear hf; intro a ha hf; clear ha
    refine st_pick (v := .bool (q119.2 != (0 : Int))) hf rfl rfl (fun hb' => ?_) (fun hb' => ?_) (by decide) ?_
    · exact absurd (hb153.symm.trans hb') (by decide)
    · rfl
    clear hf; intro a ha hf; clear ha
    refine st_nil hf (th_n ?_)
    exact ⟨hf.sub ⟨rfl, rfl, rfl, rfl, rfl, rfl, rfl, rfl, rfl, rfl, rfl, (by rw [hb153]; rfl), trivial⟩, hp⟩
  rintro a w ⟨hf, hp⟩
  refine st_move hf rfl rfl (by decide) ?_
  clear hf; intro a ha hf; clear ha
  refine wpList_cut 3 (fun a w => Fr 266 a [(3, .int .i64 wx0_N), (4, .int .i64 q3), (5, v7), (10, v90), (12, v99), (14, v108), (16, v117), (18, v126), (22, v144), (23, .int .i64 q137.2), (146, .bool ((((((q83.2 != (0 : Int)) || (q92.2 != (0 : Int))) || (q101.2 != (0 : Int))) || (q110.2 != (0 : Int))) || (q119.2 != (0 : Int))) || (q128.2 != (0 : Int))))] ∧ Hp S w0 w (Res.sl Ek.c128 28 v135 q128.1 :: Res.sl Ek.c128 28 v144 q137.1 :: Res.sl Ek.c128 28 v7 q5 :: Res.sl Ek.c128 28 v90 q83.1 :: Res.sl Ek.c128 28 v126 q119.1 :: Res.sl Ek.c128 28 v31 q80.2 :: Res.sl Ek.c128 28 v117 q110.1 :: Res.sl Ek.c128 28 v29 q80.1 :: Res.sl Ek.c128 28 v108 q101.1 :: Res.slx Ek.c128 28 (GL.cut v15 0 (((q5.length : Int)).toNat) 1) ((q21 ++ ([] : List (Fl × Fl))).take (((q5.length : Int)).toNat)) ((q21 ++ ([] : List (Fl × Fl))).drop (((q5.length : Int)).toNat)) :: Res.sl Ek.c128 28 v99 q92.1 :: ow)) ?_ ?_
  · rcases Bool.eq_false_or_eq_true (((((q83.2 != (0 : Int)) || (q92.2 != (0 : Int))) || (q101.2 != (0 : Int))) || (q110.2 != (0 : Int))) || (q119.2 != (0 : Int))) with hb155 | hb155
    · skip
      refine st_skip hf (wantN hf rfl rfl hb155) rfl (by decide) ?_ rfl
      clear hf; intro a hf
      refine st_skip hf (wantN hf rfl rfl hb155) rfl (by decide) ?_ rfl
      clear hf; intro a hf
      refine st_pick (v := .bool true) hf rfl rfl (fun hb' => ?_) (fun hb' => ?_) (by decide) ?_
      · rfl
      · exact absurd (hb155.symm.trans hb') (by decide)
      clear hf; intro a ha hf; clear ha
      refine st_nil hf (th_n ?_)
      exact ⟨hf.sub ⟨rfl, rfl, rfl, rfl, rfl, rfl, rfl, rfl, rfl, rfl, (by rw [hb155]; rfl), trivial⟩, hp⟩
    refine st_move hf (wantY hf rfl rfl hb155) rfl (by decide) ?_
    clear hf; intro a ha hf; clear ha
    refine st_ineq hf (by decide) (wantY hf rfl rfl hb155) rfl rfl ?_
    clear hf; intro a ha hf; clear ha
    refine st_pick (v := .bool (q128.2 != (0 : Int))) hf rfl rfl (fun hb' => ?_) (fun hb' => ?_) (by decide) ?_
    · exact absurd (hb155.symm.trans hb') (by decide)
    · rfl
    clear hf; intro a ha hf; clear ha
    refine st_nil hf (th_n ?_)
    exact ⟨hf.sub ⟨rfl, rfl, rfl, rfl, rfl, rfl, rfl, rfl, rfl, rfl, (by rw [hb155]; rfl), trivial⟩, hp⟩
  rintro a w ⟨hf, hp⟩
  refine st_move hf rfl rfl (by decide) ?_
  clear hf; intro a ha hf; clear ha
  refine wpList_cut 3 (fun a w => Fr 266 a [(3, .int .i64 wx0_N), (4, .int .i64 q3), (5, v7), (10, v90), (12, v99), (14, v108), (16, v117), (18, v126), (22, v144), (150, .bool (((((((q83.2 != (0 : Int)) || (q92.2 != (0 : Int))) || (q101.2 != (0 : Int))) || (q110.2 != (0 : Int))) || (q119.2 != (0 : Int))) || (q128.2 != (0 : Int))) || (q137.2 != (0 : Int))))] ∧ Hp S w0 w (Res.sl Ek.c128 28 v135 q128.1 :: Res.sl Ek.c128 28 v144 q137.1 :: Res.sl Ek.c128 28 v7 q5 :: Res.sl Ek.c128 28 v90 q83.1 :: Res.sl Ek.c128 28 v126 q119.1 :: Res.sl Ek.c128 28 v31 q80.2 :: Res.sl Ek.c128 28 v117 q110.1 :: Res.sl Ek.c128 28 v29 q80.1 :: Res.sl Ek.c128 28 v108 q101.1 :: Res.slx Ek.c128 28 (GL.cut v15 0 (((q5.length : Int)).toNat) 1) ((q21 ++ ([] : List (Fl × Fl))).take (((q5.length : Int)).toNat)) ((q21 ++ ([] : List (Fl × Fl))).drop (((q5.length : Int)).toNat)) :: Res.sl Ek.c128 28 v99 q92.1 :: ow)) ?_ ?_
  · rcases Bool.eq_false_or_eq_true ((((((q83.2 != (0 : Int)) || (q92.2 != (0 : Int))) || (q101.2 != (0 : Int))) || (q110.2 != (0 : Int))) || (q119.2 != (0 : Int))) || (q128.2 != (0 : Int))) with hb157 | hb157
    · skip
      refine st_skip hf (wantN hf rfl rfl hb157) rfl (by decide) ?_ rfl
      clear hf; intro a hf
      refine st_skip hf (wantN hf rfl rfl hb157) rfl (by decide) ?_ rfl
      clear hf; intro a hf
      refine st_pick (v := .bool true) hf rfl rfl (fun hb' => ?_) (fun hb' => ?_) (by decide) ?_
      · rfl
      · exact absurd (hb157.symm.trans hb') (by decide)
      clear hf; intro a ha hf; clear ha
      refine st_nil hf (th_n ?_)
      exact ⟨hf.sub ⟨rfl, rfl, rfl, rfl, rfl, rfl, rfl, rfl, rfl, (by rw [hb157]; rfl), trivial⟩, hp⟩
    refine st_move hf (wantY hf rfl rfl hb157) rfl (by decide) ?_
    clear hf; intro a ha hf; clear ha
    refine st_ineq hf (by decide) (wantY hf rfl rfl hb157) rfl rfl ?_
    clear hf; intro a ha hf; clear ha
    refine st_pick (v := .bool (q137.2 != (0 : Int))) hf rfl rfl (fun hb' => ?_) (fun hb' => ?_) (by decide) ?_
    · exact absurd (hb157.symm.trans hb') (by decide)
    · rfl
    clear hf; intro a ha hf; clear ha
    refine st_nil hf (th_n ?_)
    exact ⟨hf.sub ⟨rfl, rfl, rfl, rfl, rfl, rfl, rfl, rfl, rfl, (by rw [hb157]; rfl), trivial⟩, hp⟩
  rintro a w ⟨hf, hp⟩
  refine st_move hf rfl rfl (by decide) ?_
  clear hf; intro a ha hf; clear ha
  refine wpList_cut 6 (fun a w => Fr 266 a [(3, .int .i64 wx0_N), (4, .int .i64 q3), (5, v7), (10, v90), (12, v99), (14, v108), (16, v117), (18, v126), (22, v144), (157, .bool ((((((((q83.2 != (0 : Int)) || (q92.2 != (0 : Int))) || (q101.2 != (0 : Int))) || (q110.2 != (0 : Int))) || (q119.2 != (0 : Int))) || (q128.2 != (0 : Int))) || (q137.2 != (0 : Int))) || ((q83.1.length : Int) != (q5.length : Int))))] ∧ Hp S w0 w (Res.sl Ek.c128 28 v135 q128.1 :: Res.sl Ek.c128 28 v144 q137.1 :: Res.sl Ek.c128 28 v7 q5 :: Res.sl Ek.c128 28 v90 q83.1 :: Res.sl Ek.c128 28 v126 q119.1 :: Res.sl Ek.c128 28 v31 q80.2 :: Res.sl Ek.c128 28 v117 q110.1 :: Res.sl Ek.c128 28 v29 q80.1 :: Res.sl Ek.c128 28 v108 q101.1 :: Res.slx Ek.c128 28 (GL.cut v15 0 (((q5.length : Int)).toNat) 1) ((q21 ++ ([] : List (Fl × Fl))).take (((q5.length : Int)).toNat)) ((q21 ++ ([] : List (Fl × Fl))).drop (((q5.length : Int)).toNat)) :: Res.sl Ek.c128 28 v99 q92.1 :: ow)) ?_ ?_
  · rcases Bool.eq_false_or_eq_true (((((((q83.2 != (0 : Int)) || (q92.2 != (0 : Int))) || (q101.2 != (0 : Int))) || (q110.2 != (0 : Int))) || (q119.2 != (0 : Int))) || (q128.2 != (0 : Int))) || (q137.2 != (0 : Int))) with hb159 | hb159
    · skip
      refine st_skip hf (wantN hf rfl rfl hb159) rfl (by decide) ?_ rfl
      clear hf; intro a hf
      refine st_skip hf (wantN hf rfl rfl hb159) rfl (by decide) ?_ rfl
      clear hf; intro a hf
      refine st_skip hf (wantN hf rfl rfl hb159) rfl (by decide) ?_ rfl
      clear hf; intro a hf
      refine st_skip hf (wantN hf rfl rfl hb159) rfl (by decide) ?_ rfl
      clear hf; intro a hf
      refine st_skip hf (wantN hf rfl rfl hb159) rfl (by decide) ?_ rfl
      clear hf; intro a hf
      refine st_pick (v := .bool true) hf rfl rfl (fun hb' => ?_) (fun hb' => ?_) (by decide) ?_
      · rfl
      · exact absurd (hb159.symm.trans hb') (by decide)
      clear hf; intro a ha hf; clear ha
      refine st_nil hf (th_n ?_)
      exact ⟨hf.sub ⟨rfl, rfl, rfl, rfl, rfl, rfl, rfl, rfl, rfl, (by rw [hb159]; rfl), trivial⟩, hp⟩
    refine st_move hf (wantY hf rfl rfl hb159) rfl (by decide) ?_
    clear hf; intro a ha hf; clear ha
    refine st_len (E := Ek.c128) hf (by decide) Try.underlying26 (wantY hf rfl rfl hb159) rfl (hp.sl (i := 3) rfl) ?_
    clear hf; intro a ha hf; clear ha
    refine st_move hf (wantY hf rfl rfl hb159) rfl (by decide) ?_
    clear hf; intro a ha hf; clear ha
    refine st_len (E := Ek.c128) hf (by decide) Try.underlying26 (wantY hf rfl rfl hb159) rfl (hp.sl (i := 2) rfl) ?_
    clear hf; intro a ha hf; clear ha
    refine st_ineq hf (by decide) (wantY hf rfl rfl hb159) rfl rfl ?_
    clear hf; intro a ha hf; clear ha
    refine st_pick (v := .bool ((q83.1.length : Int) != (q5.length : Int))) hf rfl rfl (fun hb' => ?_) (fun hb' => ?_) (by decide) ?_
    · exact absurd (hb159.symm.trans hb') (by decide)
    · rfl
    clear hf; intro a ha hf; clear ha
    refine st_nil hf (th_n ?_)
    exact ⟨hf.sub ⟨rfl, rfl, rfl, rfl, rfl, rfl, rfl, rfl, rfl, (by rw [hb159]; rfl), trivial⟩, hp⟩
  rintro a w ⟨hf, hp⟩
  refine st_move hf rfl rfl (by decide) ?_
  clear hf; intro a ha hf; clear ha
  refine wpList_cut 6 (fun a w => Fr 266 a [(3, .int .i64 wx0_N), (4, .int .i64 q3), (5, v7), (10, v90), (12, v99), (14, v108), (16, v117), (18, v126), (22, v144), (164, .bool (((((((((q83.2 != (0 : Int)) || (q92.2 != (0 : Int))) || (q101.2 != (0 : Int))) || (q110.2 != (0 : Int))) || (q119.2 != (0 : Int))) || (q128.2 != (0 : Int))) || (q137.2 != (0 : Int))) || ((q83.1.length : Int) != (q5.length : Int))) || ((q92.1.length : Int) != (q5.length : Int))))] ∧ Hp S w0 w (Res.sl Ek.c128 28 v135 q128.1 :: Res.sl Ek.c128 28 v144 q137.1 :: Res.sl Ek.c128 28 v7 q5 :: Res.sl Ek.c128 28 v90 q83.1 :: Res.sl Ek.c128 28 v126 q119.1 :: Res.sl Ek.c128 28 v31 q80.2 :: Res.sl Ek.c128 28 v117 q110.1 :: Res.sl Ek.c128 28 v29 q80.1 :: Res.sl Ek.c128 28 v108 q101.1 :: Res.slx Ek.c128 28 (GL.cut v15 0 (((q5.length : Int)).toNat) 1) ((q21 ++ ([] : List (Fl × Fl))).take (((q5.length : Int)).toNat)) ((q21 ++ ([] : List (Fl × Fl))).drop (((q5.length : Int)).toNat)) :: Res.sl Ek.c128 28 v99 q92.1 :: ow)) ?_ ?_
  · rcases Bool.eq_false_or_eq_true ((((((((q83.2 != (0 : Int)) || (q92.2 != (0 : Int))) || (q101.2 != (0 : Int))) || (q110.2 != (0 : Int))) || (q119.2 != (0 : Int))) || (q128.2 != (0 : Int))) || (q137.2 != (0 : Int))) || ((q83.1.length : Int) != (q5.length : Int))) with hb161 | hb161
    · skip
      refine st_skip hf (wantN hf rfl rfl hb161) rfl (by decide) ?_ rfl
      clear hf; intro a hf
      refine st_skip hf (wantN hf rfl rfl hb161) rfl (by decide) ?_ rfl
      clear hf; intro a hf
      refine st_skip hf (wantN hf rfl rfl hb161) rfl (by decide) ?_ rfl
      clear hf; intro a hf
      refine st_skip hf (wantN hf rfl rfl hb161) rfl (by decide) ?_ rfl
      clear hf; intro a hf
      refine st_skip hf (wantN hf rfl rfl hb161) rfl (by decide) ?_ rfl
      clear hf; intro a hf
      refine st_pick (v := .bool true) hf rfl rfl (fun hb' => ?_) (fun hb' => ?_) (by decide) ?_
      · rfl
      · exact absurd (hb161.symm.trans hb') (by decide)
      clear hf; intro a ha hf; clear ha
      refine st_nil hf (th_n ?_)
      exact ⟨hf.sub ⟨rfl, rfl, rfl, rfl, rfl, rfl, rfl, rfl, rfl, (by rw [hb161]; rfl), trivial⟩, hp⟩
    refine st_move hf (wantY hf rfl rfl hb161) rfl (by decide) ?_
    clear hf; intro a ha hf; clear ha
    refine st_len (E := Ek.c128) hf (by decide) Try.underlying26 (wantY hf rfl rfl hb161) rfl (hp.sl (i := 10) rfl) ?_
    clear hf; intro a ha hf; clear ha
    refine st_move hf (wantY hf rfl rfl hb161) rfl (by decide) ?_
    clear hf; intro a ha hf; clear ha
    refine st_len (E := Ek.c128) hf (by decide) Try.underlying26 (wantY hf rfl rfl hb161) rfl (hp.sl (i := 2) rfl) ?_
    clear hf; intro a ha hf; clear ha
    refine st_ineq hf (by decide) (wantY hf rfl rfl hb161) rfl rfl ?_
    clear hf; intro a ha hf; clear ha
    refine st_pick (v := .bool ((q92.1.length : Int) != (q5.length : Int))) hf rfl rfl (fun hb' => ?_) (fun hb' => ?_) (by decide) ?_
    · exact absurd (hb161.symm.trans hb') (by decide)
    · rfl
    clear hf; intro a ha hf; clear ha
    refine st_nil hf (th_n ?_)
    exact ⟨hf.sub ⟨rfl, rfl, rfl, rfl, rfl, rfl, rfl, rfl, rfl, (by rw [hb161]; rfl), trivial⟩, hp⟩
  rintro a w ⟨hf, hp⟩
  refine st_move hf rfl rfl (by decide) ?_
  clear hf; intro a ha hf; clear ha
  refine wpList_cut 6 (fun a w => Fr 266 a [(3, .int .i64 wx0_N), (4, .int .i64 q3), (5, v7), (10, v90), (12, v99), (14, v108), (16, v117), (18, v126), (22, v144), (171, .bool ((((((((((q83.2 != (0 : Int)) || (q92.2 != (0 : Int))) || (q101.2 != (0 : Int))) || (q110.2 != (0 : Int))) || (q119.2 != (0 : Int))) || (q128.2 != (0 : Int))) || (q137.2 != (0 : Int))) || ((q83.1.length : Int) != (q5.length : Int))) || ((q92.1.length : Int) != (q5.length : Int))) || ((q101.1.length : Int) != (q5.length : Int))))] ∧ Hp S w0 w (Res.sl Ek.c128 28 v135 q128.1 :: Res.sl Ek.c128 28 v144 q137.1 :: Res.sl Ek.c128 28 v7 q5 :: Res.sl Ek.c128 28 v90 q83.1 :: Res.sl Ek.c128 28 v126 q119.1 :: Res.sl Ek.c128 28 v31 q80.2 :: Res.sl Ek.c128 28 v117 q110.1 :: Res.sl Ek.c128 28 v29 q80.1 :: Res.sl Ek.c128 28 v108 q101.1 :: Res.slx Ek.c128 28 (GL.cut v15 0 (((q5.length : Int)).toNat) 1) ((q21 ++ ([] : List (Fl × Fl))).take (((q5.length : Int)).toNat)) ((q21 ++ ([] : List (Fl × Fl))).drop (((q5.length : Int)).toNat)) :: Res.sl Ek.c128 28 v99 q92.1 :: ow)) ?_ ?_
  · rcases Bool.eq_false_or_eq_true (((((((((q83.2 != (0 : Int)) || (q92.2 != (0 : Int))) || (q101.2 != (0 : Int))) || (q110.2 != (0 : Int))) || (q119.2 != (0 : Int))) || (q128.2 != (0 : Int))) || (q137.2 != (0 : Int))) || ((q83.1.length : Int) != (q5.length : Int))) || ((q92.1.length : Int) != (q5.length : Int))) with hb163 | hb163
    · skip
      refine st_skip hf (wantN hf rfl rfl hb163) rfl (by decide) ?_ rfl
      clear hf; intro a hf
      refine st_skip hf (wantN hf rfl rfl hb163) rfl (by decide) ?_ rfl
      clear hf; intro a hf
      refine st_skip hf (wantN hf rfl rfl hb163) rfl (by decide) ?_ rfl
      clear hf; intro a hf
      refine st_skip hf (wantN hf rfl rfl hb163) rfl (by decide) ?_ rfl
      clear hf; intro a hf
      refine st_skip hf (wantN hf rfl rfl hb163) rfl (by decide) ?_ rfl
      clear hf; intro a hf
      refine st_pick (v := .bool true) hf rfl rfl (fun hb' => ?_) (fun hb' => ?_) (by decide) ?_
      · rfl
      · exact absurd (hb163.symm.trans hb') (by decide)
      clear hf; intro a ha hf; clear ha
      refine st_nil hf (th_n ?_)
      exact ⟨hf.sub ⟨rfl, rfl, rfl, rfl, rfl, rfl, rfl, rfl, rfl, (by rw [hb163]; rfl), trivial⟩, hp⟩
    refine st_move hf (wantY hf rfl rfl hb163) rfl (by decide) ?_
    clear hf; intro a ha hf; clear ha
    refine st_len (E := Ek.c128) hf (by decide) Try.underlying26 (wantY hf rfl rfl hb163) rfl (hp.sl (i := 8) rfl) ?_
    clear hf; intro a ha hf; clear ha
    refine st_move hf (wantY hf rfl rfl hb163) rfl (by decide) ?_
    clear hf; intro a ha hf; clear ha
    refine st_len (E := Ek.c128) hf (by decide) Try.underlying26 (wantY hf rfl rfl hb163) rfl (hp.sl (i := 2) rfl) ?_
    clear hf; intro a ha hf; clear ha
    refine st_ineq hf (by decide) (wantY hf rfl rfl hb163) rfl rfl ?_
    clear hf; intro a ha hf; clear ha
    refine st_pick (v := .bool ((q101.1.length : Int) != (q5.length : Int))) hf rfl rfl (fun hb' => ?_) (fun hb' => ?_) (by decide) ?_
    · exact absurd (hb163.symm.trans hb') (by decide)
    · rfl
    clear hf; intro a ha hf; clear ha
    refine st_nil hf (th_n ?_)
    exact ⟨hf.sub ⟨rfl, rfl, rfl, rfl, rfl, rfl, rfl, rfl, rfl, (by rw [hb163]; rfl), trivial⟩, hp⟩
  rintro a w ⟨hf, hp⟩
  refine st_move hf rfl rfl (by decide) ?_
  clear hf; intro a ha hf; clear ha
  refine wpList_cut 6 (fun a w => Fr 266 a [(3, .int .i64 wx0_N), (4, .int .i64 q3), (5, v7), (10, v90), (12, v99), (14, v108), (16, v117), (18, v126), (22, v144), (178, .bool (((((((((((q83.2 != (0 : Int)) || (q92.2 != (0 : Int))) || (q101.2 != (0 : Int))) || (q110.2 != (0 : Int))) || (q119.2 != (0 : Int))) || (q128.2 != (0 : Int))) || (q137.2 != (0 : Int))) || ((q83.1.length : Int) != (q5.length : Int))) || ((q92.1.length : Int) != (q5.length : Int))) || ((q101.1.length : Int) != (q5.length : Int))) || ((q110.1.length : Int) != (q5.length : Int))))] ∧ Hp S w0 w (Res.sl Ek.c128 28 v135 q128.1 :: Res.sl Ek.c128 28 v144 q137.1 :: Res.sl Ek.c128 28 v7 q5 :: Res.sl Ek.c128 28 v90 q83.1 :: Res.sl Ek.c128 28 v126 q119.1 :: Res.sl Ek.c128 28 v31 q80.2 :: Res.sl Ek.c128 28 v117 q110.1 :: Res.sl Ek.c128 28 v29 q80.1 :: Res.sl Ek.c128 28 v108 q101.1 :: Res.slx Ek.c128 28 (GL.cut v15 0 (((q5.length : Int)).toNat) 1) ((q21 ++ ([] : List (Fl × Fl))).take (((q5.length : Int)).toNat)) ((q21 ++ ([] : List (Fl × Fl))).drop (((q5.length : Int)).toNat)) :: Res.sl Ek.c128 28 v99 q92.1 :: ow)) ?_ ?_
  · rcases Bool.eq_false_or_eq_true ((((((((((q83.2 != (0 : Int)) || (q92.2 != (0 : Int))) || (q101.2 != (0 : Int))) || (q110.2 != (0 : Int))) || (q119.2 != (0 : Int))) || (q128.2 != (0 : Int))) || (q137.2 != (0 : Int))) || ((q83.1.length : Int) != (q5.length : Int))) || ((q92.1.length : Int) != (q5.length : Int))) || ((q101.1.length : Int) != (q5.length : Int))) with hb165 | hb165
    · skip
      refine st_skip hf (wantN hf rfl rfl hb165) rfl (by decide) ?_ rfl
      clear hf; intro a hf
      refine st_skip hf (wantN hf rfl rfl hb165) rfl (by decide) ?_ rfl
      clear hf; intro a hf
      refine st_skip hf (wantN hf rfl rfl hb165) rfl (by decide) ?_ rfl
      clear hf; intro a hf
      refine st_skip hf (wantN hf rfl rfl hb165) rfl (by decide) ?_ rfl
      clear hf; intro a hf
      refine st_skip hf (wantN hf rfl rfl hb165) rfl (by decide) ?_ rfl
      clear hf; intro a hf
      refine st_pick (v := .bool true) hf rfl rfl (fun hb' => ?_) (fun hb' => ?_) (by decide) ?_
      · rfl
      · exact absurd (hb165.symm.trans hb') (by decide)
      clear hf; intro a ha hf; clear ha
      refine st_nil hf (th_n ?_)
      exact ⟨hf.sub ⟨rfl, rfl, rfl, rfl, rfl, rfl, rfl, rfl, rfl, (by rw [hb165]; rfl), trivial⟩, hp⟩
    refine st_move hf (wantY hf rfl rfl hb165) rfl (by decide) ?_
    clear hf; intro a ha hf; clear ha
    refine st_len (E := Ek.c128) hf (by decide) Try.underlying26 (wantY hf rfl rfl hb165) rfl (hp.sl (i := 6) rfl) ?_
    clear hf; intro a ha hf; clear ha
    refine st_move hf (wantY hf rfl rfl hb165) rfl (by decide) ?_
    clear hf; intro a ha hf; clear ha
    refine st_len (E := Ek.c128) hf (by decide) Try.underlying26 (wantY hf rfl rfl hb165) rfl (hp.sl (i := 2) rfl) ?_
    clear hf; intro a ha hf; clear ha
    refine st_ineq hf (by decide) (wantY hf rfl rfl hb165) rfl rfl ?_
    clear hf; intro a ha hf; clear ha
    refine st_pick (v := .bool ((q110.1.length : Int) != (q5.length : Int))) hf rfl rfl (fun hb' => ?_) (fun hb' => ?_) (by decide) ?_
    · exact absurd (hb165.symm.trans hb') (by decide)
    · rfl
    clear hf; intro a ha hf; clear ha
    refine st_nil hf (th_n ?_)
    exact ⟨hf.sub ⟨rfl, rfl, rfl, rfl, rfl, rfl, rfl, rfl, rfl, (by rw [hb165]; rfl), trivial⟩, hp⟩
  rintro a w ⟨hf, hp⟩
  refine st_move hf rfl rfl (by decide) ?_
  clear hf; intro a ha hf; clear ha
  obtain ⟨z168, hz166, h⟩ := bnd h
  refine wpList_cut 5 (fun a w => Fr 266 a [(3, .int .i64 wx0_N), (4, .int .i64 q3), (5, v7), (10, v90), (12, v99), (14, v108), (16, v117), (22, v144), (184, .bool z168)] ∧ Hp S w0 w (Res.sl Ek.c128 28 v135 q128.1 :: Res.sl Ek.c128 28 v144 q137.1 :: Res.sl Ek.c128 28 v7 q5 :: Res.sl Ek.c128 28 v90 q83.1 :: Res.sl Ek.c128 28 v126 q119.1 :: Res.sl Ek.c128 28 v31 q80.2 :: Res.sl Ek.c128 28 v117 q110.1 :: Res.sl Ek.c128 28 v29 q80.1 :: Res.sl Ek.c128 28 v108 q101.1 :: Res.slx Ek.c128 28 (GL.cut v15 0 (((q5.length : Int)).toNat) 1) ((q21 ++ ([] : List (Fl × Fl))).take (((q5.length : Int)).toNat)) ((q21 ++ ([] : List (Fl × Fl))).drop (((q5.length : Int)).toNat)) :: Res.sl Ek.c128 28 v99 q92.1 :: ow)) ?_ ?_
  · rcases Bool.eq_false_or_eq_true (((((((((((q83.2 != (0 : Int)) || (q92.2 != (0 : Int))) || (q101.2 != (0 : Int))) || (q110.2 != (0 : Int))) || (q119.2 != (0 : Int))) || (q128.2 != (0 : Int))) || (q137.2 != (0 : Int))) || ((q83.1.length : Int) != (q5.length : Int))) || ((q92.1.length : Int) != (q5.length : Int))) || ((q101.1.length : Int) != (q5.length : Int))) || ((q110.1.length : Int) != (q5.length : Int))) with hb167 | hb167
    · skip
      replace hz166 := ifT hz166 hb167
      refine st_skip hf (wantN hf rfl rfl hb167) rfl (by decide) ?_ rfl
      clear hf; intro a hf
      refine st_skip hf (wantN hf rfl rfl hb167) rfl (by decide) ?_ rfl
      clear hf; intro a hf
      refine st_skip hf (wantN hf rfl rfl hb167) rfl (by decide) ?_ rfl
      clear hf; intro a hf
      refine st_skip hf (wantN hf rfl rfl hb167) rfl (by decide) ?_ rfl
      clear hf; intro a hf
      obtain rfl := Option.some.inj hz166
      refine st_pick (v := .bool true) hf rfl rfl (fun hb' => ?_) (fun hb' => ?_) (by decide) ?_
      · rfl
      · exact absurd (hb167.symm.trans hb') (by decide)
      clear hf; intro a ha hf; clear ha
      refine st_nil hf (th_n ?_)
      exact ⟨hf.sub ⟨rfl, rfl, rfl, rfl, rfl, rfl, rfl, rfl, rfl, trivial⟩, hp⟩
    replace hz166 := ifF hz166 hb167
    refine st_move hf (wantY hf rfl rfl hb167) rfl (by decide) ?_
    clear hf; intro a ha hf; clear ha
    refine st_move hf (wantY hf rfl rfl hb167) rfl (by decide) ?_
    clear hf; intro a ha hf; clear ha
    obtain ⟨q169, hcall170, hz166⟩ := bnd hz166
    obtain ⟨S171, hp172, rd173, up174, bk175⟩ := Hp.lendS hp (i := 4) rfl
    obtain ⟨S176, hp177, rd178, up179, bk180⟩ := Hp.lendS hp172 (i := 2) rfl
    refine st_call hf (by decide) Try.func11 rfl rfl (wantY hf rfl rfl hb167) rfl rfl (f_foghornlaw09_same_c hp177 _ _ ((rd173.now hp172).mono up179) _ _ rd178 hcall170) ?_
    rintro _ w ⟨rfl, hp0⟩
    have hp0 := bk180 _ _ hp0
    have hp0 := bk175 _ _ hp0
    clear hp; have hp := hp0; clear hp0
    replace hp : Hp _ _ _ (Res.sl Ek.c128 28 v126 q119.1 :: Res.sl Ek.c128 28 v7 q5 :: Res.sl Ek.c128 28 v135 q128.1 :: Res.sl Ek.c128 28 v144 q137.1 :: Res.sl Ek.c128 28 v90 q83.1 :: Res.sl Ek.c128 28 v31 q80.2 :: Res.sl Ek.c128 28 v117 q110.1 :: Res.sl Ek.c128 28 v29 q80.1 :: Res.sl Ek.c128 28 v108 q101.1 :: Res.slx Ek.c128 28 (GL.cut v15 0 (((q5.length : Int)).toNat) 1) ((q21 ++ ([] : List (Fl × Fl))).take (((q5.length : Int)).toNat)) ((q21 ++ ([] : List (Fl × Fl))).drop (((q5.length : Int)).toNat)) :: Res.sl Ek.c128 28 v99 q92.1 :: ow) := hp
    refine ⟨_, rfl, ?_⟩
    clear hf; intro a hf
    refine st_not hf (by decide) (wantY hf rfl rfl hb167) rfl ?_
    clear hf; intro a ha hf; clear ha
    obtain rfl := Option.some.inj hz166
    refine st_pick (v := .bool (!q169)) hf rfl rfl (fun hb' => ?_) (fun hb' => ?_) (by decide) ?_
    · exact absurd (hb167.symm.trans hb') (by decide)
    · rfl
    clear hf; intro a ha hf; clear ha
    refine st_nil hf (th_n ?_)
    have hp : Hp _ _ _ (Res.sl Ek.c128 28 v135 q128.1 :: Res.sl Ek.c128 28 v144 q137.1 :: Res.sl Ek.c128 28 v7 q5 :: Res.sl Ek.c128 28 v90 q83.1 :: Res.sl Ek.c128 28 v126 q119.1 :: Res.sl Ek.c128 28 v31 q80.2 :: Res.sl Ek.c128 28 v117 q110.1 :: Res.sl Ek.c128 28 v29 q80.1 :: Res.sl Ek.c128 28 v108 q101.1 :: Res.slx Ek.c128 28 (GL.cut v15 0 (((q5.length : Int)).toNat) 1) ((q21 ++ ([] : List (Fl × Fl))).take (((q5.length : Int)).toNat)) ((q21 ++ ([] : List (Fl × Fl))).drop (((q5.length : Int)).toNat)) :: Res.sl Ek.c128 28 v99 q92.1 :: ow) := Hp.sel (pre := [Res.sl Ek.c128 28 v126 q119.1, Res.sl Ek.c128 28 v7 q5, Res.sl Ek.c128 28 v135 q128.1, Res.sl Ek.c128 28 v144 q137.1, Res.sl Ek.c128 28 v90 q83.1, Res.sl Ek.c128 28 v31 q80.2, Res.sl Ek.c128 28 v117 q110.1, Res.sl Ek.c128 28 v29 q80.1, Res.sl Ek.c128 28 v108 q101.1, Res.slx Ek.c128 28 (GL.cut v15 0 (((q5.length : Int)).toNat) 1) ((q21 ++ ([] : List (Fl × Fl))).take (((q5.length : Int)).toNat)) ((q21 ++ ([] : List (Fl × Fl))).drop (((q5.length : Int)).toNat)), Res.sl Ek.c128 28 v99 q92.1]) (tail := ow) (rs' := [Res.sl Ek.c128 28 v135 q128.1, Res.sl Ek.c128 28 v144 q137.1, Res.sl Ek.c128 28 v7 q5, Res.sl Ek.c128 28 v90 q83.1, Res.sl Ek.c128 28 v126 q119.1, Res.sl Ek.c128 28 v31 q80.2, Res.sl Ek.c128 28 v117 q110.1, Res.sl Ek.c128 28 v29 q80.1, Res.sl Ek.c128 28 v108 q101.1, Res.slx Ek.c128 28 (GL.cut v15 0 (((q5.length : Int)).toNat) 1) ((q21 ++ ([] : List (Fl × Fl))).take (((q5.length : Int)).toNat)) ((q21 ++ ([] : List (Fl × Fl))).drop (((q5.length : Int)).toNat)), Res.sl Ek.c128 28 v99 q92.1]) hp [2, 3, 1, 4, 0, 5, 6, 7, 8, 9, 10] (by decide) (by simp) rfl
    exact ⟨hf.sub ⟨rfl, rfl, rfl, rfl, rfl, rfl, rfl, rfl, rfl, trivial⟩, hp⟩
  rintro a w ⟨hf, hp⟩
  refine st_move hf rfl rfl (by decide) ?_
  clear hf; intro a ha hf; clear ha
  obtain ⟨z183, hz181, h⟩ := bnd h
  refine wpList_cut 5 (fun a w => Fr 266 a [(3, .int .i64 wx0_N), (4, .int .i64 q3), (5, v7), (10, v90), (12, v99), (14, v108), (16, v117), (190, .bool z183)] ∧ Hp S w0 w (Res.sl Ek.c128 28 v135 q128.1 :: Res.sl Ek.c128 28 v144 q137.1 :: Res.sl Ek.c128 28 v7 q5 :: Res.sl Ek.c128 28 v90 q83.1 :: Res.sl Ek.c128 28 v126 q119.1 :: Res.sl Ek.c128 28 v31 q80.2 :: Res.sl Ek.c128 28 v117 q110.1 :: Res.sl Ek.c128 28 v29 q80.1 :: Res.sl Ek.c128 28 v108 q101.1 :: Res.slx Ek.c128 28 (GL.cut v15 0 (((q5.length : Int)).toNat) 1) ((q21 ++ ([] : List (Fl × Fl))).take (((q5.length : Int)).toNat)) ((q21 ++ ([] : List (Fl × Fl))).drop (((q5.length : Int)).toNat)) :: Res.sl Ek.c128 28 v99 q92.1 :: ow)) ?_ ?_
  · rcases Bool.eq_false_or_eq_true z168 with hb182 | hb182
    · skip
      replace hz181 := ifT hz181 hb182
      refine st_skip hf (wantN hf rfl rfl hb182) rfl (by decide) ?_ rfl
      clear hf; intro a hf
      refine st_skip hf (wantN hf rfl rfl hb182) rfl (by decide) ?_ rfl
      clear hf; intro a hf
      refine st_skip hf (wantN hf rfl rfl hb182) rfl (by decide) ?_ rfl
      clear hf; intro a hf
      refine st_skip hf (wantN hf rfl rfl hb182) rfl (by decide) ?_ rfl
      clear hf; intro a hf
      obtain rfl := Option.some.inj hz181
      refine st_pick (v := .bool true) hf rfl rfl (fun hb' => ?_) (fun hb' => ?_) (by decide) ?_
      · rfl
      · exact absurd (hb182.symm.trans hb') (by decide)
      clear hf; intro a ha hf; clear ha
      refine st_nil hf (th_n ?_)
      exact ⟨hf.sub ⟨rfl, rfl, rfl, rfl, rfl, rfl, rfl, rfl, trivial⟩, hp⟩
    replace hz181 := ifF hz181 hb182
    refine st_move hf (wantY hf rfl rfl hb182) rfl (by decide) ?_
    clear hf; intro a ha hf; clear ha
    refine st_move hf (wantY hf rfl rfl hb182) rfl (by decide) ?_
    clear hf; intro a ha hf; clear ha
    obtain ⟨q184, hcall185, hz181⟩ := bnd hz181
    obtain ⟨S186, hp187, rd188, up189, bk190⟩ := Hp.lendS hp (i := 1) rfl
    obtain ⟨S191, hp192, rd193, up194, bk195⟩ := Hp.lendS hp187 (i := 1) rfl
    refine st_call hf (by decide) Try.func11 rfl rfl (wantY hf rfl rfl hb182) rfl rfl (f_foghornlaw09_same_c hp192 _ _ ((rd188.now hp187).mono up194) _ _ rd193 hcall185) ?_
    rintro _ w ⟨rfl, hp0⟩
    have hp0 := bk195 _ _ hp0
    have hp0 := bk190 _ _ hp0
    clear hp; have hp := hp0; clear hp0
    replace hp : Hp _ _ _ (Res.sl Ek.c128 28 v144 q137.1 :: Res.sl Ek.c128 28 v7 q5 :: Res.sl Ek.c128 28 v135 q128.1 :: Res.sl Ek.c128 28 v90 q83.1 :: Res.sl Ek.c128 28 v126 q119.1 :: Res.sl Ek.c128 28 v31 q80.2 :: Res.sl Ek.c128 28 v117 q110.1 :: Res.sl Ek.c128 28 v29 q80.1 :: Res.sl Ek.c128 28 v108 q101.1 :: Res.slx Ek.c128 28 (GL.cut v15 0 (((q5.length : Int)).toNat) 1) ((q21 ++ ([] : List (Fl × Fl))).take (((q5.length : Int)).toNat)) ((q21 ++ ([] : List (Fl × Fl))).drop (((q5.length : Int)).toNat)) :: Res.sl Ek.c128 28 v99 q92.1 :: ow) := hp
    refine ⟨_, rfl, ?_⟩
    clear hf; intro a hf
    refine st_not hf (by decide) (wantY hf rfl rfl hb182) rfl ?_
    clear hf; intro a ha hf; clear ha
    obtain rfl := Option.some.inj hz181
    refine st_pick (v := .bool (!q184)) hf rfl rfl (fun hb' => ?_) (fun hb' => ?_) (by decide) ?_
    · exact absurd (hb182.symm.trans hb') (by decide)
    · rfl
    clear hf; intro a ha hf; clear ha
    refine st_nil hf (th_n ?_)
    have hp : Hp _ _ _ (Res.sl Ek.c128 28 v135 q128.1 :: Res.sl Ek.c128 28 v144 q137.1 :: Res.sl Ek.c128 28 v7 q5 :: Res.sl Ek.c128 28 v90 q83.1 :: Res.sl Ek.c128 28 v126 q119.1 :: Res.sl Ek.c128 28 v31 q80.2 :: Res.sl Ek.c128 28 v117 q110.1 :: Res.sl Ek.c128 28 v29 q80.1 :: Res.sl Ek.c128 28 v108 q101.1 :: Res.slx Ek.c128 28 (GL.cut v15 0 (((q5.length : Int)).toNat) 1) ((q21 ++ ([] : List (Fl × Fl))).take (((q5.length : Int)).toNat)) ((q21 ++ ([] : List (Fl × Fl))).drop (((q5.length : Int)).toNat)) :: Res.sl Ek.c128 28 v99 q92.1 :: ow) := Hp.sel (pre := [Res.sl Ek.c128 28 v144 q137.1, Res.sl Ek.c128 28 v7 q5, Res.sl Ek.c128 28 v135 q128.1, Res.sl Ek.c128 28 v90 q83.1, Res.sl Ek.c128 28 v126 q119.1, Res.sl Ek.c128 28 v31 q80.2, Res.sl Ek.c128 28 v117 q110.1, Res.sl Ek.c128 28 v29 q80.1, Res.sl Ek.c128 28 v108 q101.1, Res.slx Ek.c128 28 (GL.cut v15 0 (((q5.length : Int)).toNat) 1) ((q21 ++ ([] : List (Fl × Fl))).take (((q5.length : Int)).toNat)) ((q21 ++ ([] : List (Fl × Fl))).drop (((q5.length : Int)).toNat)), Res.sl Ek.c128 28 v99 q92.1]) (tail := ow) (rs' := [Res.sl Ek.c128 28 v135 q128.1, Res.sl Ek.c128 28 v144 q137.1, Res.sl Ek.c128 28 v7 q5, Res.sl Ek.c128 28 v90 q83.1, Res.sl Ek.c128 28 v126 q119.1, Res.sl Ek.c128 28 v31 q80.2, Res.sl Ek.c128 28 v117 q110.1, Res.sl Ek.c128 28 v29 q80.1, Res.sl Ek.c128 28 v108 q101.1, Res.slx Ek.c128 28 (GL.cut v15 0 (((q5.length : Int)).toNat) 1) ((q21 ++ ([] : List (Fl × Fl))).take (((q5.length : Int)).toNat)) ((q21 ++ ([] : List (Fl × Fl))).drop (((q5.length : Int)).toNat)), Res.sl Ek.c128 28 v99 q92.1]) hp [2, 0, 1, 3, 4, 5, 6, 7, 8, 9, 10] (by decide) (by simp) rfl
    exact ⟨hf.sub ⟨rfl, rfl, rfl, rfl, rfl, rfl, rfl, rfl, trivial⟩, hp⟩
  rintro a w ⟨hf, hp⟩
  refine st_nil hf ?_
  refine th_n ?_
  refine wp_if hf rfl (fun hb => ?_) (fun hb => ?_)
  · replace h := ifT h hb
    refine wp_seq ?_
    refine wp_reg ?_
    refine st_assign hf rfl rfl (by decide) ?_
    clear hf; intro a ha hf; clear ha
    refine st_nil hf ?_
    refine th_n ?_
    refine wp_ret ?_
    refine th_r ?_
    obtain rfl := Option.some.inj h
    have hp : Hp _ _ _ (ow) := Hp.sel (pre := [Res.sl Ek.c128 28 v135 q128.1, Res.sl Ek.c128 28 v144 q137.1, Res.sl Ek.c128 28 v7 q5, Res.sl Ek.c128 28 v90 q83.1, Res.sl Ek.c128 28 v126 q119.1, Res.sl Ek.c128 28 v31 q80.2, Res.sl Ek.c128 28 v117 q110.1, Res.sl Ek.c128 28 v29 q80.1, Res.sl Ek.c128 28 v108 q101.1, Res.slx Ek.c128 28 (GL.cut v15 0 (((q5.length : Int)).toNat) 1) ((q21 ++ ([] : List (Fl × Fl))).take (((q5.length : Int)).toNat)) ((q21 ++ ([] : List (Fl × Fl))).drop (((q5.length : Int)).toNat)), Res.sl Ek.c128 28 v99 q92.1]) (tail := ow) (rs' := []) hp [] (by decide) (by simp) rfl
    exact ⟨rfl, ⟨hf.sub ⟨rfl, trivial⟩, hp⟩⟩
  replace h := ifF h hb
  refine wp_skip ?_
  refine th_n ?_
  refine wp_seq ?_
  refine wp_seq ?_
  refine wp_reg ?_
  refine st_assign hf rfl rfl (by decide) ?_
  clear hf; intro a ha hf; clear ha
  refine st_nil hf ?_
  refine th_n ?_
  refine wp_block ?_
  obtain ⟨q263, hl, h⟩ := bnd h
  have hp : Hp _ _ _ (Res.sl Ek.c128 28 v7 q5 :: Res.sl Ek.c128 28 v90 q83.1 :: Res.sl Ek.c128 28 v99 q92.1 :: Res.sl Ek.c128 28 v108 q101.1 :: Res.sl Ek.c128 28 v117 q110.1 :: ow) := Hp.sel (pre := [Res.sl Ek.c128 28 v135 q128.1, Res.sl Ek.c128 28 v144 q137.1, Res.sl Ek.c128 28 v7 q5, Res.sl Ek.c128 28 v90 q83.1, Res.sl Ek.c128 28 v126 q119.1, Res.sl Ek.c128 28 v31 q80.2, Res.sl Ek.c128 28 v117 q110.1, Res.sl Ek.c128 28 v29 q80.1, Res.sl Ek.c128 28 v108 q101.1, Res.slx Ek.c128 28 (GL.cut v15 0 (((q5.length : Int)).toNat) 1) ((q21 ++ ([] : List (Fl × Fl))).take (((q5.length : Int)).toNat)) ((q21 ++ ([] : List (Fl × Fl))).drop (((q5.length : Int)).toNat)), Res.sl Ek.c128 28 v99 q92.1]) (tail := ow) (rs' := [Res.sl Ek.c128 28 v7 q5, Res.sl Ek.c128 28 v90 q83.1, Res.sl Ek.c128 28 v99 q92.1, Res.sl Ek.c128 28 v108 q101.1, Res.sl Ek.c128 28 v117 q110.1]) hp [2, 3, 10, 8, 6] (by decide) (by simp) rfl
  refine wp_loop_pure (f := (f_foghornlaw09_TonesBack.s3 wx0_N q5 q83 q92 q101 q110)) (s := (0 : Int)) (fun s a w => Fr 266 a [(3, .int .i64 wx0_N), (4, .int .i64 q3), (5, v7), (10, v90), (12, v99), (14, v108), (16, v117), (24, .int .i64 s)] ∧ Hp S w0 w (Res.sl Ek.c128 28 v7 q5 :: Res.sl Ek.c128 28 v90 q83.1 :: Res.sl Ek.c128 28 v99 q92.1 :: Res.sl Ek.c128 28 v108 q101.1 :: Res.sl Ek.c128 28 v117 q110.1 :: ow)) (fun q e a w => match q with | (Sum.inl q) => e = .exit 4 ∧ Fr 266 a [(4, .int .i64 q3), (5, v7), (10, v90)] ∧ Hp S w0 w (Res.sl Ek.c128 28 v7 q5 :: Res.sl Ek.c128 28 v90 q83.1 :: ow) | (Sum.inr q) => e = .ret ∧ Fr 266 a [(2, .bool q)] ∧ Hp S w0 w (ow)) ?_ hl ⟨hf.sub ⟨rfl, rfl, rfl, rfl, rfl, rfl, rfl, rfl, trivial⟩, hp⟩ ?_
  · clear hl hf hp
    intro s x a w h hI
    obtain ⟨qx24, hs⟩ : ∃ z, z = s := ⟨s, rfl⟩; subst hs
    obtain ⟨hf, hp⟩ : Fr 266 a [(3, .int .i64 wx0_N), (4, .int .i64 q3), (5, v7), (10, v90), (12, v99), (14, v108), (16, v117), (24, .int .i64 qx24)] ∧ Hp S w0 w (Res.sl Ek.c128 28 v7 q5 :: Res.sl Ek.c128 28 v90 q83.1 :: Res.sl Ek.c128 28 v99 q92.1 :: Res.sl Ek.c128 28 v108 q101.1 :: Res.sl Ek.c128 28 v117 q110.1 :: ow) := hI
    replace h : f_foghornlaw09_TonesBack.s3c wx0_N q5 q83 q92 q101 q110 qx24 = some x := h
    unfold f_foghornlaw09_TonesBack.s3c at h
    refine wp_seq ?_
    refine wp_seq ?_
    refine wp_reg ?_
    refine st_move hf rfl rfl (by decide) ?_
    clear hf; intro a ha hf; clear ha
    refine st_move hf rfl rfl (by decide) ?_
    clear hf; intro a ha hf; clear ha
    refine st_len (E := Ek.c128) hf (by decide) Try.underlying26 rfl rfl (hp.sl (i := 0) rfl) ?_
    clear hf; intro a ha hf; clear ha
    refine st_ilss hf (by decide) rfl rfl rfl ?_
    clear hf; intro a ha hf; clear ha
    refine st_nil hf ?_
    refine th_n ?_
    refine wp_if hf rfl (fun hb => ?_) (fun hb => ?_)
    · replace h := ifT h hb
      refine wp_skip ?_
      refine th_n ?_
      refine wp_seq ?_
      refine wp_block ?_
      refine wp_seq ?_
      obtain ⟨S196, hp197, rd198, up199, bk200⟩ := Hp.lendS hp (i := 3) rfl
      obtain ⟨S201, hp202, rd203, up204, bk205⟩ := Hp.lendS hp197 (i := 1) rfl
      obtain ⟨S206, hp207, rd208, up209, bk210⟩ := Hp.lendS hp202 (i := 1) rfl
      obtain ⟨S211, hp212, rd213, up214, bk215⟩ := Hp.lendS hp207 (i := 1) rfl
      have rl216 := ((((rd203.now hp202).mono up209).now hp207).mono up214)
      have rl217 := ((rd208.now hp207).mono up214)
      have rl218 := ((((((rd198.now hp197).mono up204).now hp202).mono up209).now hp207).mono up214)
      have rl219 := rd213
      obtain ⟨hc220, h⟩ := chk h
      obtain ⟨bb222, bb223, y224, y225, hl221⟩ := RdS.pinC (p := qx24) rl218 hc220.1 hc220.2
      obtain ⟨hc226, h⟩ := chk h
      obtain ⟨bb228, bb229, y230, y231, hl227⟩ := RdS.pinC (p := qx24) rl216 hc226.1 hc226.2
      obtain ⟨hc232, h⟩ := chk h
      obtain ⟨bb234, bb235, y236, y237, hl233⟩ := RdS.pinC (p := qx24) rl217 hc232.1 hc232.2
      obtain ⟨z262, hz242, h⟩ := bnd h
      refine wp_cutN (fun a w => Fr 266 a [(3, .int .i64 wx0_N), (4, .int .i64 q3), (5, v7), (10, v90), (12, v99), (14, v108), (16, v117), (24, .int .i64 qx24), (223, .bool z262)] ∧ Hp S w0 w (Res.sl Ek.c128 28 v108 q101.1 :: Res.sl Ek.c128 28 v90 q83.1 :: Res.sl Ek.c128 28 v99 q92.1 :: Res.sl Ek.c128 28 v117 q110.1 :: Res.sl Ek.c128 28 v7 q5 :: ow)) ?_ ?_
      · have hp := hp212.same (Same.drew w)
        rcases Bool.eq_false_or_eq_true (!ceq (gt q101.1 qx24) (cadd (gt q83.1 qx24) (gt q92.1 qx24))) with hb243 | hb243
        · skip
          replace hz242 := ifT hz242 hb243
          replace hz242 := Option.some.inj hz242
          refine dr_begin' (fun a w => Fr 266 a [(3, .int .i64 wx0_N), (4, .int .i64 q3), (5, v7), (10, v90), (12, v99), (14, v108), (16, v117), (24, .int .i64 qx24), (223, .bool z262)] ∧ Hp S w0 w (Res.sl Ek.c128 28 v108 q101.1 :: Res.sl Ek.c128 28 v90 q83.1 :: Res.sl Ek.c128 28 v99 q92.1 :: Res.sl Ek.c128 28 v117 q110.1 :: Res.sl Ek.c128 28 v7 q5 :: ow)) (fun w' => ∃ l, Hp S211 w w' l) [] (by kernel_rfl) ?_
          refine dr_take 0 (v108) rfl (by kernel_rfl) (by kernel_rfl) (by kernel_rfl) (by kernel_rfl) rfl rfl hf (by decide) rfl (fun w hp => ?_) ⟨_, hp⟩ ?_
          · obtain ⟨_, hp⟩ := hp
            refine st_move hf rfl rfl (by decide) ?_
            clear hf; intro a ha hf
            exact st_nil hf (th_n ⟨ha, rfl⟩)
          clear hf; intro a hf
          refine dr_take 1 (.int .i64 qx24) rfl (by kernel_rfl) (by kernel_rfl) (by kernel_rfl) (by kernel_rfl) rfl rfl hf (by decide) rfl (fun w hp => ?_) ⟨_, hp⟩ ?_
          · obtain ⟨_, hp⟩ := hp
            refine st_move hf rfl rfl (by decide) ?_
            clear hf; intro a ha hf
            exact st_nil hf (th_n ⟨ha, rfl⟩)
          clear hf; intro a hf
          refine dr_take 2 (eptr v108 qx24 1) rfl (by kernel_rfl) (by kernel_rfl) (by kernel_rfl) (by kernel_rfl) rfl rfl hf (by decide) rfl (fun w hp => ?_) ⟨_, hp⟩ ?_
          · obtain ⟨_, hp⟩ := hp
            refine st_index (E := Ek.c128) hf (by decide) Try.underlying26 elt28 rfl rfl rfl (rl218.sl hp) hc220.1 hc220.2 ?_
            clear hf; intro a ha hf
            exact st_nil hf (th_n ⟨ha, rfl⟩)
          clear hf; intro a hf
          refine dr_take 3 (.complex .f64 bb222 bb223) rfl (by kernel_rfl) (by kernel_rfl) (by kernel_rfl) (by kernel_rfl) rfl rfl hf (by decide) rfl (fun w hp => ?_) ⟨_, hp⟩ ?_
          · obtain ⟨_, hp⟩ := hp
            refine st_ldP hf (by decide) pl28 rfl rfl (hl221 _ _ hp) ?_
            clear hf; intro a ha hf
            exact st_nil hf (th_n ⟨ha, rfl⟩)
          clear hf; intro a hf
          refine dr_take 4 (v90) rfl (by kernel_rfl) (by kernel_rfl) (by kernel_rfl) (by kernel_rfl) rfl rfl hf (by decide) rfl (fun w hp => ?_) ⟨_, hp⟩ ?_
          · obtain ⟨_, hp⟩ := hp
            refine st_move hf rfl rfl (by decide) ?_
            clear hf; intro a ha hf
            exact st_nil hf (th_n ⟨ha, rfl⟩)
          clear hf; intro a hf
          refine dr_take 5 (.int .i64 qx24) rfl (by kernel_rfl) (by kernel_rfl) (by kernel_rfl) (by kernel_rfl) rfl rfl hf (by decide) rfl (fun w hp => ?_) ⟨_, hp⟩ ?_
          · obtain ⟨_, hp⟩ := hp
            refine st_move hf rfl rfl (by decide) ?_
            clear hf; intro a ha hf
            exact st_nil hf (th_n ⟨ha, rfl⟩)
          clear hf; intro a hf
          refine dr_take 6 (eptr v90 qx24 1) rfl (by kernel_rfl) (by kernel_rfl) (by kernel_rfl) (by kernel_rfl) rfl rfl hf (by decide) rfl (fun w hp => ?_) ⟨_, hp⟩ ?_
          · obtain ⟨_, hp⟩ := hp
            refine st_index (E := Ek.c128) hf (by decide) Try.underlying26 elt28 rfl rfl rfl (rl216.sl hp) hc226.1 hc226.2 ?_
            clear hf; intro a ha hf
            exact st_nil hf (th_n ⟨ha, rfl⟩)
          clear hf; intro a hf
          refine dr_take 7 (.complex .f64 bb228 bb229) rfl (by kernel_rfl) (by kernel_rfl) (by kernel_rfl) (by kernel_rfl) rfl rfl hf (by decide) rfl (fun w hp => ?_) ⟨_, hp⟩ ?_
          · obtain ⟨_, hp⟩ := hp
            refine st_ldP hf (by decide) pl28 rfl rfl (hl227 _ _ hp) ?_
            clear hf; intro a ha hf
            exact st_nil hf (th_n ⟨ha, rfl⟩)
          clear hf; intro a hf
          refine dr_take 8 (v99) rfl (by kernel_rfl) (by kernel_rfl) (by kernel_rfl) (by kernel_rfl) rfl rfl hf (by decide) rfl (fun w hp => ?_) ⟨_, hp⟩ ?_
          · obtain ⟨_, hp⟩ := hp
            refine st_move hf rfl rfl (by decide) ?_
            clear hf; intro a ha hf
            exact st_nil hf (th_n ⟨ha, rfl⟩)
          clear hf; intro a hf
          refine dr_take 9 (.int .i64 qx24) rfl (by kernel_rfl) (by kernel_rfl) (by kernel_rfl) (by kernel_rfl) rfl rfl hf (by decide) rfl (fun w hp => ?_) ⟨_, hp⟩ ?_
          · obtain ⟨_, hp⟩ := hp
            refine st_move hf rfl rfl (by decide) ?_
            clear hf; intro a ha hf
            exact st_nil hf (th_n ⟨ha, rfl⟩)
          clear hf; intro a hf
          refine dr_take 10 (eptr v99 qx24 1) rfl (by kernel_rfl) (by kernel_rfl) (by kernel_rfl) (by kernel_rfl) rfl rfl hf (by decide) rfl (fun w hp => ?_) ⟨_, hp⟩ ?_
          · obtain ⟨_, hp⟩ := hp
            refine st_index (E := Ek.c128) hf (by decide) Try.underlying26 elt28 rfl rfl rfl (rl217.sl hp) hc232.1 hc232.2 ?_
            clear hf; intro a ha hf
            exact st_nil hf (th_n ⟨ha, rfl⟩)
          clear hf; intro a hf
          refine dr_take 11 (.complex .f64 bb234 bb235) rfl (by kernel_rfl) (by kernel_rfl) (by kernel_rfl) (by kernel_rfl) rfl rfl hf (by decide) rfl (fun w hp => ?_) ⟨_, hp⟩ ?_
          · obtain ⟨_, hp⟩ := hp
            refine st_ldP hf (by decide) pl28 rfl rfl (hl233 _ _ hp) ?_
            clear hf; intro a ha hf
            exact st_nil hf (th_n ⟨ha, rfl⟩)
          clear hf; intro a hf
          refine dr_one 12 rfl (by kernel_rfl) ?_
          refine st_carith (op := .add) (zx := (gt q83.1 qx24)) (zy := (gt q92.1 qx24)) rfl hf (by decide) hp rfl rfl rfl y230 y231 y236 y237 ?_
          clear hf; intro a w bb238 bb239 y240 y241 hf hp0; clear hp; have hp := hp0; clear hp0
          replace hp : Hp _ _ _ (Res.sl Ek.c128 28 v7 q5 :: ow) := hp
          refine st_nil hf (th_n ⟨fun _ _ => ⟨_, hp⟩, ?_⟩)
          refine dr_take 13 (.bool (!ceq (gt q101.1 qx24) (cadd (gt q83.1 qx24) (gt q92.1 qx24)))) rfl (by kernel_rfl) (by kernel_rfl) (by kernel_rfl) (by kernel_rfl) rfl rfl hf (by decide) rfl (fun w hp => ?_) ⟨_, hp⟩ ?_
          · obtain ⟨_, hp⟩ := hp
            refine st_ccmp (r_cne (x := (gt q101.1 qx24)) (y := (cadd (gt q83.1 qx24) (gt q92.1 qx24))) y224 y225 y240 y241) hf (by decide) rfl rfl rfl ?_
            clear hf; intro a ha hf
            exact st_nil hf (th_n ⟨ha, rfl⟩)
          clear hf; intro a hf
          refine dr_take 14 (.bool (!ceq (gt q101.1 qx24) (cadd (gt q83.1 qx24) (gt q92.1 qx24)))) rfl (by kernel_rfl) (by kernel_rfl) (by kernel_rfl) (by kernel_rfl) rfl rfl hf (by decide) rfl (fun w hp => ?_) ⟨_, hp⟩ ?_
          · obtain ⟨_, hp⟩ := hp
            refine st_move hf rfl rfl (by decide) ?_
            clear hf; intro a ha hf
            exact st_nil hf (th_n ⟨ha, rfl⟩)
          clear hf; intro a hf
          refine dr_out 15 rfl (by kernel_rfl) (by kernel_rfl) (by kernel_rfl) (by kernel_rfl) rfl hf (by decide) rfl (wantN hf rfl rfl hb243) ⟨_, hp⟩ ?_
          clear hf; intro a hf
          refine dr_out 16 rfl (by kernel_rfl) (by kernel_rfl) (by kernel_rfl) (by kernel_rfl) rfl hf (by decide) rfl (wantN hf rfl rfl hb243) ⟨_, hp⟩ ?_
          clear hf; intro a hf
          refine dr_out 17 rfl (by kernel_rfl) (by kernel_rfl) (by kernel_rfl) (by kernel_rfl) rfl hf (by decide) rfl (wantN hf rfl rfl hb243) ⟨_, hp⟩ ?_
          clear hf; intro a hf
          refine dr_out 18 rfl (by kernel_rfl) (by kernel_rfl) (by kernel_rfl) (by kernel_rfl) rfl hf (by decide) rfl (wantN hf rfl rfl hb243) ⟨_, hp⟩ ?_
          clear hf; intro a hf
          refine dr_out 19 rfl (by kernel_rfl) (by kernel_rfl) (by kernel_rfl) (by kernel_rfl) rfl hf (by decide) rfl (wantN hf rfl rfl hb243) ⟨_, hp⟩ ?_
          clear hf; intro a hf
          refine dr_out 20 rfl (by kernel_rfl) (by kernel_rfl) (by kernel_rfl) (by kernel_rfl) rfl hf (by decide) rfl (wantN hf rfl rfl hb243) ⟨_, hp⟩ ?_
          clear hf; intro a hf
          refine dr_out 21 rfl (by kernel_rfl) (by kernel_rfl) (by kernel_rfl) (by kernel_rfl) rfl hf (by decide) rfl (wantN hf rfl rfl hb243) ⟨_, hp⟩ ?_
          clear hf; intro a hf
          refine dr_out 22 rfl (by kernel_rfl) (by kernel_rfl) (by kernel_rfl) (by kernel_rfl) rfl hf (by decide) rfl (wantN hf rfl rfl hb243) ⟨_, hp⟩ ?_
          clear hf; intro a hf
          refine dr_out 23 rfl (by kernel_rfl) (by kernel_rfl) (by kernel_rfl) (by kernel_rfl) rfl hf (by decide) rfl (wantN hf rfl rfl hb243) ⟨_, hp⟩ ?_
          clear hf; intro a hf
          refine dr_out 24 rfl (by kernel_rfl) (by kernel_rfl) (by kernel_rfl) (by kernel_rfl) rfl hf (by decide) rfl (wantN hf rfl rfl hb243) ⟨_, hp⟩ ?_
          clear hf; intro a hf
          refine dr_out 25 rfl (by kernel_rfl) (by kernel_rfl) (by kernel_rfl) (by kernel_rfl) rfl hf (by decide) rfl (wantN hf rfl rfl hb243) ⟨_, hp⟩ ?_
          clear hf; intro a hf
          refine dr_take 26 (.bool z262) rfl (by kernel_rfl) (by kernel_rfl) (by kernel_rfl) (by kernel_rfl) rfl rfl hf (by decide) rfl (fun w hp => ?_) ⟨_, hp⟩ ?_
          · obtain ⟨_, hp⟩ := hp
            refine st_pick (v := .bool z262) hf rfl rfl (fun _ => by rw [← hz242]; rfl) (fun hb' => absurd (hb243.symm.trans hb') (by decide)) (by decide) ?_
            clear hf; intro a ha hf
            exact st_nil hf (th_n ⟨ha, rfl⟩)
          clear hf; intro a hf
          refine dr_end (by kernel_rfl) ?_ _
          have hp := bk215 _ _ hp
          have hp := bk210 _ _ hp
          have hp := bk205 _ _ hp
          have hp := bk200 _ _ hp
          exact ⟨hf.sub ⟨rfl, rfl, rfl, rfl, rfl, rfl, rfl, rfl, rfl, trivial⟩, hp⟩
        skip
        replace hz242 := ifF hz242 hb243
        obtain ⟨hc244, hz242⟩ := chk hz242
        obtain ⟨bb246, bb247, y248, y249, hl245⟩ := RdS.pinC (p := qx24) rl219 hc244.1 hc244.2
        obtain ⟨hc250, hz242⟩ := chk hz242
        obtain ⟨bb252, bb253, y254, y255, hl251⟩ := RdS.pinC (p := qx24) rl216 hc250.1 hc250.2
        obtain ⟨q256, hcall257, hz242⟩ := bnd hz242
        replace hz242 := Option.some.inj hz242
        refine dr_begin' (fun a w => Fr 266 a [(3, .int .i64 wx0_N), (4, .int .i64 q3), (5, v7), (10, v90), (12, v99), (14, v108), (16, v117), (24, .int .i64 qx24), (223, .bool z262)] ∧ Hp S w0 w (Res.sl Ek.c128 28 v108 q101.1 :: Res.sl Ek.c128 28 v90 q83.1 :: Res.sl Ek.c128 28 v99 q92.1 :: Res.sl Ek.c128 28 v117 q110.1 :: Res.sl Ek.c128 28 v7 q5 :: ow)) (fun w' => ∃ l, Hp S211 w w' l) [] (by kernel_rfl) ?_
        refine dr_take 0 (v108) rfl (by kernel_rfl) (by kernel_rfl) (by kernel_rfl) (by kernel_rfl) rfl rfl hf (by decide) rfl (fun w hp => ?_) ⟨_, hp⟩ ?_
        · obtain ⟨_, hp⟩ := hp
          refine st_move hf rfl rfl (by decide) ?_
          clear hf; intro a ha hf
          exact st_nil hf (th_n ⟨ha, rfl⟩)
        clear hf; intro a hf
        refine dr_take 1 (.int .i64 qx24) rfl (by kernel_rfl) (by kernel_rfl) (by kernel_rfl) (by kernel_rfl) rfl rfl hf (by decide) rfl (fun w hp => ?_) ⟨_, hp⟩ ?_
        · obtain ⟨_, hp⟩ := hp
          refine st_move hf rfl rfl (by decide) ?_
          clear hf; intro a ha hf
          exact st_nil hf (th_n ⟨ha, rfl⟩)
        clear hf; intro a hf
        refine dr_take 2 (eptr v108 qx24 1) rfl (by kernel_rfl) (by kernel_rfl) (by kernel_rfl) (by kernel_rfl) rfl rfl hf (by decide) rfl (fun w hp => ?_) ⟨_, hp⟩ ?_
        · obtain ⟨_, hp⟩ := hp
          refine st_index (E := Ek.c128) hf (by decide) Try.underlying26 elt28 rfl rfl rfl (rl218.sl hp) hc220.1 hc220.2 ?_
          clear hf; intro a ha hf
          exact st_nil hf (th_n ⟨ha, rfl⟩)
        clear hf; intro a hf
        refine dr_take 3 (.complex .f64 bb222 bb223) rfl (by kernel_rfl) (by kernel_rfl) (by kernel_rfl) (by kernel_rfl) rfl rfl hf (by decide) rfl (fun w hp => ?_) ⟨_, hp⟩ ?_
        · obtain ⟨_, hp⟩ := hp
          refine st_ldP hf (by decide) pl28 rfl rfl (hl221 _ _ hp) ?_
          clear hf; intro a ha hf
          exact st_nil hf (th_n ⟨ha, rfl⟩)
        clear hf; intro a hf
        refine dr_take 4 (v90) rfl (by kernel_rfl) (by kernel_rfl) (by kernel_rfl) (by kernel_rfl) rfl rfl hf (by decide) rfl (fun w hp => ?_) ⟨_, hp⟩ ?_
        · obtain ⟨_, hp⟩ := hp
          refine st_move hf rfl rfl (by decide) ?_
          clear hf; intro a ha hf
          exact st_nil hf (th_n ⟨ha, rfl⟩)
        clear hf; intro a hf
        refine dr_take 5 (.int .i64 qx24) rfl (by kernel_rfl) (by kernel_rfl) (by kernel_rfl) (by kernel_rfl) rfl rfl hf (by decide) rfl (fun w hp => ?_) ⟨_, hp⟩ ?_
        · obtain ⟨_, hp⟩ := hp
          refine st_move hf rfl rfl (by decide) ?_
          clear hf; intro a ha hf
          exact st_nil hf (th_n ⟨ha, rfl⟩)
        clear hf; intro a hf
        refine dr_take 6 (eptr v90 qx24 1) rfl (by kernel_rfl) (by kernel_rfl) (by kernel_rfl) (by kernel_rfl) rfl rfl hf (by decide) rfl (fun w hp => ?_) ⟨_, hp⟩ ?_
        · obtain ⟨_, hp⟩ := hp
          refine st_index (E := Ek.c128) hf (by decide) Try.underlying26 elt28 rfl rfl rfl (rl216.sl hp) hc226.1 hc226.2 ?_
          clear hf; intro a ha hf
          exact st_nil hf (th_n ⟨ha, rfl⟩)
        clear hf; intro a hf
        refine dr_take 7 (.complex .f64 bb228 bb229) rfl (by kernel_rfl) (by kernel_rfl) (by kernel_rfl) (by kernel_rfl) rfl rfl hf (by decide) rfl (fun w hp => ?_) ⟨_, hp⟩ ?_
        · obtain ⟨_, hp⟩ := hp
          refine st_ldP hf (by decide) pl28 rfl rfl (hl227 _ _ hp) ?_
          clear hf; intro a ha hf
          exact st_nil hf (th_n ⟨ha, rfl⟩)
        clear hf; intro a hf
        refine dr_take 8 (v99) rfl (by kernel_rfl) (by kernel_rfl) (by kernel_rfl) (by kernel_rfl) rfl rfl hf (by decide) rfl (fun w hp => ?_) ⟨_, hp⟩ ?_
        · obtain ⟨_, hp⟩ := hp
          refine st_move hf rfl rfl (by decide) ?_
          clear hf; intro a ha hf
          exact st_nil hf (th_n ⟨ha, rfl⟩)
        clear hf; intro a hf
        refine dr_take 9 (.int .i64 qx24) rfl (by kernel_rfl) (by kernel_rfl) (by kernel_rfl) (by kernel_rfl) rfl rfl hf (by decide) rfl (fun w hp => ?_) ⟨_, hp⟩ ?_
        · obtain ⟨_, hp⟩ := hp
          refine st_move hf rfl rfl (by decide) ?_
          clear hf; intro a ha hf
          exact st_nil hf (th_n ⟨ha, rfl⟩)
        clear hf; intro a hf
        refine dr_take 10 (eptr v99 qx24 1) rfl (by kernel_rfl) (by kernel_rfl) (by kernel_rfl) (by kernel_rfl) rfl rfl hf (by decide) rfl (fun w hp => ?_) ⟨_, hp⟩ ?_
        · obtain ⟨_, hp⟩ := hp
          refine st_index (E := Ek.c128) hf (by decide) Try.underlying26 elt28 rfl rfl rfl (rl217.sl hp) hc232.1 hc232.2 ?_
          clear hf; intro a ha hf
          exact st_nil hf (th_n ⟨ha, rfl⟩)
        clear hf; intro a hf
        refine dr_take 11 (.complex .f64 bb234 bb235) rfl (by kernel_rfl) (by kernel_rfl) (by kernel_rfl) (by kernel_rfl) rfl rfl hf (by decide) rfl (fun w hp => ?_) ⟨_, hp⟩ ?_
        · obtain ⟨_, hp⟩ := hp
          refine st_ldP hf (by decide) pl28 rfl rfl (hl233 _ _ hp) ?_
          clear hf; intro a ha hf
          exact st_nil hf (th_n ⟨ha, rfl⟩)
        clear hf; intro a hf
        refine dr_one 12 rfl (by kernel_rfl) ?_
        refine st_carith (op := .add) (zx := (gt q83.1 qx24)) (zy := (gt q92.1 qx24)) rfl hf (by decide) hp rfl rfl rfl y230 y231 y236 y237 ?_
        clear hf; intro a w bb238 bb239 y240 y241 hf hp0; clear hp; have hp := hp0; clear hp0
        replace hp : Hp _ _ _ (Res.sl Ek.c128 28 v7 q5 :: ow) := hp
        refine st_nil hf (th_n ⟨fun _ _ => ⟨_, hp⟩, ?_⟩)
        refine dr_take 13 (.bool (!ceq (gt q101.1 qx24) (cadd (gt q83.1 qx24) (gt q92.1 qx24)))) rfl (by kernel_rfl) (by kernel_rfl) (by kernel_rfl) (by kernel_rfl) rfl rfl hf (by decide) rfl (fun w hp => ?_) ⟨_, hp⟩ ?_
        · obtain ⟨_, hp⟩ := hp
          refine st_ccmp (r_cne (x := (gt q101.1 qx24)) (y := (cadd (gt q83.1 qx24) (gt q92.1 qx24))) y224 y225 y240 y241) hf (by decide) rfl rfl rfl ?_
          clear hf; intro a ha hf
          exact st_nil hf (th_n ⟨ha, rfl⟩)
        clear hf; intro a hf
        refine dr_take 14 (.bool (!ceq (gt q101.1 qx24) (cadd (gt q83.1 qx24) (gt q92.1 qx24)))) rfl (by kernel_rfl) (by kernel_rfl) (by kernel_rfl) (by kernel_rfl) rfl rfl hf (by decide) rfl (fun w hp => ?_) ⟨_, hp⟩ ?_
        · obtain ⟨_, hp⟩ := hp
          refine st_move hf rfl rfl (by decide) ?_
          clear hf; intro a ha hf
          exact st_nil hf (th_n ⟨ha, rfl⟩)
        clear hf; intro a hf
        refine dr_take 15 (v117) rfl (by kernel_rfl) (by kernel_rfl) (by kernel_rfl) (by kernel_rfl) rfl rfl hf (by decide) (wantY hf rfl rfl hb243) (fun w hp => ?_) ⟨_, hp⟩ ?_
        · obtain ⟨_, hp⟩ := hp
          refine st_move hf (wantY hf rfl rfl hb243) rfl (by decide) ?_
          clear hf; intro a ha hf
          exact st_nil hf (th_n ⟨ha, rfl⟩)
        clear hf; intro a hf
        refine dr_take 16 (.int .i64 qx24) rfl (by kernel_rfl) (by kernel_rfl) (by kernel_rfl) (by kernel_rfl) rfl rfl hf (by decide) (wantY hf rfl rfl hb243) (fun w hp => ?_) ⟨_, hp⟩ ?_
        · obtain ⟨_, hp⟩ := hp
          refine st_move hf (wantY hf rfl rfl hb243) rfl (by decide) ?_
          clear hf; intro a ha hf
          exact st_nil hf (th_n ⟨ha, rfl⟩)
        clear hf; intro a hf
        refine dr_take 17 (eptr v117 qx24 1) rfl (by kernel_rfl) (by kernel_rfl) (by kernel_rfl) (by kernel_rfl) rfl rfl hf (by decide) (wantY hf rfl rfl hb243) (fun w hp => ?_) ⟨_, hp⟩ ?_
        · obtain ⟨_, hp⟩ := hp
          refine st_index (E := Ek.c128) hf (by decide) Try.underlying26 elt28 (wantY hf rfl rfl hb243) rfl rfl (rl219.sl hp) hc244.1 hc244.2 ?_
          clear hf; intro a ha hf
          exact st_nil hf (th_n ⟨ha, rfl⟩)
        clear hf; intro a hf
        refine dr_take 18 (.complex .f64 bb246 bb247) rfl (by kernel_rfl) (by kernel_rfl) (by kernel_rfl) (by kernel_rfl) rfl rfl hf (by decide) (wantY hf rfl rfl hb243) (fun w hp => ?_) ⟨_, hp⟩ ?_
        · obtain ⟨_, hp⟩ := hp
          refine st_ldP hf (by decide) pl28 (wantY hf rfl rfl hb243) rfl (hl245 _ _ hp) ?_
          clear hf; intro a ha hf
          exact st_nil hf (th_n ⟨ha, rfl⟩)
        clear hf; intro a hf
        refine dr_take 19 (v90) rfl (by kernel_rfl) (by kernel_rfl) (by kernel_rfl) (by kernel_rfl) rfl rfl hf (by decide) (wantY hf rfl rfl hb243) (fun w hp => ?_) ⟨_, hp⟩ ?_
        · obtain ⟨_, hp⟩ := hp
          refine st_move hf (wantY hf rfl rfl hb243) rfl (by decide) ?_
          clear hf; intro a ha hf
          exact st_nil hf (th_n ⟨ha, rfl⟩)
        clear hf; intro a hf
        refine dr_take 20 (.int .i64 qx24) rfl (by kernel_rfl) (by kernel_rfl) (by kernel_rfl) (by kernel_rfl) rfl rfl hf (by decide) (wantY hf rfl rfl hb243) (fun w hp => ?_) ⟨_, hp⟩ ?_
        · obtain ⟨_, hp⟩ := hp
          refine st_move hf (wantY hf rfl rfl hb243) rfl (by decide) ?_
          clear hf; intro a ha hf
          exact st_nil hf (th_n ⟨ha, rfl⟩)
        clear hf; intro a hf
        refine dr_take 21 (eptr v90 qx24 1) rfl (by kernel_rfl) (by kernel_rfl) (by kernel_rfl) (by kernel_rfl) rfl rfl hf (by decide) (wantY hf rfl rfl hb243) (fun w hp => ?_) ⟨_, hp⟩ ?_
        · obtain ⟨_, hp⟩ := hp
          refine st_index (E := Ek.c128) hf (by decide) Try.underlying26 elt28 (wantY hf rfl rfl hb243) rfl rfl (rl216.sl hp) hc250.1 hc250.2 ?_
          clear hf; intro a ha hf
          exact st_nil hf (th_n ⟨ha, rfl⟩)
        clear hf; intro a hf
        refine dr_take 22 (.complex .f64 bb252 bb253) rfl (by kernel_rfl) (by kernel_rfl) (by kernel_rfl) (by kernel_rfl) rfl rfl hf (by decide) (wantY hf rfl rfl hb243) (fun w hp => ?_) ⟨_, hp⟩ ?_
        · obtain ⟨_, hp⟩ := hp
          refine st_ldP hf (by decide) pl28 (wantY hf rfl rfl hb243) rfl (hl251 _ _ hp) ?_
          clear hf; intro a ha hf
          exact st_nil hf (th_n ⟨ha, rfl⟩)
        clear hf; intro a hf
        refine dr_take 23 (.int .i64 wx0_N) rfl (by kernel_rfl) (by kernel_rfl) (by kernel_rfl) (by kernel_rfl) rfl rfl hf (by decide) (wantY hf rfl rfl hb243) (fun w hp => ?_) ⟨_, hp⟩ ?_
        · obtain ⟨_, hp⟩ := hp
          refine st_move hf (wantY hf rfl rfl hb243) rfl (by decide) ?_
          clear hf; intro a ha hf
          exact st_nil hf (th_n ⟨ha, rfl⟩)
        clear hf; intro a hf
        refine dr_one 24 rfl (by kernel_rfl) ?_
        refine st_call hf (by decide) Try.func8 rfl rfl (wantY hf rfl rfl hb243) rfl rfl (f_plane_Turn_c hp _ _ _ (show Fl.rep bb252 ((gt q83.1 qx24)).1 from y254) (show Fl.rep bb253 ((gt q83.1 qx24)).2 from y255) _ hcall257) ?_
        rintro _ w ⟨v258, v259, rfl, y260, y261, hp0⟩
        clear hp; have hp := hp0; clear hp0
        replace hp : Hp _ _ _ (Res.sl Ek.c128 28 v7 q5 :: ow) := hp
        refine ⟨_, rfl, ?_⟩
        clear hf; intro a hf
        refine st_nil hf (th_n ⟨fun _ _ => ⟨_, hp⟩, ?_⟩)
        refine dr_take 25 (.bool (!ceq (gt q110.1 qx24) q256)) rfl (by kernel_rfl) (by kernel_rfl) (by kernel_rfl) (by kernel_rfl) rfl rfl hf (by decide) (wantY hf rfl rfl hb243) (fun w hp => ?_) ⟨_, hp⟩ ?_
        · obtain ⟨_, hp⟩ := hp
          refine st_ccmp (r_cne (x := (gt q110.1 qx24)) (y := q256) y248 y249 y260 y261) hf (by decide) (wantY hf rfl rfl hb243) rfl rfl ?_
          clear hf; intro a ha hf
          exact st_nil hf (th_n ⟨ha, rfl⟩)
        clear hf; intro a hf
        refine dr_take 26 (.bool z262) rfl (by kernel_rfl) (by kernel_rfl) (by kernel_rfl) (by kernel_rfl) rfl rfl hf (by decide) rfl (fun w hp => ?_) ⟨_, hp⟩ ?_
        · obtain ⟨_, hp⟩ := hp
          refine st_pick (v := .bool z262) hf rfl rfl (fun hb' => absurd (hb243.symm.trans hb') (by decide)) (fun _ => by rw [← hz242]; rfl) (by decide) ?_
          clear hf; intro a ha hf
          exact st_nil hf (th_n ⟨ha, rfl⟩)
        clear hf; intro a hf
        refine dr_end (by kernel_rfl) ?_ _
        have hp := bk215 _ _ hp
        have hp := bk210 _ _ hp
        have hp := bk205 _ _ hp
        have hp := bk200 _ _ hp
        exact ⟨hf.sub ⟨rfl, rfl, rfl, rfl, rfl, rfl, rfl, rfl, rfl, trivial⟩, hp⟩
      rintro a w ⟨hf, hp⟩
      refine th_n ?_
      refine wp_if hf rfl (fun hb => ?_) (fun hb => ?_)
      · replace h := ifT h hb
        refine wp_seq ?_
        refine wp_reg ?_
        refine st_assign hf rfl rfl (by decide) ?_
        clear hf; intro a ha hf; clear ha
        refine st_nil hf ?_
        refine th_n ?_
        refine wp_ret ?_
        refine ib_r ?_
        refine th_r ?_
        obtain rfl := Option.some.inj h
        have hp : Hp _ _ _ (ow) := Hp.sel (pre := [Res.sl Ek.c128 28 v108 q101.1, Res.sl Ek.c128 28 v90 q83.1, Res.sl Ek.c128 28 v99 q92.1, Res.sl Ek.c128 28 v117 q110.1, Res.sl Ek.c128 28 v7 q5]) (tail := ow) (rs' := []) hp [] (by decide) (by simp) rfl
        exact rnd_r (by simp) ⟨rfl, ⟨hf.sub ⟨rfl, trivial⟩, hp⟩⟩
      replace h := ifF h hb
      refine wp_skip ?_
      refine ib_n ?_
      refine th_n ?_
      refine wp_reg ?_
      refine st_move hf rfl rfl (by decide) ?_
      clear hf; intro a ha hf; clear ha
      refine st_iadd hf (by decide) rfl rfl rfl ?_
      clear hf; intro a ha hf; clear ha
      refine st_assign hf rfl rfl (by decide) ?_
      clear hf; intro a ha hf; clear ha
      refine st_nil hf ?_
      obtain rfl := Option.some.inj h
      have hp : Hp _ _ _ (Res.sl Ek.c128 28 v7 q5 :: Res.sl Ek.c128 28 v90 q83.1 :: Res.sl Ek.c128 28 v99 q92.1 :: Res.sl Ek.c128 28 v108 q101.1 :: Res.sl Ek.c128 28 v117 q110.1 :: ow) := Hp.sel (pre := [Res.sl Ek.c128 28 v108 q101.1, Res.sl Ek.c128 28 v90 q83.1, Res.sl Ek.c128 28 v99 q92.1, Res.sl Ek.c128 28 v117 q110.1, Res.sl Ek.c128 28 v7 q5]) (tail := ow) (rs' := [Res.sl Ek.c128 28 v7 q5, Res.sl Ek.c128 28 v90 q83.1, Res.sl Ek.c128 28 v99 q92.1, Res.sl Ek.c128 28 v108 q101.1, Res.sl Ek.c128 28 v117 q110.1]) hp [4, 1, 2, 0, 3] (by decide) (by simp) rfl
      exact rnd_l ⟨hf.sub ⟨rfl, rfl, rfl, rfl, rfl, rfl, rfl, rfl, trivial⟩, hp⟩
    replace h := ifF h hb
    refine wp_exit ?_
    refine th_e ?_
    obtain rfl := Option.some.inj h
    have hp : Hp _ _ _ (Res.sl Ek.c128 28 v7 q5 :: Res.sl Ek.c128 28 v90 q83.1 :: ow) := Hp.sel (pre := [Res.sl Ek.c128 28 v7 q5, Res.sl Ek.c128 28 v90 q83.1, Res.sl Ek.c128 28 v99 q92.1, Res.sl Ek.c128 28 v108 q101.1, Res.sl Ek.c128 28 v117 q110.1]) (tail := ow) (rs' := [Res.sl Ek.c128 28 v7 q5, Res.sl Ek.c128 28 v90 q83.1]) hp [0, 1] (by decide) (by simp) rfl
    exact rnd_r (by simp) ⟨rfl, hf.sub ⟨rfl, rfl, rfl, trivial⟩, hp⟩
  clear hl hf hp
  intro e a w hne hO
  rcases q263 with q264 | q265
  · replace h := smL h
    obtain ⟨rfl, hf, hp⟩ := hO
    refine ib_same ?_
    refine th_n ?_
    refine wp_seq ?_
    refine wp_reg ?_
    refine st_move hf rfl rfl (by decide) ?_
    clear hf; intro a ha hf; clear ha
    refine st_imul hf (by decide) rfl rfl rfl ?_
    clear hf; intro a ha hf; clear ha
    obtain ⟨hc266, h⟩ := chk h
    refine st_ishl hf (by decide) rfl rfl rfl hc266 ?_
    clear hf; intro a ha hf; clear ha
    refine st_assign hf rfl rfl (by decide) ?_
    clear hf; intro a ha hf; clear ha
    refine st_nil hf ?_
    refine th_n ?_
    refine wp_seq ?_
    refine wp_seq ?_
    refine wp_reg ?_
    refine st_assign hf rfl rfl (by decide) ?_
    clear hf; intro a ha hf; clear ha
    refine st_nil hf ?_
    refine th_n ?_
    refine wp_block ?_
    obtain ⟨q295, hl, h⟩ := bnd h
    refine wp_loop_pure (f := (f_foghornlaw09_TonesBack.s4 q3 q5 q83)) (s := (0 : Int)) (fun s a w => Fr 266 a [(5, v7), (10, v90), (25, .int .i64 (ishl .i64 (1 : Int) (IntKind.i64.wrap ((2 : Int) * q3)))), (26, .int .i64 s)] ∧ Hp S w0 w (Res.sl Ek.c128 28 v7 q5 :: Res.sl Ek.c128 28 v90 q83.1 :: ow)) (fun q e a w => match q with | (Sum.inl q) => e = .exit 6 ∧ Fr 266 a [] ∧ Hp S w0 w (ow) | (Sum.inr q) => e = .ret ∧ Fr 266 a [(2, .bool q)] ∧ Hp S w0 w (ow)) ?_ hl ⟨hf.sub ⟨rfl, rfl, rfl, rfl, trivial⟩, hp⟩ ?_
    · clear hl hf hp
      intro s x a w h hI
      obtain ⟨qx26, hs⟩ : ∃ z, z = s := ⟨s, rfl⟩; subst hs
      obtain ⟨hf, hp⟩ : Fr 266 a [(5, v7), (10, v90), (25, .int .i64 (ishl .i64 (1 : Int) (IntKind.i64.wrap ((2 : Int) * q3)))), (26, .int .i64 qx26)] ∧ Hp S w0 w (Res.sl Ek.c128 28 v7 q5 :: Res.sl Ek.c128 28 v90 q83.1 :: ow) := hI
      replace h : f_foghornlaw09_TonesBack.s4c q3 q5 q83 qx26 = some x := h
      unfold f_foghornlaw09_TonesBack.s4c at h
      refine wp_seq ?_
      refine wp_seq ?_
      refine wp_reg ?_
      refine st_move hf rfl rfl (by decide) ?_
      clear hf; intro a ha hf; clear ha
      refine st_move hf rfl rfl (by decide) ?_
      clear hf; intro a ha hf; clear ha
      refine st_len (E := Ek.c128) hf (by decide) Try.underlying26 rfl rfl (hp.sl (i := 0) rfl) ?_
      clear hf; intro a ha hf; clear ha
      refine st_ilss hf (by decide) rfl rfl rfl ?_
      clear hf; intro a ha hf; clear ha
      refine st_nil hf ?_
      refine th_n ?_
      refine wp_if hf rfl (fun hb => ?_) (fun hb => ?_)
      · replace h := ifT h hb
        refine wp_skip ?_
        refine th_n ?_
        refine wp_seq ?_
        refine wp_block ?_
        refine wp_seq ?_
        refine wp_reg ?_
        refine st_move hf rfl rfl (by decide) ?_
        clear hf; intro a ha hf; clear ha
        refine st_move hf rfl rfl (by decide) ?_
        clear hf; intro a ha hf; clear ha
        refine st_move hf rfl rfl (by decide) ?_
        clear hf; intro a ha hf; clear ha
        refine st_move hf rfl rfl (by decide) ?_
        clear hf; intro a ha hf; clear ha
        refine st_iadd hf (by decide) rfl rfl rfl ?_
        clear hf; intro a ha hf; clear ha
        obtain ⟨hc267, h⟩ := chk h
        have hc268 : (qx26).toNat ≤ ((IntKind.i64.wrap (qx26 + (ishl .i64 (1 : Int) (IntKind.i64.wrap ((2 : Int) * q3)))))).toNat := by omega
        have hc269 : ((IntKind.i64.wrap (qx26 + (ishl .i64 (1 : Int) (IntKind.i64.wrap ((2 : Int) * q3)))))).toNat ≤ q5.length := by omega
        refine st_cutS (E := Ek.c128) hf (by decide) Try.underlying26 elt28 rfl rfl (hp.sl (i := 0) rfl) (.inr ⟨_, _, rfl, evI rfl hc267.1⟩) (.inr ⟨_, _, rfl, evI rfl (by omega)⟩) hc268 hc269 ?_
        clear hf; intro a ha hf; clear ha
        obtain ⟨q270, hcall271, h⟩ := bnd h
        obtain ⟨S272, hp273, rd274, up275, bk276⟩ := Hp.lendS hp (i := 0) rfl
        refine st_call hf (by decide) Try.func12 rfl rfl rfl rfl rfl (f_tones_Energy_c hp273 _ _ (RdS.cut rd274 hc268 hc269) hcall271) ?_
        rintro _ w ⟨v277, rfl, y278, hp0⟩
        have hp0 := bk276 _ _ hp0
        clear hp; have hp := hp0; clear hp0
        replace hp : Hp _ _ _ (Res.sl Ek.c128 28 v7 q5 :: Res.sl Ek.c128 28 v90 q83.1 :: ow) := hp
        refine ⟨_, rfl, ?_⟩
        clear hf; intro a hf
        refine st_move hf rfl rfl (by decide) ?_
        clear hf; intro a ha hf; clear ha
        refine st_extract hf (by decide) rfl rfl rfl ?_
        clear hf; intro a ha hf; clear ha
        refine st_extract hf (by decide) rfl rfl rfl ?_
        clear hf; intro a ha hf; clear ha
        refine st_assign hf rfl rfl (by decide) ?_
        clear hf; intro a ha hf; clear ha
        refine st_assign hf rfl rfl (by decide) ?_
        clear hf; intro a ha hf; clear ha
        refine st_nil hf ?_
        refine th_n ?_
        refine wp_seq ?_
        refine wp_reg ?_
        refine st_move hf rfl rfl (by decide) ?_
        clear hf; intro a ha hf; clear ha
        refine st_move hf rfl rfl (by decide) ?_
        clear hf; intro a ha hf; clear ha
        refine st_move hf rfl rfl (by decide) ?_
        clear hf; intro a ha hf; clear ha
        refine st_move hf rfl rfl (by decide) ?_
        clear hf; intro a ha hf; clear ha
        refine st_iadd hf (by decide) rfl rfl rfl ?_
        clear hf; intro a ha hf; clear ha
        obtain ⟨hc279, h⟩ := chk h
        have hc280 : (qx26).toNat ≤ ((IntKind.i64.wrap (qx26 + (ishl .i64 (1 : Int) (IntKind.i64.wrap ((2 : Int) * q3)))))).toNat := by omega
        have hc281 : ((IntKind.i64.wrap (qx26 + (ishl .i64 (1 : Int) (IntKind.i64.wrap ((2 : Int) * q3)))))).toNat ≤ q83.1.length := by omega
        refine st_cutS (E := Ek.c128) hf (by decide) Try.underlying26 elt28 rfl rfl (hp.sl (i := 1) rfl) (.inr ⟨_, _, rfl, evI rfl hc279.1⟩) (.inr ⟨_, _, rfl, evI rfl (by omega)⟩) hc280 hc281 ?_
        clear hf; intro a ha hf; clear ha
        obtain ⟨q282, hcall283, h⟩ := bnd h
        obtain ⟨S284, hp285, rd286, up287, bk288⟩ := Hp.lendS hp (i := 1) rfl
        refine st_call hf (by decide) Try.func12 rfl rfl rfl rfl rfl (f_tones_Energy_c hp285 _ _ (RdS.cut rd286 hc280 hc281) hcall283) ?_
        rintro _ w ⟨v289, rfl, y290, hp0⟩
        have hp0 := bk288 _ _ hp0
        clear hp; have hp := hp0; clear hp0
        replace hp : Hp _ _ _ (Res.sl Ek.c128 28 v90 q83.1 :: Res.sl Ek.c128 28 v7 q5 :: ow) := hp
        refine ⟨_, rfl, ?_⟩
        clear hf; intro a hf
        refine st_move hf rfl rfl (by decide) ?_
        clear hf; intro a ha hf; clear ha
        refine st_extract hf (by decide) rfl rfl rfl ?_
        clear hf; intro a ha hf; clear ha
        refine st_extract hf (by decide) rfl rfl rfl ?_
        clear hf; intro a ha hf; clear ha
        refine st_assign hf rfl rfl (by decide) ?_
        clear hf; intro a ha hf; clear ha
        refine st_assign hf rfl rfl (by decide) ?_
        clear hf; intro a ha hf; clear ha
        refine st_nil hf ?_
        refine th_n ?_
        refine wp_seq ?_
        refine wp_reg ?_
        refine st_move hf rfl rfl (by decide) ?_
        clear hf; intro a ha hf; clear ha
        refine st_ineq hf (by decide) rfl rfl rfl ?_
        clear hf; intro a ha hf; clear ha
        refine st_move hf rfl rfl (by decide) ?_
        clear hf; intro a ha hf; clear ha
        refine wpList_cut 3 (fun a w => Fr 266 a [(5, v7), (10, v90), (25, .int .i64 (ishl .i64 (1 : Int) (IntKind.i64.wrap ((2 : Int) * q3)))), (26, .int .i64 qx26), (27, .float .f64 v277), (29, .float .f64 v289), (259, .bool ((q270.2 != (0 : Int)) || (q282.2 != (0 : Int))))] ∧ Hp S w0 w (Res.sl Ek.c128 28 v90 q83.1 :: Res.sl Ek.c128 28 v7 q5 :: ow)) ?_ ?_
        · rcases Bool.eq_false_or_eq_true (q270.2 != (0 : Int)) with hb292 | hb292
          · skip
            refine st_skip hf (wantN hf rfl rfl hb292) rfl (by decide) ?_ rfl
            clear hf; intro a hf
            refine st_skip hf (wantN hf rfl rfl hb292) rfl (by decide) ?_ rfl
            clear hf; intro a hf
            refine st_pick (v := .bool true) hf rfl rfl (fun hb' => ?_) (fun hb' => ?_) (by decide) ?_
            · rfl
            · exact absurd (hb292.symm.trans hb') (by decide)
            clear hf; intro a ha hf; clear ha
            refine st_nil hf (th_n ?_)
            exact ⟨hf.sub ⟨rfl, rfl, rfl, rfl, rfl, rfl, (by rw [hb292]; rfl), trivial⟩, hp⟩
          refine st_move hf (wantY hf rfl rfl hb292) rfl (by decide) ?_
          clear hf; intro a ha hf; clear ha
          refine st_ineq hf (by decide) (wantY hf rfl rfl hb292) rfl rfl ?_
          clear hf; intro a ha hf; clear ha
          refine st_pick (v := .bool (q282.2 != (0 : Int))) hf rfl rfl (fun hb' => ?_) (fun hb' => ?_) (by decide) ?_
          · exact absurd (hb292.symm.trans hb') (by decide)
          · rfl
          clear hf; intro a ha hf; clear ha
          refine st_nil hf (th_n ?_)
          exact ⟨hf.sub ⟨rfl, rfl, rfl, rfl, rfl, rfl, (by rw [hb292]; rfl), trivial⟩, hp⟩
        rintro a w ⟨hf, hp⟩
        refine st_move hf rfl rfl (by decide) ?_
        clear hf; intro a ha hf; clear ha
        refine wpList_cut 4 (fun a w => Fr 266 a [(5, v7), (10, v90), (25, .int .i64 (ishl .i64 (1 : Int) (IntKind.i64.wrap ((2 : Int) * q3)))), (26, .int .i64 qx26), (264, .bool (((q270.2 != (0 : Int)) || (q282.2 != (0 : Int))) || (fne q270.1 q282.1)))] ∧ Hp S w0 w (Res.sl Ek.c128 28 v90 q83.1 :: Res.sl Ek.c128 28 v7 q5 :: ow)) ?_ ?_
        · rcases Bool.eq_false_or_eq_true ((q270.2 != (0 : Int)) || (q282.2 != (0 : Int))) with hb294 | hb294
          · skip
            refine st_skip hf (wantN hf rfl rfl hb294) rfl (by decide) ?_ rfl
            clear hf; intro a hf
            refine st_skip hf (wantN hf rfl rfl hb294) rfl (by decide) ?_ rfl
            clear hf; intro a hf
            refine st_skip hf (wantN hf rfl rfl hb294) rfl (by decide) ?_ rfl
            clear hf; intro a hf
            refine st_pick (v := .bool true) hf rfl rfl (fun hb' => ?_) (fun hb' => ?_) (by decide) ?_
            · rfl
            · exact absurd (hb294.symm.trans hb') (by decide)
            clear hf; intro a ha hf; clear ha
            refine st_nil hf (th_n ?_)
            exact ⟨hf.sub ⟨rfl, rfl, rfl, rfl, (by rw [hb294]; rfl), trivial⟩, hp⟩
          refine st_move hf (wantY hf rfl rfl hb294) rfl (by decide) ?_
          clear hf; intro a ha hf; clear ha
          refine st_move hf (wantY hf rfl rfl hb294) rfl (by decide) ?_
          clear hf; intro a ha hf; clear ha
          refine st_fcmp (r_fne (fx := q270.1) (fy := q282.1) y278 y290) hf (by decide) (wantY hf rfl rfl hb294) rfl rfl ?_
          clear hf; intro a ha hf; clear ha
          refine st_pick (v := .bool (fne q270.1 q282.1)) hf rfl rfl (fun hb' => ?_) (fun hb' => ?_) (by decide) ?_
          · exact absurd (hb294.symm.trans hb') (by decide)
          · rfl
          clear hf; intro a ha hf; clear ha
          refine st_nil hf (th_n ?_)
          exact ⟨hf.sub ⟨rfl, rfl, rfl, rfl, (by rw [hb294]; rfl), trivial⟩, hp⟩
        rintro a w ⟨hf, hp⟩
        refine st_nil hf ?_
        refine th_n ?_
        refine wp_if hf rfl (fun hb => ?_) (fun hb => ?_)
        · replace h := ifT h hb
          refine wp_seq ?_
          refine wp_reg ?_
          refine st_assign hf rfl rfl (by decide) ?_
          clear hf; intro a ha hf; clear ha
          refine st_nil hf ?_
          refine th_n ?_
          refine wp_ret ?_
          refine ib_r ?_
          refine th_r ?_
          obtain rfl := Option.some.inj h
          have hp : Hp _ _ _ (ow) := Hp.sel (pre := [Res.sl Ek.c128 28 v90 q83.1, Res.sl Ek.c128 28 v7 q5]) (tail := ow) (rs' := []) hp [] (by decide) (by simp) rfl
          exact rnd_r (by simp) ⟨rfl, ⟨hf.sub ⟨rfl, trivial⟩, hp⟩⟩
        replace h := ifF h hb
        refine wp_skip ?_
        refine ib_n ?_
        refine th_n ?_
        refine wp_reg ?_
        refine st_move hf rfl rfl (by decide) ?_
        clear hf; intro a ha hf; clear ha
        refine st_move hf rfl rfl (by decide) ?_
        clear hf; intro a ha hf; clear ha
        refine st_iadd hf (by decide) rfl rfl rfl ?_
        clear hf; intro a ha hf; clear ha
        refine st_assign hf rfl rfl (by decide) ?_
        clear hf; intro a ha hf; clear ha
        refine st_nil hf ?_
        obtain rfl := Option.some.inj h
        have hp : Hp _ _ _ (Res.sl Ek.c128 28 v7 q5 :: Res.sl Ek.c128 28 v90 q83.1 :: ow) := Hp.sel (pre := [Res.sl Ek.c128 28 v90 q83.1, Res.sl Ek.c128 28 v7 q5]) (tail := ow) (rs' := [Res.sl Ek.c128 28 v7 q5, Res.sl Ek.c128 28 v90 q83.1]) hp [1, 0] (by decide) (by simp) rfl
        exact rnd_l ⟨hf.sub ⟨rfl, rfl, rfl, rfl, trivial⟩, hp⟩
      replace h := ifF h hb
      refine wp_exit ?_
      refine th_e ?_
      obtain rfl := Option.some.inj h
      have hp : Hp _ _ _ (ow) := Hp.sel (pre := [Res.sl Ek.c128 28 v7 q5, Res.sl Ek.c128 28 v90 q83.1]) (tail := ow) (rs' := []) hp [] (by decide) (by simp) rfl
      exact rnd_r (by simp) ⟨rfl, hf.sub trivial, hp⟩
    clear hl hf hp
    intro e a w hne hO
    rcases q295 with q296 | q297
    · replace h := smL h
      obtain ⟨rfl, hf, hp⟩ := hO
      refine ib_same ?_
      refine th_n ?_
      refine wp_seq ?_
      refine wp_reg ?_
      obtain ⟨q298, hcall299, h⟩ := bnd h
      refine st_call hf (by decide) Try.func13 rfl rfl rfl rfl rfl (f_foghornlaw09_awake_c hp  hcall299) ?_
      rintro _ w ⟨rfl, hp0⟩
      clear hp; have hp := hp0; clear hp0
      replace hp : Hp _ _ _ (ow) := hp
      refine ⟨_, rfl, ?_⟩
      clear hf; intro a hf
      refine st_assign hf rfl rfl (by decide) ?_
      clear hf; intro a ha hf; clear ha
      refine st_nil hf ?_
      refine th_n ?_
      refine wp_ret ?_
      obtain rfl := Option.some.inj h
      exact ⟨rfl, ⟨hf.sub ⟨rfl, trivial⟩, hp⟩⟩
    replace h := smR h
    obtain ⟨rfl, hf, hp⟩ := hO
    refine ib_r ?_
    refine th_r ?_
    obtain rfl := Option.some.inj h
    exact ⟨rfl, ⟨hf.sub ⟨rfl, trivial⟩, hp⟩⟩
  replace h := smR h
  obtain ⟨rfl, hf, hp⟩ := hO
  refine ib_r ?_
  refine th_r ?_
  obtain rfl := Option.some.inj h
  exact ⟨rfl, ⟨hf.sub ⟨rfl, trivial⟩, hp⟩⟩

end Go.Proofs.Ythmobhgjojgipaa
