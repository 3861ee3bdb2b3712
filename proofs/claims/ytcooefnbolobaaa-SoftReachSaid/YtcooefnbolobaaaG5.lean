/- The functions foghorn foghornlaw23.SoftReach: what each answers, as a plain function, and that its call answers it; printed by gen.py. -/
import Derived.Test.YtcooefnbolobaaaProg
import Derived.Test.YtcooefnbolobaaaGlUc
import Derived.KernelRfl
import Derived.Test.YtcooefnbolobaaaG5p2
set_option linter.unusedVariables false
set_option linter.unusedSimpArgs false
set_option maxRecDepth 100000
set_option maxHeartbeats 4000000
namespace Go.Proofs.Ytcooefnbolobaaa
open GL
noncomputable def f_foghornlaw23_code (cx0_Length : Int) (cx0_One : Int) (cx0_Two : Int) : Option (Int × Int × Int) := (some (cx0_Length, cx0_One, cx0_Two))
theorem f_foghornlaw23_code_c {S : Nat → Prop} {w0 w : World} {ow : List Res} (hp : Hp S w0 w ow) (cx0_Length : Int) (cx0_One : Int) (cx0_Two : Int) {r : (Int × Int × Int)} (h : f_foghornlaw23_code cx0_Length cx0_One cx0_Two = some r) :
    Calls Try.prog 14 #[.agg #[.int .i64 cx0_Length, .int .u32 cx0_One, .int .u32 cx0_Two]] w (fun e w' => e = .returned (.agg #[.int .i64 r.1, .int .u32 r.2.1, .int .u32 r.2.2]) ∧ Hp S w0 w' (ow)) := by
  unfold f_foghornlaw23_code at h
  refine enter (n := 10) (args := [.agg #[.int .i64 cx0_Length, .int .u32 cx0_One, .int .u32 cx0_Two]]) Try.func14 rfl rfl (Nat.le_of_ble_eq_true rfl) fun a hf => ?_
  replace hf : Fr 10 a [(0, .agg #[.int .i64 cx0_Length, .int .u32 cx0_One, .int .u32 cx0_Two])] := hf
  refine wp_mono (Q := fun e a w => e = .ret ∧ ∃ (c0 : Value), Fr 10 a [(2, optr c0 0)] ∧ Hp S w0 w (Res.obj 40 c0 [.int .i64 r.1, .int .u32 r.2.1, .int .u32 r.2.2] :: ow)) ?_ ?_
  rotate_left
  · rintro e a w ⟨rfl, c0, hf, hp⟩
    exact retG1 hf rfl ⟨_, _, rfl, hp.ob (i := 0) rfl, .inr ⟨by kernel_rfl, rfl⟩⟩ ⟨rfl, hp.drop⟩
  refine wp_seq ?_
  refine wp_reg ?_
  refine st_boxO (cs := [.int .i64 cx0_Length, .int .u32 cx0_One, .int .u32 cx0_Two]) hf (by decide) hp rfl rfl rfl ?_
  clear hf; intro a w v1 hf hp0; clear hp; have hp := hp0; clear hp0
  replace hp : Hp _ _ _ (Res.obj 24 v1 [.int .i64 cx0_Length, .int .u32 cx0_One, .int .u32 cx0_Two] :: ow) := hp
  refine st_alloc (cs := [.int .i64 (0 : Int), .int .u32 (0 : Int), .int .u32 (0 : Int)]) (zv := .agg #[.int .i64 (0 : Int), .int .u32 (0 : Int), .int .u32 (0 : Int)]) hf (by decide) (by kernel_rfl) rfl hp rfl ?_
  clear hf; intro a w v3 hf hp0; clear hp; have hp := hp0; clear hp0
  replace hp : Hp _ _ _ (Res.obj 40 v3 [.int .i64 (0 : Int), .int .u32 (0 : Int), .int .u32 (0 : Int)] :: Res.obj 24 v1 [.int .i64 cx0_Length, .int .u32 cx0_One, .int .u32 cx0_Two] :: ow) := hp
  refine st_nil hf ?_
  refine th_n ?_
  refine wp_seq ?_
  refine wp_reg ?_
  refine st_fa (o' := 0) hf (by decide) (off := 0) (sz := 1) (by kernel_rfl) (by decide) rfl rfl (hp.ob (i := 1) rfl) rfl ?_
  clear hf; intro a ha hf; clear ha
  refine st_ldO (u := .int .i64 cx0_Length) hf (by decide) pl3 rfl rfl (hp.ob (i := 1) rfl) rfl ?_
  clear hf; intro a ha hf; clear ha
  refine st_fa (o' := 1) hf (by decide) (off := 1) (sz := 1) (by kernel_rfl) (by decide) rfl rfl (hp.ob (i := 1) rfl) rfl ?_
  clear hf; intro a ha hf; clear ha
  refine st_ldO (u := .int .u32 cx0_One) hf (by decide) pl22 rfl rfl (hp.ob (i := 1) rfl) rfl ?_
  clear hf; intro a ha hf; clear ha
  refine st_fa (o' := 2) hf (by decide) (off := 2) (sz := 1) (by kernel_rfl) (by decide) rfl rfl (hp.ob (i := 1) rfl) rfl ?_
  clear hf; intro a ha hf; clear ha
  refine st_ldO (u := .int .u32 cx0_Two) hf (by decide) pl22 rfl rfl (hp.ob (i := 1) rfl) rfl ?_
  clear hf; intro a ha hf; clear ha
  refine st_buildA (vals := [(0, .int .i64 cx0_Length), (1, .int .u32 cx0_One), (2, .int .u32 cx0_Two)]) (cells := [.int .i64 cx0_Length, .int .u32 cx0_One, .int .u32 cx0_Two]) hf (by decide) rfl (by simp [hf.ev (x := (Operand.tmp 4)) rfl, hf.ev (x := (Operand.tmp 6)) rfl, hf.ev (x := (Operand.tmp 8)) rfl]) (fun w => by kernel_rfl) ?_
  clear hf; intro a ha hf; clear ha
  refine st_stO (us := [.int .i64 cx0_Length, .int .u32 cx0_One, .int .u32 cx0_Two]) hf hp (i := 0) rfl rfl rfl rfl rfl (by rfl) (by kernel_rfl) (Nat.le_of_ble_eq_true rfl) ?_
  clear hf; intro a w hf hp0; clear hp; have hp := hp0; clear hp0
  replace hp : Hp _ _ _ (Res.obj 40 v3 [.int .i64 cx0_Length, .int .u32 cx0_One, .int .u32 cx0_Two] :: Res.obj 24 v1 [.int .i64 cx0_Length, .int .u32 cx0_One, .int .u32 cx0_Two] :: ow) := hp
  refine st_nil hf ?_
  refine th_n ?_
  refine wp_ret ?_
  obtain rfl := Option.some.inj h
  have hp : Hp _ _ _ (Res.obj 40 v3 [.int .i64 cx0_Length, .int .u32 cx0_One, .int .u32 cx0_Two] :: ow) := Hp.sel (pre := [Res.obj 40 v3 [.int .i64 cx0_Length, .int .u32 cx0_One, .int .u32 cx0_Two], Res.obj 24 v1 [.int .i64 cx0_Length, .int .u32 cx0_One, .int .u32 cx0_Two]]) (tail := ow) (rs' := [Res.obj 40 v3 [.int .i64 cx0_Length, .int .u32 cx0_One, .int .u32 cx0_Two]]) hp [0] (by decide) (by simp) rfl
  exact ⟨rfl, ⟨_, hf.sub ⟨rfl, trivial⟩, hp⟩⟩

noncomputable def f_trellis_Code_Free_1.s1c (l0 : (List Bool)) (wx3 : Int) (t8 : Int) : Option ((Int × Int) ⊕ Int) := (if (decide (t8 < (l0.length : Int))) = true then (if 0 ≤ t8 ∧ t8 < (l0.length : Int) then (if (gt l0 t8) = true then (some (Sum.inl ((IntKind.i64.wrap (wx3 + (1 : Int))), (IntKind.i64.wrap (t8 + (1 : Int)))))) else (some (Sum.inl (wx3, (IntKind.i64.wrap (t8 + (1 : Int))))))) else none) else (some (Sum.inr wx3)))
noncomputable def f_trellis_Code_Free_1.s1 (l0 : (List Bool)) (s : (Int × Int)) : Option ((Int × Int) ⊕ Int) := f_trellis_Code_Free_1.s1c l0 s.1 s.2
noncomputable def f_trellis_Code_Free_1 (l0 : (List Bool)) : Option Int := ((loop (f_trellis_Code_Free_1.s1 l0) ((0 : Int), (0 : Int))).bind (fun q2 => (some q2)))
theorem f_trellis_Code_Free_1_c {S : Nat → Prop} {w0 w : World} {ow : List Res} (hp : Hp S w0 w ow) (vl0 : Value) (l0 : (List Bool)) (hl0 : RdS Ek.bool S w0 vl0 l0) {r : Int} (h : f_trellis_Code_Free_1 l0 = some r) :
    Calls Try.prog 51 #[vl0] w (fun e w' => e = .returned (.int .i64 r) ∧ Hp S w0 w' (ow)) := by
  unfold f_trellis_Code_Free_1 at h
  refine enter (n := 17) (args := [vl0]) Try.func51 rfl rfl (Nat.le_of_ble_eq_true rfl) fun a hf => ?_
  replace hf : Fr 17 a [(0, vl0)] := hf
  refine wp_mono (Q := fun e a w => e = .ret ∧ Fr 17 a [(2, .int .i64 r)] ∧ Hp S w0 w (ow)) ?_ ?_
  rotate_left
  · rintro e a w ⟨rfl, hf, hp⟩
    exact ret1 hf rfl rfl ⟨rfl, hp⟩
  refine wp_seq ?_
  refine wp_reg ?_
  refine st_assign hf rfl rfl (by decide) ?_
  clear hf; intro a ha hf; clear ha
  refine st_nil hf ?_
  refine th_n ?_
  refine wp_seq ?_
  refine wp_reg ?_
  refine st_assign hf rfl rfl (by decide) ?_
  clear hf; intro a ha hf; clear ha
  refine st_nil hf ?_
  refine th_n ?_
  refine wp_seq ?_
  refine wp_seq ?_
  refine wp_reg ?_
  refine st_move hf rfl rfl (by decide) ?_
  clear hf; intro a ha hf; clear ha
  refine st_len (E := Ek.bool) hf (by decide) Try.underlying25 rfl rfl (hl0.sl hp) ?_
  clear hf; intro a ha hf; clear ha
  refine st_move hf rfl rfl (by decide) ?_
  clear hf; intro a ha hf; clear ha
  refine st_nil hf ?_
  refine th_n ?_
  refine wp_block ?_
  obtain ⟨q2, hl, h⟩ := bnd h
  refine wp_loop_pure (f := (f_trellis_Code_Free_1.s1 l0)) (s := ((0 : Int), (0 : Int))) (fun s a w => Fr 17 a [(3, .int .i64 s.1), (6, vl0), (7, .int .i64 (l0.length : Int)), (8, .int .i64 s.2)] ∧ Hp S w0 w (ow)) (fun q e a w => e = .exit 0 ∧ Fr 17 a [(3, .int .i64 q)] ∧ Hp S w0 w (ow)) ?_ hl ⟨hf.sub ⟨rfl, rfl, rfl, rfl, trivial⟩, hp⟩ ?_
  · clear hl hf hp
    intro s x a w h hI
    obtain ⟨wx3, t8⟩ := s
    obtain ⟨hf, hp⟩ : Fr 17 a [(3, .int .i64 wx3), (6, vl0), (7, .int .i64 (l0.length : Int)), (8, .int .i64 t8)] ∧ Hp S w0 w (ow) := hI
    replace h : f_trellis_Code_Free_1.s1c l0 wx3 t8 = some x := h
    unfold f_trellis_Code_Free_1.s1c at h
    refine wp_seq ?_
    refine wp_reg ?_
    refine st_ilss hf (by decide) rfl rfl rfl ?_
    clear hf; intro a ha hf; clear ha
    refine st_nil hf ?_
    refine th_n ?_
    refine wp_seq ?_
    refine wp_if hf rfl (fun hb => ?_) (fun hb => ?_)
    · replace h := ifT h hb
      refine wp_skip ?_
      refine th_n ?_
      refine wp_seq ?_
      refine wp_block ?_
      refine wp_seq ?_
      refine wp_reg ?_
      obtain ⟨hc1, h⟩ := chk h
      refine st_index (E := Ek.bool) hf (by decide) Try.underlying25 elt4 rfl rfl rfl (hl0.sl hp) hc1.1 hc1.2 ?_
      clear hf; intro a ha hf; clear ha
      refine st_ldB hf (by decide) pl4 rfl rfl (hl0.sl hp) hc1.1 hc1.2 ?_
      clear hf; intro a ha hf; clear ha
      refine st_assign hf rfl rfl (by decide) ?_
      clear hf; intro a ha hf; clear ha
      refine st_nil hf ?_
      refine th_n ?_
      refine wp_seq ?_
      refine wp_reg ?_
      refine st_move hf rfl rfl (by decide) ?_
      clear hf; intro a ha hf; clear ha
      refine st_nil hf ?_
      refine th_n ?_
      refine wp_if hf rfl (fun hb => ?_) (fun hb => ?_)
      · replace h := ifT h hb
        refine wp_reg ?_
        refine st_move hf rfl rfl (by decide) ?_
        clear hf; intro a ha hf; clear ha
        refine st_iadd hf (by decide) rfl rfl rfl ?_
        clear hf; intro a ha hf; clear ha
        refine st_assign hf rfl rfl (by decide) ?_
        clear hf; intro a ha hf; clear ha
        refine st_nil hf ?_
        refine ib_n ?_
        refine th_n ?_
        refine wp_reg ?_
        refine st_iadd hf (by decide) rfl rfl rfl ?_
        clear hf; intro a ha hf; clear ha
        refine st_move hf rfl rfl (by decide) ?_
        clear hf; intro a ha hf; clear ha
        refine st_nil hf ?_
        obtain rfl := Option.some.inj h
        exact rnd_l ⟨hf.sub ⟨rfl, rfl, rfl, rfl, trivial⟩, hp⟩
      replace h := ifF h hb
      refine wp_skip ?_
      refine ib_n ?_
      refine th_n ?_
      refine wp_reg ?_
      refine st_iadd hf (by decide) rfl rfl rfl ?_
      clear hf; intro a ha hf; clear ha
      refine st_move hf rfl rfl (by decide) ?_
      clear hf; intro a ha hf; clear ha
      refine st_nil hf ?_
      obtain rfl := Option.some.inj h
      exact rnd_l ⟨hf.sub ⟨rfl, rfl, rfl, rfl, trivial⟩, hp⟩
    replace h := ifF h hb
    refine wp_exit ?_
    refine th_e ?_
    obtain rfl := Option.some.inj h
    exact rnd_r (by simp) ⟨rfl, hf.sub ⟨rfl, trivial⟩, hp⟩
  clear hl hf hp
  intro e a w hne hO
  obtain ⟨rfl, hf, hp⟩ := hO
  refine ib_same ?_
  refine th_n ?_
  refine wp_seq ?_
  refine wp_reg ?_
  refine st_move hf rfl rfl (by decide) ?_
  clear hf; intro a ha hf; clear ha
  refine st_assign hf rfl rfl (by decide) ?_
  clear hf; intro a ha hf; clear ha
  refine st_nil hf ?_
  refine th_n ?_
  refine wp_ret ?_
  obtain rfl := Option.some.inj h
  exact ⟨rfl, ⟨hf.sub ⟨rfl, trivial⟩, hp⟩⟩

noncomputable def f_trellis_Code_Free.s1c (least7 : (List Int)) (t26 : Int) : Option (((List Int) × Int) ⊕ (List Int)) := (if (decide (t26 < (64 : Int))) = true then (if 0 ≤ t26 ∧ t26 < (64 : Int) then (some (Sum.inl ((least7.set (t26).toNat (1048576 : Int)), (IntKind.i64.wrap (t26 + (1 : Int)))))) else none) else (some (Sum.inr least7)))
noncomputable def f_trellis_Code_Free.s1  (s : ((List Int) × Int)) : Option (((List Int) × Int) ⊕ (List Int)) := f_trellis_Code_Free.s1c s.1 s.2
noncomputable def f_trellis_Code_Free.s4c (cx0_Length : Int) (cx0_One : Int) (cx0_Two : Int) (sx12 : Int) (least7 : (List Int)) (t55 : Int) : Option (((List Int) × Int) ⊕ (List Int)) := (if (decide (t55 < (([false, true]).length : Int))) = true then (if 0 ≤ t55 ∧ t55 < (([false, true]).length : Int) then ((f_trellis_Code_step cx0_Length cx0_One cx0_Two sx12 (gt ([false, true]) t55)).bind fun q34 => (if 0 ≤ q34.1 ∧ q34.1 < (64 : Int) then (if 0 ≤ sx12 ∧ sx12 < (64 : Int) then ((f_trellis_Code_Free_1 ([q34.2.1, q34.2.2])).bind fun q48 => (if 0 ≤ q34.1 ∧ q34.1 < (64 : Int) then (some (Sum.inl ((least7.set (q34.1).toNat (imin (gt least7 q34.1) (IntKind.i64.wrap ((gt least7 sx12) + q48)))), (IntKind.i64.wrap (t55 + (1 : Int)))))) else none)) else none) else none)) else none) else (some (Sum.inr least7)))
noncomputable def f_trellis_Code_Free.s4 (cx0_Length : Int) (cx0_One : Int) (cx0_Two : Int) (sx12 : Int) (s : ((List Int) × Int)) : Option (((List Int) × Int) ⊕ (List Int)) := f_trellis_Code_Free.s4c cx0_Length cx0_One cx0_Two sx12 s.1 s.2
noncomputable def f_trellis_Code_Free.s3c (cx0_Length : Int) (cx0_One : Int) (cx0_Two : Int) (q3 : (Int × Int)) (least7 : (List Int)) (sx12 : Int) : Option (((List Int) × Int) ⊕ (List Int)) := (if (decide (sx12 < q3.1)) = true then ((loop (f_trellis_Code_Free.s4 cx0_Length cx0_One cx0_Two sx12) (least7, (0 : Int))).bind (fun q57 => (some (Sum.inl (q57, (IntKind.i64.wrap (sx12 + (1 : Int)))))))) else (some (Sum.inr least7)))
noncomputable def f_trellis_Code_Free.s3 (cx0_Length : Int) (cx0_One : Int) (cx0_Two : Int) (q3 : (Int × Int)) (s : ((List Int) × Int)) : Option (((List Int) × Int) ⊕ (List Int)) := f_trellis_Code_Free.s3c cx0_Length cx0_One cx0_Two q3 s.1 s.2
noncomputable def f_trellis_Code_Free.s2c (cx0_Length : Int) (cx0_One : Int) (cx0_Two : Int) (q3 : (Int × Int)) (least7 : (List Int)) (t46 : Int) : Option (((List Int) × Int) ⊕ (List Int)) := (if (decide (t46 < q3.1)) = true then ((loop (f_trellis_Code_Free.s3 cx0_Length cx0_One cx0_Two q3) (least7, (1 : Int))).bind (fun q58 => (some (Sum.inl (q58, (IntKind.i64.wrap (t46 + (1 : Int)))))))) else (some (Sum.inr least7)))
noncomputable def f_trellis_Code_Free.s2 (cx0_Length : Int) (cx0_One : Int) (cx0_Two : Int) (q3 : (Int × Int)) (s : ((List Int) × Int)) : Option (((List Int) × Int) ⊕ (List Int)) := f_trellis_Code_Free.s2c cx0_Length cx0_One cx0_Two q3 s.1 s.2
noncomputable def f_trellis_Code_Free (cx0_Length : Int) (cx0_One : Int) (cx0_Two : Int) : Option (Int × Int) := ((f_trellis_Code_States cx0_Length cx0_One cx0_Two).bind fun q3 => (if (q3.2 != (0 : Int)) = true then (some ((0 : Int), q3.2)) else ((loop f_trellis_Code_Free.s1 ((List.replicate 64 (0 : Int)), (0 : Int))).bind (fun q11 => ((f_trellis_Code_step cx0_Length cx0_One cx0_Two (0 : Int) true).bind fun q12 => ((f_trellis_Code_Free_1 ([q12.2.1, q12.2.2])).bind fun q16 => (if 0 ≤ q12.1 ∧ q12.1 < (64 : Int) then ((loop (f_trellis_Code_Free.s2 cx0_Length cx0_One cx0_Two q3) ((q11.set (q12.1).toNat q16), (0 : Int))).bind (fun q59 => (some ((gt q59 (0 : Int)), (0 : Int))))) else none)))))))
theorem f_trellis_Code_Free_c {S : Nat → Prop} {w0 w : World} {ow : List Res} (hp : Hp S w0 w ow) (cx0_Length : Int) (cx0_One : Int) (cx0_Two : Int) {r : (Int × Int)} (h : f_trellis_Code_Free cx0_Length cx0_One cx0_Two = some r) :
    Calls Try.prog 29 #[.agg #[.int .i64 cx0_Length, .int .u32 cx0_One, .int .u32 cx0_Two]] w (fun e w' => e = .returned (.tuple #[.int .i64 r.1, .int .i64 r.2]) ∧ Hp S w0 w' (ow)) := by
  unfold f_trellis_Code_Free at h
  refine enter (n := 86) (args := [.agg #[.int .i64 cx0_Length, .int .u32 cx0_One, .int .u32 cx0_Two]]) Try.func29 rfl rfl (Nat.le_of_ble_eq_true rfl) fun a hf => ?_
  replace hf : Fr 86 a [(0, .agg #[.int .i64 cx0_Length, .int .u32 cx0_One, .int .u32 cx0_Two])] := hf
  refine wp_mono (Q := fun e a w => e = .ret ∧ Fr 86 a [(2, .int .i64 r.1), (3, .int .i64 r.2)] ∧ Hp S w0 w (ow)) ?_ ?_
  rotate_left
  · rintro e a w ⟨rfl, hf, hp⟩
    exact ret2 hf rfl rfl rfl ⟨rfl, hp⟩
  refine wp_seq ?_
  refine wp_reg ?_
  refine st_boxO (cs := [.int .i64 cx0_Length, .int .u32 cx0_One, .int .u32 cx0_Two]) hf (by decide) hp rfl rfl rfl ?_
  clear hf; intro a w v1 hf hp0; clear hp; have hp := hp0; clear hp0
  replace hp : Hp _ _ _ (Res.obj 40 v1 [.int .i64 cx0_Length, .int .u32 cx0_One, .int .u32 cx0_Two] :: ow) := hp
  refine st_assign hf rfl rfl (by decide) ?_
  clear hf; intro a ha hf; clear ha
  refine st_assign hf rfl rfl (by decide) ?_
  clear hf; intro a ha hf; clear ha
  refine st_nil hf ?_
  refine th_n ?_
  refine wp_seq ?_
  refine wp_reg ?_
  refine st_ldOA (m := 3) (us := [.int .i64 cx0_Length, .int .u32 cx0_One, .int .u32 cx0_Two]) hf (by decide) (by kernel_rfl) rfl rfl (hp.ob (i := 0) rfl) rfl rfl ?_
  clear hf; intro a ha hf; clear ha
  obtain ⟨q3, hcall4, h⟩ := bnd h
  refine st_call hf (by decide) Try.func47 rfl rfl rfl rfl rfl (f_trellis_Code_States_c hp _ _ _ hcall4) ?_
  rintro _ w ⟨rfl, hp0⟩
  clear hp; have hp := hp0; clear hp0
  replace hp : Hp _ _ _ (Res.obj 40 v1 [.int .i64 cx0_Length, .int .u32 cx0_One, .int .u32 cx0_Two] :: ow) := hp
  refine ⟨_, rfl, ?_⟩
  clear hf; intro a hf
  refine st_move hf rfl rfl (by decide) ?_
  clear hf; intro a ha hf; clear ha
  refine st_extract hf (by decide) rfl rfl rfl ?_
  clear hf; intro a ha hf; clear ha
  refine st_extract hf (by decide) rfl rfl rfl ?_
  clear hf; intro a ha hf; clear ha
  refine st_assign hf rfl rfl (by decide) ?_
  clear hf; intro a ha hf; clear ha
  refine st_assign hf rfl rfl (by decide) ?_
  clear hf; intro a ha hf; clear ha
  refine st_nil hf ?_
  refine th_n ?_
  refine wp_seq ?_
  refine wp_seq ?_
  refine wp_reg ?_
  refine st_move hf rfl rfl (by decide) ?_
  clear hf; intro a ha hf; clear ha
  refine st_ineq hf (by decide) rfl rfl rfl ?_
  clear hf; intro a ha hf; clear ha
  refine st_nil hf ?_
  refine th_n ?_
  refine wp_if hf rfl (fun hb => ?_) (fun hb => ?_)
  · replace h := ifT h hb
    refine wp_seq ?_
    refine wp_reg ?_
    refine st_move hf rfl rfl (by decide) ?_
    clear hf; intro a ha hf; clear ha
    refine st_assign hf rfl rfl (by decide) ?_
    clear hf; intro a ha hf; clear ha
    refine st_assign hf rfl rfl (by decide) ?_
    clear hf; intro a ha hf; clear ha
    refine st_nil hf ?_
    refine th_n ?_
    refine wp_ret ?_
    refine th_r ?_
    obtain rfl := Option.some.inj h
    have hp : Hp _ _ _ (ow) := Hp.sel (pre := [Res.obj 40 v1 [.int .i64 cx0_Length, .int .u32 cx0_One, .int .u32 cx0_Two]]) (tail := ow) (rs' := []) hp [] (by decide) (by simp) rfl
    exact ⟨rfl, ⟨hf.sub ⟨rfl, rfl, trivial⟩, hp⟩⟩
  replace h := ifF h hb
  refine wp_skip ?_
  refine th_n ?_
  refine wp_seq ?_
  refine wp_reg ?_
  refine st_assign hf rfl rfl (by decide) ?_
  clear hf; intro a ha hf; clear ha
  refine st_nil hf ?_
  refine th_n ?_
  refine wp_seq ?_
  refine wp_reg ?_
  refine st_allocA (E := (Ek.int .i64)) (N := 64) (zs := List.replicate 64 (0 : Int)) (zv := .agg ((List.replicate 64 ([.int .i64 0] : List Value)).flatten).toArray) hf (by decide) (by decide) (by decide) (by kernel_rfl) (reps_replicate (E := (Ek.int .i64)) (vs := ([.int .i64 0] : List Value)) (x := (0 : Int)) rfl 64) (by simp) hp rfl ?_
  clear hf; intro a w v5 hf hp0; clear hp; have hp := hp0; clear hp0
  replace hp : Hp _ _ _ (Res.sl (Ek.int .i64) 101 (aslv v5 64) (List.replicate 64 (0 : Int)) :: Res.obj 40 v1 [.int .i64 cx0_Length, .int .u32 cx0_One, .int .u32 cx0_Two] :: ow) := hp
  refine st_nil hf ?_
  refine th_n ?_
  refine wp_seq ?_
  refine wp_seq ?_
  refine wp_reg ?_
  refine st_move hf rfl rfl (by decide) ?_
  clear hf; intro a ha hf; clear ha
  refine st_nil hf ?_
  refine th_n ?_
  refine wp_block ?_
  obtain ⟨q11, hl, h⟩ := bnd h
  refine wp_loop_pure (f := f_trellis_Code_Free.s1) (s := ((List.replicate 64 (0 : Int)), (0 : Int))) (fun s a w => Fr 86 a [(1, optr v1 0), (4, .int .i64 q3.1), (6, .func (.func 51) #[] #[]), (7, v5), (26, .int .i64 s.2)] ∧ Hp S w0 w (Res.sl (Ek.int .i64) 101 (aslv v5 64) s.1 :: Res.obj 40 v1 [.int .i64 cx0_Length, .int .u32 cx0_One, .int .u32 cx0_Two] :: ow)) (fun q e a w => e = .exit 0 ∧ Fr 86 a [(1, optr v1 0), (4, .int .i64 q3.1), (6, .func (.func 51) #[] #[]), (7, v5)] ∧ Hp S w0 w (Res.sl (Ek.int .i64) 101 (aslv v5 64) q :: Res.obj 40 v1 [.int .i64 cx0_Length, .int .u32 cx0_One, .int .u32 cx0_Two] :: ow)) ?_ hl ⟨hf.sub ⟨rfl, rfl, rfl, rfl, rfl, trivial⟩, hp⟩ ?_
  · clear hl hf hp
    intro s x a w h hI
    obtain ⟨least7, t26⟩ := s
    obtain ⟨hf, hp⟩ : Fr 86 a [(1, optr v1 0), (4, .int .i64 q3.1), (6, .func (.func 51) #[] #[]), (7, v5), (26, .int .i64 t26)] ∧ Hp S w0 w (Res.sl (Ek.int .i64) 101 (aslv v5 64) least7 :: Res.obj 40 v1 [.int .i64 cx0_Length, .int .u32 cx0_One, .int .u32 cx0_Two] :: ow) := hI
    replace h : f_trellis_Code_Free.s1c least7 t26 = some x := h
    unfold f_trellis_Code_Free.s1c at h
    refine wp_seq ?_
    refine wp_reg ?_
    refine st_ilss hf (by decide) rfl rfl rfl ?_
    clear hf; intro a ha hf; clear ha
    refine st_nil hf ?_
    refine th_n ?_
    refine wp_seq ?_
    refine wp_if hf rfl (fun hb => ?_) (fun hb => ?_)
    · replace h := ifT h hb
      refine wp_skip ?_
      refine th_n ?_
      refine wp_seq ?_
      refine wp_block ?_
      refine wp_seq ?_
      refine wp_reg ?_
      refine st_move hf rfl rfl (by decide) ?_
      clear hf; intro a ha hf; clear ha
      refine st_assign hf rfl rfl (by decide) ?_
      clear hf; intro a ha hf; clear ha
      refine st_nil hf ?_
      refine th_n ?_
      refine wp_reg ?_
      refine st_move hf rfl rfl (by decide) ?_
      clear hf; intro a ha hf; clear ha
      obtain ⟨hc9, h⟩ := chk h
      refine st_iaA (E := (Ek.int .i64)) (N := 64) hf (by decide) Try.underlying101 (by kernel_rfl) rfl rfl rfl (hp.sl (i := 0) rfl) rfl hc9.1 hc9.2 ?_
      clear hf; intro a ha hf; clear ha
      refine st_store (E := (Ek.int .i64)) hf elt3 hp (i := 0) rfl rfl rfl rfl rfl (aslv_ix (hp.sl (i := 0) rfl) hc9).1 (aslv_ix (hp.sl (i := 0) rfl) hc9).2 ?_
      clear hf; intro a w hf hp0; clear hp; have hp := hp0; clear hp0
      replace hp : Hp _ _ _ (Res.sl (Ek.int .i64) 101 (aslv v5 64) (least7.set (t26).toNat (1048576 : Int)) :: Res.obj 40 v1 [.int .i64 cx0_Length, .int .u32 cx0_One, .int .u32 cx0_Two] :: ow) := hp
      refine st_nil hf ?_
      refine ib_n ?_
      refine th_n ?_
      refine wp_reg ?_
      refine st_iadd hf (by decide) rfl rfl rfl ?_
      clear hf; intro a ha hf; clear ha
      refine st_move hf rfl rfl (by decide) ?_
      clear hf; intro a ha hf; clear ha
      refine st_nil hf ?_
      obtain rfl := Option.some.inj h
      exact rnd_l ⟨hf.sub ⟨rfl, rfl, rfl, rfl, rfl, trivial⟩, hp⟩
    replace h := ifF h hb
    refine wp_exit ?_
    refine th_e ?_
    obtain rfl := Option.some.inj h
    exact rnd_r (by simp) ⟨rfl, hf.sub ⟨rfl, rfl, rfl, rfl, trivial⟩, hp⟩
  clear hl hf hp
  intro e a w hne hO
  obtain ⟨rfl, hf, hp⟩ := hO
  refine ib_same ?_
  refine th_n ?_
  refine wp_seq ?_
  refine wp_reg ?_
  refine st_ldOA (m := 3) (us := [.int .i64 cx0_Length, .int .u32 cx0_One, .int .u32 cx0_Two]) hf (by decide) (by kernel_rfl) rfl rfl (hp.ob (i := 1) rfl) rfl rfl ?_
  clear hf; intro a ha hf; clear ha
  obtain ⟨q12, hcall13, h⟩ := bnd h
  refine st_call hf (by decide) Try.func52 rfl rfl rfl rfl rfl (f_trellis_Code_step_c hp _ _ _ _ _ hcall13) ?_
  rintro _ w ⟨rfl, hp0⟩
  clear hp; have hp := hp0; clear hp0
  replace hp : Hp _ _ _ (Res.sl (Ek.int .i64) 101 (aslv v5 64) q11 :: Res.obj 40 v1 [.int .i64 cx0_Length, .int .u32 cx0_One, .int .u32 cx0_Two] :: ow) := hp
  refine ⟨_, rfl, ?_⟩
  clear hf; intro a hf
  refine st_move hf rfl rfl (by decide) ?_
  clear hf; intro a ha hf; clear ha
  refine st_extract hf (by decide) rfl rfl rfl ?_
  clear hf; intro a ha hf; clear ha
  refine st_extract hf (by decide) rfl rfl rfl ?_
  clear hf; intro a ha hf; clear ha
  refine st_extract hf (by decide) rfl rfl rfl ?_
  clear hf; intro a ha hf; clear ha
  refine st_assign hf rfl rfl (by decide) ?_
  clear hf; intro a ha hf; clear ha
  refine st_assign hf rfl rfl (by decide) ?_
  clear hf; intro a ha hf; clear ha
  refine st_assign hf rfl rfl (by decide) ?_
  clear hf; intro a ha hf; clear ha
  refine st_nil hf ?_
  refine th_n ?_
  refine wp_seq ?_
  refine wp_reg ?_
  refine st_move hf rfl rfl (by decide) ?_
  clear hf; intro a ha hf; clear ha
  refine st_move hf rfl rfl (by decide) ?_
  clear hf; intro a ha hf; clear ha
  refine st_move hf rfl rfl (by decide) ?_
  clear hf; intro a ha hf; clear ha
  refine st_move hf rfl rfl (by decide) ?_
  clear hf; intro a ha hf; clear ha
  refine st_build (E := Ek.bool) (xs := [q12.2.1, q12.2.2]) hf (by decide) elt4 Try.underlying25 hp (vals := #[(0, .bool q12.2.1), (1, .bool q12.2.2)]) (cells := #[.bool q12.2.1, .bool q12.2.2]) rfl (by simp [hf.ev (x := (Operand.tmp 40)) rfl, hf.ev (x := (Operand.tmp 41)) rfl]) (by decide) (by decide) (z := .bool false) (by kernel_rfl) (by kernel_rfl) rfl (reps_cons (cs := [.bool q12.2.1]) rfl (reps_cons (cs := [.bool q12.2.2]) rfl (reps_nil _))) ?_
  clear hf; intro a w v14 hf hp0; clear hp; have hp := hp0; clear hp0
  replace hp : Hp _ _ _ (Res.sl Ek.bool 4 v14 ([q12.2.1, q12.2.2]) :: Res.sl (Ek.int .i64) 101 (aslv v5 64) q11 :: Res.obj 40 v1 [.int .i64 cx0_Length, .int .u32 cx0_One, .int .u32 cx0_Two] :: ow) := hp
  obtain ⟨q16, hcall17, h⟩ := bnd h
  obtain ⟨S18, hp19, rd20, up21, bk22⟩ := Hp.lendS hp (i := 0) rfl
  refine st_call hf (by decide) Try.func51 rfl rfl rfl rfl rfl (f_trellis_Code_Free_1_c hp19 _ _ rd20 hcall17) ?_
  rintro _ w ⟨rfl, hp0⟩
  have hp0 := bk22 _ _ hp0
  clear hp; have hp := hp0; clear hp0
  replace hp : Hp _ _ _ (Res.sl Ek.bool 4 v14 ([q12.2.1, q12.2.2]) :: Res.sl (Ek.int .i64) 101 (aslv v5 64) q11 :: Res.obj 40 v1 [.int .i64 cx0_Length, .int .u32 cx0_One, .int .u32 cx0_Two] :: ow) := hp
  refine ⟨_, rfl, ?_⟩
  clear hf; intro a hf
  obtain ⟨hc23, h⟩ := chk h
  refine st_iaA (E := (Ek.int .i64)) (N := 64) hf (by decide) Try.underlying101 (by kernel_rfl) rfl rfl rfl (hp.sl (i := 1) rfl) rfl hc23.1 hc23.2 ?_
  clear hf; intro a ha hf; clear ha
  refine st_store (E := (Ek.int .i64)) hf elt3 hp (i := 1) rfl rfl rfl rfl rfl (aslv_ix (hp.sl (i := 1) rfl) hc23).1 (aslv_ix (hp.sl (i := 1) rfl) hc23).2 ?_
  clear hf; intro a w hf hp0; clear hp; have hp := hp0; clear hp0
  replace hp : Hp _ _ _ (Res.sl Ek.bool 4 v14 ([q12.2.1, q12.2.2]) :: Res.sl (Ek.int .i64) 101 (aslv v5 64) (q11.set (q12.1).toNat q16) :: Res.obj 40 v1 [.int .i64 cx0_Length, .int .u32 cx0_One, .int .u32 cx0_Two] :: ow) := hp
  refine st_nil hf ?_
  refine th_n ?_
  refine wp_seq ?_
  refine wp_seq ?_
  refine wp_reg ?_
  refine st_move hf rfl rfl (by decide) ?_
  clear hf; intro a ha hf; clear ha
  refine st_move hf rfl rfl (by decide) ?_
  clear hf; intro a ha hf; clear ha
  refine st_nil hf ?_
  refine th_n ?_
  refine wp_block ?_
  obtain ⟨q59, hl, h⟩ := bnd h
  have hp : Hp _ _ _ (Res.sl (Ek.int .i64) 101 (aslv v5 64) (q11.set (q12.1).toNat q16) :: Res.obj 40 v1 [.int .i64 cx0_Length, .int .u32 cx0_One, .int .u32 cx0_Two] :: ow) := Hp.sel (pre := [Res.sl Ek.bool 4 v14 ([q12.2.1, q12.2.2]), Res.sl (Ek.int .i64) 101 (aslv v5 64) (q11.set (q12.1).toNat q16), Res.obj 40 v1 [.int .i64 cx0_Length, .int .u32 cx0_One, .int .u32 cx0_Two]]) (tail := ow) (rs' := [Res.sl (Ek.int .i64) 101 (aslv v5 64) (q11.set (q12.1).toNat q16), Res.obj 40 v1 [.int .i64 cx0_Length, .int .u32 cx0_One, .int .u32 cx0_Two]]) hp [1, 2] (by decide) (by simp) rfl
  refine wp_loop_pure (f := (f_trellis_Code_Free.s2 cx0_Length cx0_One cx0_Two q3)) (s := ((q11.set (q12.1).toNat q16), (0 : Int))) (fun s a w => Fr 86 a [(1, optr v1 0), (4, .int .i64 q3.1), (6, .func (.func 51) #[] #[]), (7, v5), (45, .int .i64 q3.1), (46, .int .i64 s.2)] ∧ Hp S w0 w (Res.sl (Ek.int .i64) 101 (aslv v5 64) s.1 :: Res.obj 40 v1 [.int .i64 cx0_Length, .int .u32 cx0_One, .int .u32 cx0_Two] :: ow)) (fun q e a w => e = .exit 2 ∧ Fr 86 a [(7, v5)] ∧ Hp S w0 w (Res.sl (Ek.int .i64) 101 (aslv v5 64) q :: ow)) ?_ hl ⟨hf.sub ⟨rfl, rfl, rfl, rfl, rfl, rfl, trivial⟩, hp⟩ ?_
  · clear hl hf hp
    intro s x a w h hI
    obtain ⟨least7, t46⟩ := s
    obtain ⟨hf, hp⟩ : Fr 86 a [(1, optr v1 0), (4, .int .i64 q3.1), (6, .func (.func 51) #[] #[]), (7, v5), (45, .int .i64 q3.1), (46, .int .i64 t46)] ∧ Hp S w0 w (Res.sl (Ek.int .i64) 101 (aslv v5 64) least7 :: Res.obj 40 v1 [.int .i64 cx0_Length, .int .u32 cx0_One, .int .u32 cx0_Two] :: ow) := hI
    replace h : f_trellis_Code_Free.s2c cx0_Length cx0_One cx0_Two q3 least7 t46 = some x := h
    unfold f_trellis_Code_Free.s2c at h
    refine wp_seq ?_
    refine wp_reg ?_
    refine st_ilss hf (by decide) rfl rfl rfl ?_
    clear hf; intro a ha hf; clear ha
    refine st_nil hf ?_
    refine th_n ?_
    refine wp_seq ?_
    refine wp_if hf rfl (fun hb => ?_) (fun hb => ?_)
    · replace h := ifT h hb
      refine wp_skip ?_
      refine th_n ?_
      refine wp_seq ?_
      refine wp_block ?_
      refine wp_seq ?_
      refine wp_reg ?_
      refine st_assign hf rfl rfl (by decide) ?_
      clear hf; intro a ha hf; clear ha
      refine st_nil hf ?_
      refine th_n ?_
      refine wp_block ?_
      obtain ⟨q58, hl, h⟩ := bnd h
      refine wp_loop_pure (f := (f_trellis_Code_Free.s3 cx0_Length cx0_One cx0_Two q3)) (s := (least7, (1 : Int))) (fun s a w => Fr 86 a [(1, optr v1 0), (4, .int .i64 q3.1), (6, .func (.func 51) #[] #[]), (7, v5), (12, .int .i64 s.2), (45, .int .i64 q3.1), (46, .int .i64 t46)] ∧ Hp S w0 w (Res.sl (Ek.int .i64) 101 (aslv v5 64) s.1 :: Res.obj 40 v1 [.int .i64 cx0_Length, .int .u32 cx0_One, .int .u32 cx0_Two] :: ow)) (fun q e a w => e = .exit 4 ∧ Fr 86 a [(1, optr v1 0), (4, .int .i64 q3.1), (6, .func (.func 51) #[] #[]), (7, v5), (45, .int .i64 q3.1), (46, .int .i64 t46)] ∧ Hp S w0 w (Res.sl (Ek.int .i64) 101 (aslv v5 64) q :: Res.obj 40 v1 [.int .i64 cx0_Length, .int .u32 cx0_One, .int .u32 cx0_Two] :: ow)) ?_ hl ⟨hf.sub ⟨rfl, rfl, rfl, rfl, rfl, rfl, rfl, trivial⟩, hp⟩ ?_
      · clear hl hf hp
        intro s x a w h hI
        obtain ⟨least7, sx12⟩ := s
        obtain ⟨hf, hp⟩ : Fr 86 a [(1, optr v1 0), (4, .int .i64 q3.1), (6, .func (.func 51) #[] #[]), (7, v5), (12, .int .i64 sx12), (45, .int .i64 q3.1), (46, .int .i64 t46)] ∧ Hp S w0 w (Res.sl (Ek.int .i64) 101 (aslv v5 64) least7 :: Res.obj 40 v1 [.int .i64 cx0_Length, .int .u32 cx0_One, .int .u32 cx0_Two] :: ow) := hI
        replace h : f_trellis_Code_Free.s3c cx0_Length cx0_One cx0_Two q3 least7 sx12 = some x := h
        unfold f_trellis_Code_Free.s3c at h
        refine wp_seq ?_
        refine wp_seq ?_
        refine wp_reg ?_
        refine st_move hf rfl rfl (by decide) ?_
        clear hf; intro a ha hf; clear ha
        refine st_move hf rfl rfl (by decide) ?_
        clear hf; intro a ha hf; clear ha
        refine st_ilss hf (by decide) rfl rfl rfl ?_
        clear hf; intro a ha hf; clear ha
        refine st_nil hf ?_
        refine th_n ?_
        refine wp_if hf rfl (fun hb => ?_) (fun hb => ?_)
        · replace h := ifT h hb
          refine wp_skip ?_
          refine th_n ?_
          refine wp_seq ?_
          refine wp_block ?_
          refine wp_seq ?_
          refine wp_reg ?_
          refine st_build (E := Ek.bool) (xs := [false, true]) hf (by decide) elt4 Try.underlying25 hp (vals := #[(0, .bool false), (1, .bool true)]) (cells := #[.bool false, .bool true]) rfl (by simp [hf.ev (x := (Operand.const (.bool false))) rfl, hf.ev (x := (Operand.const (.bool true))) rfl]) (by decide) (by decide) (z := .bool false) (by kernel_rfl) (by kernel_rfl) rfl (reps_cons (cs := [.bool false]) rfl (reps_cons (cs := [.bool true]) rfl (reps_nil _))) ?_
          clear hf; intro a w v29 hf hp0; clear hp; have hp := hp0; clear hp0
          replace hp : Hp _ _ _ (Res.sl Ek.bool 4 v29 ([false, true]) :: Res.sl (Ek.int .i64) 101 (aslv v5 64) least7 :: Res.obj 40 v1 [.int .i64 cx0_Length, .int .u32 cx0_One, .int .u32 cx0_Two] :: ow) := hp
          refine st_len (E := Ek.bool) hf (by decide) Try.underlying25 rfl rfl (hp.sl (i := 0) rfl) ?_
          clear hf; intro a ha hf; clear ha
          refine st_move hf rfl rfl (by decide) ?_
          clear hf; intro a ha hf; clear ha
          refine st_nil hf ?_
          refine th_n ?_
          refine wp_block ?_
          obtain ⟨q57, hl, h⟩ := bnd h
          have hp : Hp _ _ _ (Res.sl (Ek.int .i64) 101 (aslv v5 64) least7 :: Res.obj 40 v1 [.int .i64 cx0_Length, .int .u32 cx0_One, .int .u32 cx0_Two] :: Res.sl Ek.bool 4 v29 ([false, true]) :: ow) := Hp.sel (pre := [Res.sl Ek.bool 4 v29 ([false, true]), Res.sl (Ek.int .i64) 101 (aslv v5 64) least7, Res.obj 40 v1 [.int .i64 cx0_Length, .int .u32 cx0_One, .int .u32 cx0_Two]]) (tail := ow) (rs' := [Res.sl (Ek.int .i64) 101 (aslv v5 64) least7, Res.obj 40 v1 [.int .i64 cx0_Length, .int .u32 cx0_One, .int .u32 cx0_Two], Res.sl Ek.bool 4 v29 ([false, true])]) hp [1, 2, 0] (by decide) (by simp) rfl
          refine wp_loop_pure (f := (f_trellis_Code_Free.s4 cx0_Length cx0_One cx0_Two sx12)) (s := (least7, (0 : Int))) (fun s a w => Fr 86 a [(1, optr v1 0), (4, .int .i64 q3.1), (6, .func (.func 51) #[] #[]), (7, v5), (12, .int .i64 sx12), (45, .int .i64 q3.1), (46, .int .i64 t46), (53, v29), (54, .int .i64 (([false, true]).length : Int)), (55, .int .i64 s.2)] ∧ Hp S w0 w (Res.sl (Ek.int .i64) 101 (aslv v5 64) s.1 :: Res.obj 40 v1 [.int .i64 cx0_Length, .int .u32 cx0_One, .int .u32 cx0_Two] :: Res.sl Ek.bool 4 v29 ([false, true]) :: ow)) (fun q e a w => e = .exit 6 ∧ Fr 86 a [(1, optr v1 0), (4, .int .i64 q3.1), (6, .func (.func 51) #[] #[]), (7, v5), (12, .int .i64 sx12), (45, .int .i64 q3.1), (46, .int .i64 t46)] ∧ Hp S w0 w (Res.sl (Ek.int .i64) 101 (aslv v5 64) q :: Res.obj 40 v1 [.int .i64 cx0_Length, .int .u32 cx0_One, .int .u32 cx0_Two] :: ow)) ?_ hl ⟨hf.sub ⟨rfl, rfl, rfl, rfl, rfl, rfl, rfl, rfl, rfl, rfl, trivial⟩, hp⟩ ?_
          · clear hl hf hp
            intro s x a w h hI
            obtain ⟨least7, t55⟩ := s
            obtain ⟨hf, hp⟩ : Fr 86 a [(1, optr v1 0), (4, .int .i64 q3.1), (6, .func (.func 51) #[] #[]), (7, v5), (12, .int .i64 sx12), (45, .int .i64 q3.1), (46, .int .i64 t46), (53, v29), (54, .int .i64 (([false, true]).length : Int)), (55, .int .i64 t55)] ∧ Hp S w0 w (Res.sl (Ek.int .i64) 101 (aslv v5 64) least7 :: Res.obj 40 v1 [.int .i64 cx0_Length, .int .u32 cx0_One, .int .u32 cx0_Two] :: Res.sl Ek.bool 4 v29 ([false, true]) :: ow) := hI
            replace h : f_trellis_Code_Free.s4c cx0_Length cx0_One cx0_Two sx12 least7 t55 = some x := h
            unfold f_trellis_Code_Free.s4c at h
            refine wp_seq ?_
            refine wp_reg ?_
            refine st_ilss hf (by decide) rfl rfl rfl ?_
            clear hf; intro a ha hf; clear ha
            refine st_nil hf ?_
            refine th_n ?_
            refine wp_seq ?_
            refine wp_if hf rfl (fun hb => ?_) (fun hb => ?_)
            · replace h := ifT h hb
              refine wp_skip ?_
              refine th_n ?_
              refine wp_seq ?_
              refine wp_block ?_
              refine wp_seq ?_
              refine wp_reg ?_
              obtain ⟨hc33, h⟩ := chk h
              refine st_index (E := Ek.bool) hf (by decide) Try.underlying25 elt4 rfl rfl rfl (hp.sl (i := 2) rfl) hc33.1 hc33.2 ?_
              clear hf; intro a ha hf; clear ha
              refine st_ldB hf (by decide) pl4 rfl rfl (hp.sl (i := 2) rfl) hc33.1 hc33.2 ?_
              clear hf; intro a ha hf; clear ha
              refine st_assign hf rfl rfl (by decide) ?_
              clear hf; intro a ha hf; clear ha
              refine st_nil hf ?_
              refine th_n ?_
              refine wp_seq ?_
              refine wp_reg ?_
              refine st_ldOA (m := 3) (us := [.int .i64 cx0_Length, .int .u32 cx0_One, .int .u32 cx0_Two]) hf (by decide) (by kernel_rfl) rfl rfl (hp.ob (i := 1) rfl) rfl rfl ?_
              clear hf; intro a ha hf; clear ha
              refine st_move hf rfl rfl (by decide) ?_
              clear hf; intro a ha hf; clear ha
              refine st_move hf rfl rfl (by decide) ?_
              clear hf; intro a ha hf; clear ha
              obtain ⟨q34, hcall35, h⟩ := bnd h
              refine st_call hf (by decide) Try.func52 rfl rfl rfl rfl rfl (f_trellis_Code_step_c hp _ _ _ _ _ hcall35) ?_
              rintro _ w ⟨rfl, hp0⟩
              clear hp; have hp := hp0; clear hp0
              replace hp : Hp _ _ _ (Res.sl (Ek.int .i64) 101 (aslv v5 64) least7 :: Res.obj 40 v1 [.int .i64 cx0_Length, .int .u32 cx0_One, .int .u32 cx0_Two] :: Res.sl Ek.bool 4 v29 ([false, true]) :: ow) := hp
              refine ⟨_, rfl, ?_⟩
              clear hf; intro a hf
              refine st_move hf rfl rfl (by decide) ?_
              clear hf; intro a ha hf; clear ha
              refine st_extract hf (by decide) rfl rfl rfl ?_
              clear hf; intro a ha hf; clear ha
              refine st_extract hf (by decide) rfl rfl rfl ?_
              clear hf; intro a ha hf; clear ha
              refine st_extract hf (by decide) rfl rfl rfl ?_
              clear hf; intro a ha hf; clear ha
              refine st_assign hf rfl rfl (by decide) ?_
              clear hf; intro a ha hf; clear ha
              refine st_assign hf rfl rfl (by decide) ?_
              clear hf; intro a ha hf; clear ha
              refine st_assign hf rfl rfl (by decide) ?_
              clear hf; intro a ha hf; clear ha
              refine st_nil hf ?_
              refine th_n ?_
              obtain ⟨S36, hp37, rd38, up39, bk40⟩ := Hp.lendS hp (i := 0) rfl
              have rl41 := rd38
              obtain ⟨hc42, h⟩ := chk h
              have hc43 := aslv_ix rl41 hc42
              obtain ⟨hc44, h⟩ := chk h
              have hc45 := aslv_ix rl41 hc44
              obtain ⟨q48, hcall49, h⟩ := bnd h
              obtain ⟨hc55, h⟩ := chk h
              have hc56 := aslv_ix rl41 hc55
              refine wp_cutN (fun a w => ∃ (v46 : Value), Fr 86 a [(1, optr v1 0), (4, .int .i64 q3.1), (6, .func (.func 51) #[] #[]), (7, v5), (12, .int .i64 sx12), (45, .int .i64 q3.1), (46, .int .i64 t46), (53, v29), (54, .int .i64 (([false, true]).length : Int)), (55, .int .i64 t55)] ∧ Hp S w0 w (Res.sl (Ek.int .i64) 101 (aslv v5 64) (least7.set (q34.1).toNat (imin (gt least7 q34.1) (IntKind.i64.wrap ((gt least7 sx12) + q48)))) :: Res.sl Ek.bool 4 v46 ([q34.2.1, q34.2.2]) :: Res.obj 40 v1 [.int .i64 cx0_Length, .int .u32 cx0_One, .int .u32 cx0_Two] :: Res.sl Ek.bool 4 v29 ([false, true]) :: ow)) ?_ ?_
              · have hp := hp37.same (Same.drew w)
                refine dr_begin' (fun a w => ∃ (v46 : Value), Fr 86 a [(1, optr v1 0), (4, .int .i64 q3.1), (6, .func (.func 51) #[] #[]), (7, v5), (12, .int .i64 sx12), (45, .int .i64 q3.1), (46, .int .i64 t46), (53, v29), (54, .int .i64 (([false, true]).length : Int)), (55, .int .i64 t55)] ∧ Hp S w0 w (Res.sl (Ek.int .i64) 101 (aslv v5 64) (least7.set (q34.1).toNat (imin (gt least7 q34.1) (IntKind.i64.wrap ((gt least7 sx12) + q48)))) :: Res.sl Ek.bool 4 v46 ([q34.2.1, q34.2.2]) :: Res.obj 40 v1 [.int .i64 cx0_Length, .int .u32 cx0_One, .int .u32 cx0_Two] :: Res.sl Ek.bool 4 v29 ([false, true]) :: ow)) (fun w' => ∃ l, Hp S36 w w' l) [15] (by kernel_rfl) ?_
                refine dr_takeP 0 (.int .i64 q34.1) rfl (by kernel_rfl) (by kernel_rfl) (by kernel_rfl) rfl rfl hf (by decide) rfl (fun w => ?_) ?_
                · skip
                  refine st_move hf rfl rfl (by decide) ?_
                  clear hf; intro a ha hf
                  exact st_nil hf (th_n ⟨ha, rfl⟩)
                clear hf; intro a hf
                refine dr_takeP 1 (.int .i64 q34.1) rfl (by kernel_rfl) (by kernel_rfl) (by kernel_rfl) rfl rfl hf (by decide) rfl (fun w => ?_) ?_
                · skip
                  refine st_move hf rfl rfl (by decide) ?_
                  clear hf; intro a ha hf
                  exact st_nil hf (th_n ⟨ha, rfl⟩)
                clear hf; intro a hf
                refine dr_takeP 2 (eptr (aslv v5 64) q34.1 1) rfl (by kernel_rfl) (by kernel_rfl) (by kernel_rfl) rfl rfl hf (by decide) rfl (fun w => ?_) ?_
                · skip
                  refine st_iaA (E := (Ek.int .i64)) (N := 64) hf (by decide) Try.underlying101 (by kernel_rfl) rfl rfl rfl rl41.any rfl hc42.1 hc42.2 ?_
                  clear hf; intro a ha hf
                  exact st_nil hf (th_n ⟨ha, rfl⟩)
                clear hf; intro a hf
                refine dr_take2 3 (.int .i64 (gt least7 q34.1)) rfl (by kernel_rfl) (by kernel_rfl) (by kernel_rfl) (by kernel_rfl) (by kernel_rfl) rfl rfl hf (by decide) rfl (fun w hp => ?_) ⟨_, hp⟩ ?_
                · obtain ⟨_, hp⟩ := hp
                  refine st_ldI hf (by decide) pl3 rfl rfl (rl41.sl hp) hc43.1 hc43.2 ?_
                  clear hf; intro a ha hf
                  exact st_nil hf (th_n ⟨ha, rfl⟩)
                clear hf; intro a hf
                refine dr_takeP 4 (.int .i64 sx12) rfl (by kernel_rfl) (by kernel_rfl) (by kernel_rfl) rfl rfl hf (by decide) rfl (fun w => ?_) ?_
                · skip
                  refine st_move hf rfl rfl (by decide) ?_
                  clear hf; intro a ha hf
                  exact st_nil hf (th_n ⟨ha, rfl⟩)
                clear hf; intro a hf
                refine dr_takeP 5 (eptr (aslv v5 64) sx12 1) rfl (by kernel_rfl) (by kernel_rfl) (by kernel_rfl) rfl rfl hf (by decide) rfl (fun w => ?_) ?_
                · skip
                  refine st_iaA (E := (Ek.int .i64)) (N := 64) hf (by decide) Try.underlying101 (by kernel_rfl) rfl rfl rfl rl41.any rfl hc44.1 hc44.2 ?_
                  clear hf; intro a ha hf
                  exact st_nil hf (th_n ⟨ha, rfl⟩)
                clear hf; intro a hf
                refine dr_take2 6 (.int .i64 (gt least7 sx12)) rfl (by kernel_rfl) (by kernel_rfl) (by kernel_rfl) (by kernel_rfl) (by kernel_rfl) rfl rfl hf (by decide) rfl (fun w hp => ?_) ⟨_, hp⟩ ?_
                · obtain ⟨_, hp⟩ := hp
                  refine st_ldI hf (by decide) pl3 rfl rfl (rl41.sl hp) hc45.1 hc45.2 ?_
                  clear hf; intro a ha hf
                  exact st_nil hf (th_n ⟨ha, rfl⟩)
                clear hf; intro a hf
                refine dr_takeP 7 (.func (.func 51) #[] #[]) rfl (by kernel_rfl) (by kernel_rfl) (by kernel_rfl) rfl rfl hf (by decide) rfl (fun w => ?_) ?_
                · skip
                  refine st_move hf rfl rfl (by decide) ?_
                  clear hf; intro a ha hf
                  exact st_nil hf (th_n ⟨ha, rfl⟩)
                clear hf; intro a hf
                refine dr_takeP 8 (.bool q34.2.1) rfl (by kernel_rfl) (by kernel_rfl) (by kernel_rfl) rfl rfl hf (by decide) rfl (fun w => ?_) ?_
                · skip
                  refine st_move hf rfl rfl (by decide) ?_
                  clear hf; intro a ha hf
                  exact st_nil hf (th_n ⟨ha, rfl⟩)
                clear hf; intro a hf
                refine dr_takeP 9 (.bool q34.2.2) rfl (by kernel_rfl) (by kernel_rfl) (by kernel_rfl) rfl rfl hf (by decide) rfl (fun w => ?_) ?_
                · skip
                  refine st_move hf rfl rfl (by decide) ?_
                  clear hf; intro a ha hf
                  exact st_nil hf (th_n ⟨ha, rfl⟩)
                clear hf; intro a hf
                refine dr_one 10 rfl (by kernel_rfl) ?_
                refine st_build (E := Ek.bool) (xs := [q34.2.1, q34.2.2]) hf (by decide) elt4 Try.underlying25 hp (vals := #[(0, .bool q34.2.1), (1, .bool q34.2.2)]) (cells := #[.bool q34.2.1, .bool q34.2.2]) rfl (by simp [hf.ev (x := (Operand.tmp 75)) rfl, hf.ev (x := (Operand.tmp 76)) rfl]) (by decide) (by decide) (z := .bool false) (by kernel_rfl) (by kernel_rfl) rfl (reps_cons (cs := [.bool q34.2.1]) rfl (reps_cons (cs := [.bool q34.2.2]) rfl (reps_nil _))) ?_
                clear hf; intro a w v46 hf hp0; clear hp; have hp := hp0; clear hp0
                replace hp : Hp _ _ _ (Res.sl Ek.bool 4 v46 ([q34.2.1, q34.2.2]) :: Res.obj 40 v1 [.int .i64 cx0_Length, .int .u32 cx0_One, .int .u32 cx0_Two] :: Res.sl Ek.bool 4 v29 ([false, true]) :: ow) := hp
                refine st_nil hf (th_n ⟨fun _ _ => ⟨_, hp⟩, ?_⟩)
                refine dr_one 11 rfl (by kernel_rfl) ?_
                obtain ⟨S50, hp51, rd52, up53, bk54⟩ := Hp.lendS hp (i := 0) rfl
                refine st_call hf (by decide) Try.func51 rfl rfl rfl rfl rfl (f_trellis_Code_Free_1_c hp51 _ _ rd52 hcall49) ?_
                rintro _ w ⟨rfl, hp0⟩
                have hp0 := bk54 _ _ hp0
                clear hp; have hp := hp0; clear hp0
                replace hp : Hp _ _ _ (Res.sl Ek.bool 4 v46 ([q34.2.1, q34.2.2]) :: Res.obj 40 v1 [.int .i64 cx0_Length, .int .u32 cx0_One, .int .u32 cx0_Two] :: Res.sl Ek.bool 4 v29 ([false, true]) :: ow) := hp
                refine ⟨_, rfl, ?_⟩
                clear hf; intro a hf
                refine st_nil hf (th_n ⟨fun _ _ => ⟨_, hp⟩, ?_⟩)
                refine dr_takeP 12 (.int .i64 (IntKind.i64.wrap ((gt least7 sx12) + q48))) rfl (by kernel_rfl) (by kernel_rfl) (by kernel_rfl) rfl rfl hf (by decide) rfl (fun w => ?_) ?_
                · skip
                  refine st_iadd hf (by decide) rfl rfl rfl ?_
                  clear hf; intro a ha hf
                  exact st_nil hf (th_n ⟨ha, rfl⟩)
                clear hf; intro a hf
                refine dr_takeP 13 (.int .i64 (imin (gt least7 q34.1) (IntKind.i64.wrap ((gt least7 sx12) + q48)))) rfl (by kernel_rfl) (by kernel_rfl) (by kernel_rfl) rfl rfl hf (by decide) rfl (fun w => ?_) ?_
                · skip
                  refine st_imin hf (by decide) rfl rfl rfl ?_
                  clear hf; intro a ha hf
                  exact st_nil hf (th_n ⟨ha, rfl⟩)
                clear hf; intro a hf
                refine dr_takeP 14 (eptr (aslv v5 64) q34.1 1) rfl (by kernel_rfl) (by kernel_rfl) (by kernel_rfl) rfl rfl hf (by decide) rfl (fun w => ?_) ?_
                · skip
                  refine st_iaA (E := (Ek.int .i64)) (N := 64) hf (by decide) Try.underlying101 (by kernel_rfl) rfl rfl rfl rl41.any rfl hc55.1 hc55.2 ?_
                  clear hf; intro a ha hf
                  exact st_nil hf (th_n ⟨ha, rfl⟩)
                clear hf; intro a hf
                have hp := bk40 _ _ hp
                refine dr_one 15 rfl (by kernel_rfl) ?_
                refine st_store (E := (Ek.int .i64)) hf elt3 hp (i := 0) rfl rfl rfl rfl rfl hc56.1 hc56.2 ?_
                clear hf; intro a w hf hp0; clear hp; have hp := hp0; clear hp0
                replace hp : Hp _ _ _ (Res.sl (Ek.int .i64) 101 (aslv v5 64) (least7.set (q34.1).toNat (imin (gt least7 q34.1) (IntKind.i64.wrap ((gt least7 sx12) + q48)))) :: Res.sl Ek.bool 4 v46 ([q34.2.1, q34.2.2]) :: Res.obj 40 v1 [.int .i64 cx0_Length, .int .u32 cx0_One, .int .u32 cx0_Two] :: Res.sl Ek.bool 4 v29 ([false, true]) :: ow) := hp
                refine st_nil hf (th_n ⟨fun hn => absurd hn (by decide), ?_⟩)
                refine dr_end (by kernel_rfl) ?_ _
                exact ⟨v46, hf.sub ⟨rfl, rfl, rfl, rfl, rfl, rfl, rfl, rfl, rfl, rfl, trivial⟩, hp⟩
              rintro a w ⟨v46, hf, hp⟩
              refine ib_n ?_
              refine th_n ?_
              refine wp_reg ?_
              refine st_iadd hf (by decide) rfl rfl rfl ?_
              clear hf; intro a ha hf; clear ha
              refine st_move hf rfl rfl (by decide) ?_
              clear hf; intro a ha hf; clear ha
              refine st_nil hf ?_
              obtain rfl := Option.some.inj h
              have hp : Hp _ _ _ (Res.sl (Ek.int .i64) 101 (aslv v5 64) (least7.set (q34.1).toNat (imin (gt least7 q34.1) (IntKind.i64.wrap ((gt least7 sx12) + q48)))) :: Res.obj 40 v1 [.int .i64 cx0_Length, .int .u32 cx0_One, .int .u32 cx0_Two] :: Res.sl Ek.bool 4 v29 ([false, true]) :: ow) := Hp.sel (pre := [Res.sl (Ek.int .i64) 101 (aslv v5 64) (least7.set (q34.1).toNat (imin (gt least7 q34.1) (IntKind.i64.wrap ((gt least7 sx12) + q48)))), Res.sl Ek.bool 4 v46 ([q34.2.1, q34.2.2]), Res.obj 40 v1 [.int .i64 cx0_Length, .int .u32 cx0_One, .int .u32 cx0_Two], Res.sl Ek.bool 4 v29 ([false, true])]) (tail := ow) (rs' := [Res.sl (Ek.int .i64) 101 (aslv v5 64) (least7.set (q34.1).toNat (imin (gt least7 q34.1) (IntKind.i64.wrap ((gt least7 sx12) + q48)))), Res.obj 40 v1 [.int .i64 cx0_Length, .int .u32 cx0_One, .int .u32 cx0_Two], Res.sl Ek.bool 4 v29 ([false, true])]) hp [0, 2, 3] (by decide) (by simp) rfl
              exact rnd_l ⟨hf.sub ⟨rfl, rfl, rfl, rfl, rfl, rfl, rfl, rfl, rfl, rfl, trivial⟩, hp⟩
            replace h := ifF h hb
            refine wp_exit ?_
            refine th_e ?_
            obtain rfl := Option.some.inj h
            have hp : Hp _ _ _ (Res.sl (Ek.int .i64) 101 (aslv v5 64) least7 :: Res.obj 40 v1 [.int .i64 cx0_Length, .int .u32 cx0_One, .int .u32 cx0_Two] :: ow) := Hp.sel (pre := [Res.sl (Ek.int .i64) 101 (aslv v5 64) least7, Res.obj 40 v1 [.int .i64 cx0_Length, .int .u32 cx0_One, .int .u32 cx0_Two], Res.sl Ek.bool 4 v29 ([false, true])]) (tail := ow) (rs' := [Res.sl (Ek.int .i64) 101 (aslv v5 64) least7, Res.obj 40 v1 [.int .i64 cx0_Length, .int .u32 cx0_One, .int .u32 cx0_Two]]) hp [0, 1] (by decide) (by simp) rfl
            exact rnd_r (by simp) ⟨rfl, hf.sub ⟨rfl, rfl, rfl, rfl, rfl, rfl, rfl, trivial⟩, hp⟩
          clear hl hf hp
          intro e a w hne hO
          obtain ⟨rfl, hf, hp⟩ := hO
          refine ib_same ?_
          refine ib_n ?_
          refine th_n ?_
          refine wp_reg ?_
          refine st_move hf rfl rfl (by decide) ?_
          clear hf; intro a ha hf; clear ha
          refine st_iadd hf (by decide) rfl rfl rfl ?_
          clear hf; intro a ha hf; clear ha
          refine st_assign hf rfl rfl (by decide) ?_
          clear hf; intro a ha hf; clear ha
          refine st_nil hf ?_
          obtain rfl := Option.some.inj h
          exact rnd_l ⟨hf.sub ⟨rfl, rfl, rfl, rfl, rfl, rfl, rfl, trivial⟩, hp⟩
        replace h := ifF h hb
        refine wp_exit ?_
        refine th_e ?_
        obtain rfl := Option.some.inj h
        exact rnd_r (by simp) ⟨rfl, hf.sub ⟨rfl, rfl, rfl, rfl, rfl, rfl, trivial⟩, hp⟩
      clear hl hf hp
      intro e a w hne hO
      obtain ⟨rfl, hf, hp⟩ := hO
      refine ib_same ?_
      refine ib_n ?_
      refine th_n ?_
      refine wp_reg ?_
      refine st_iadd hf (by decide) rfl rfl rfl ?_
      clear hf; intro a ha hf; clear ha
      refine st_move hf rfl rfl (by decide) ?_
      clear hf; intro a ha hf; clear ha
      refine st_nil hf ?_
      obtain rfl := Option.some.inj h
      exact rnd_l ⟨hf.sub ⟨rfl, rfl, rfl, rfl, rfl, rfl, trivial⟩, hp⟩
    replace h := ifF h hb
    refine wp_exit ?_
    refine th_e ?_
    obtain rfl := Option.some.inj h
    have hp : Hp _ _ _ (Res.sl (Ek.int .i64) 101 (aslv v5 64) least7 :: ow) := Hp.sel (pre := [Res.sl (Ek.int .i64) 101 (aslv v5 64) least7, Res.obj 40 v1 [.int .i64 cx0_Length, .int .u32 cx0_One, .int .u32 cx0_Two]]) (tail := ow) (rs' := [Res.sl (Ek.int .i64) 101 (aslv v5 64) least7]) hp [0] (by decide) (by simp) rfl
    exact rnd_r (by simp) ⟨rfl, hf.sub ⟨rfl, trivial⟩, hp⟩
  clear hl hf hp
  intro e a w hne hO
  obtain ⟨rfl, hf, hp⟩ := hO
  refine ib_same ?_
  refine th_n ?_
  refine wp_seq ?_
  refine wp_reg ?_
  have hc60 : 0 ≤ (0 : Int) ∧ (0 : Int) < (64 : Int) := by decide
  refine st_iaA (E := (Ek.int .i64)) (N := 64) hf (by decide) Try.underlying101 (by kernel_rfl) rfl rfl rfl (hp.sl (i := 0) rfl) rfl hc60.1 hc60.2 ?_
  clear hf; intro a ha hf; clear ha
  refine st_ldI hf (by decide) pl3 rfl rfl (hp.sl (i := 0) rfl) (aslv_ix (hp.sl (i := 0) rfl) hc60).1 (aslv_ix (hp.sl (i := 0) rfl) hc60).2 ?_
  clear hf; intro a ha hf; clear ha
  refine st_assign hf rfl rfl (by decide) ?_
  clear hf; intro a ha hf; clear ha
  refine st_assign hf rfl rfl (by decide) ?_
  clear hf; intro a ha hf; clear ha
  refine st_nil hf ?_
  refine th_n ?_
  refine wp_ret ?_
  obtain rfl := Option.some.inj h
  have hp : Hp _ _ _ (ow) := Hp.sel (pre := [Res.sl (Ek.int .i64) 101 (aslv v5 64) q59]) (tail := ow) (rs' := []) hp [] (by decide) (by simp) rfl
  exact ⟨rfl, ⟨hf.sub ⟨rfl, rfl, trivial⟩, hp⟩⟩

noncomputable def f_foghornref21_Same.s1c (ax0 : (List Bool)) (bx1 : (List Bool)) (i5 : Int) : Option (Int ⊕ (Unit ⊕ Bool)) := (if (decide (i5 < (ax0.length : Int))) = true then (if 0 ≤ i5 ∧ i5 < (ax0.length : Int) then (if 0 ≤ i5 ∧ i5 < (bx1.length : Int) then (if ((gt ax0 i5) != (gt bx1 i5)) = true then (some (Sum.inr (Sum.inr false))) else (some (Sum.inl (IntKind.i64.wrap (i5 + (1 : Int)))))) else none) else none) else (some (Sum.inr (Sum.inl ()))))
noncomputable def f_foghornref21_Same.s1 (ax0 : (List Bool)) (bx1 : (List Bool)) (s : Int) : Option (Int ⊕ (Unit ⊕ Bool)) := f_foghornref21_Same.s1c ax0 bx1 s
noncomputable def f_foghornref21_Same (ax0 : (List Bool)) (bx1 : (List Bool)) : Option Bool := (if ((ax0.length : Int) != (bx1.length : Int)) = true then (some false) else ((loop (f_foghornref21_Same.s1 ax0 bx1) (0 : Int)).bind (fun q3 => sm q3 (fun q4 => (some true)) (fun q5 => (some q5)))))
theorem f_foghornref21_Same_c {S : Nat → Prop} {w0 w : World} {ow : List Res} (hp : Hp S w0 w ow) (vax0 : Value) (ax0 : (List Bool)) (hax0 : RdS Ek.bool S w0 vax0 ax0) (vbx1 : Value) (bx1 : (List Bool)) (hbx1 : RdS Ek.bool S w0 vbx1 bx1) {r : Bool} (h : f_foghornref21_Same ax0 bx1 = some r) :
    Calls Try.prog 19 #[vax0, vbx1] w (fun e w' => e = .returned (.bool r) ∧ Hp S w0 w' (ow)) := by
  unfold f_foghornref21_Same at h
  refine enter (n := 26) (args := [vax0, vbx1]) Try.func19 rfl rfl (Nat.le_of_ble_eq_true rfl) fun a hf => ?_
  replace hf : Fr 26 a [(0, vax0), (1, vbx1)] := hf
  refine wp_mono (Q := fun e a w => e = .ret ∧ Fr 26 a [(4, .bool r)] ∧ Hp S w0 w (ow)) ?_ ?_
  rotate_left
  · rintro e a w ⟨rfl, hf, hp⟩
    exact ret1 hf rfl rfl ⟨rfl, hp⟩
  refine wp_seq ?_
  refine wp_reg ?_
  refine st_assign hf rfl rfl (by decide) ?_
  clear hf; intro a ha hf; clear ha
  refine st_nil hf ?_
  refine th_n ?_
  refine wp_seq ?_
  refine wp_seq ?_
  refine wp_reg ?_
  refine st_move hf rfl rfl (by decide) ?_
  clear hf; intro a ha hf; clear ha
  refine st_len (E := Ek.bool) hf (by decide) Try.underlying25 rfl rfl (hax0.sl hp) ?_
  clear hf; intro a ha hf; clear ha
  refine st_move hf rfl rfl (by decide) ?_
  clear hf; intro a ha hf; clear ha
  refine st_len (E := Ek.bool) hf (by decide) Try.underlying25 rfl rfl (hbx1.sl hp) ?_
  clear hf; intro a ha hf; clear ha
  refine st_ineq hf (by decide) rfl rfl rfl ?_
  clear hf; intro a ha hf; clear ha
  refine st_nil hf ?_
  refine th_n ?_
  refine wp_if hf rfl (fun hb => ?_) (fun hb => ?_)
  · replace h := ifT h hb
    refine wp_seq ?_
    refine wp_reg ?_
    refine st_assign hf rfl rfl (by decide) ?_
    clear hf; intro a ha hf; clear ha
    refine st_nil hf ?_
    refine th_n ?_
    refine wp_ret ?_
    refine th_r ?_
    obtain rfl := Option.some.inj h
    exact ⟨rfl, ⟨hf.sub ⟨rfl, trivial⟩, hp⟩⟩
  replace h := ifF h hb
  refine wp_skip ?_
  refine th_n ?_
  refine wp_seq ?_
  refine wp_seq ?_
  refine wp_reg ?_
  refine st_assign hf rfl rfl (by decide) ?_
  clear hf; intro a ha hf; clear ha
  refine st_nil hf ?_
  refine th_n ?_
  refine wp_block ?_
  obtain ⟨q3, hl, h⟩ := bnd h
  refine wp_loop_pure (f := (f_foghornref21_Same.s1 ax0 bx1)) (s := (0 : Int)) (fun s a w => Fr 26 a [(0, vax0), (1, vbx1), (5, .int .i64 s)] ∧ Hp S w0 w (ow)) (fun q e a w => match q with | (Sum.inl q) => e = .exit 0 ∧ Fr 26 a [] ∧ Hp S w0 w (ow) | (Sum.inr q) => e = .ret ∧ Fr 26 a [(4, .bool q)] ∧ Hp S w0 w (ow)) ?_ hl ⟨hf.sub ⟨rfl, rfl, rfl, trivial⟩, hp⟩ ?_
  · clear hl hf hp
    intro s x a w h hI
    obtain ⟨i5, hs⟩ : ∃ z, z = s := ⟨s, rfl⟩; subst hs
    obtain ⟨hf, hp⟩ : Fr 26 a [(0, vax0), (1, vbx1), (5, .int .i64 i5)] ∧ Hp S w0 w (ow) := hI
    replace h : f_foghornref21_Same.s1c ax0 bx1 i5 = some x := h
    unfold f_foghornref21_Same.s1c at h
    refine wp_seq ?_
    refine wp_seq ?_
    refine wp_reg ?_
    refine st_move hf rfl rfl (by decide) ?_
    clear hf; intro a ha hf; clear ha
    refine st_move hf rfl rfl (by decide) ?_
    clear hf; intro a ha hf; clear ha
    refine st_len (E := Ek.bool) hf (by decide) Try.underlying25 rfl rfl (hax0.sl hp) ?_
    clear hf; intro a ha hf; clear ha
    refine st_ilss hf (by decide) rfl rfl rfl ?_
    clear hf; intro a ha hf; clear ha
    refine st_nil hf ?_
    refine th_n ?_
    refine wp_if hf rfl (fun hb => ?_) (fun hb => ?_)
    · replace h := ifT h hb
      refine wp_skip ?_
      refine th_n ?_
      refine wp_seq ?_
      refine wp_block ?_
      refine wp_seq ?_
      obtain ⟨hc1, h⟩ := chk h
      obtain ⟨hc2, h⟩ := chk h
      refine wp_cutN (fun a w => Fr 26 a [(0, vax0), (1, vbx1), (5, .int .i64 i5), (25, .bool ((gt ax0 i5) != (gt bx1 i5)))] ∧ Hp S w0 w (ow)) ?_ ?_
      · have hp := hp.same (Same.drew w)
        refine dr_begin' (fun a w => Fr 26 a [(0, vax0), (1, vbx1), (5, .int .i64 i5), (25, .bool ((gt ax0 i5) != (gt bx1 i5)))] ∧ Hp S w0 w (ow)) (fun w' => ∃ l, Hp S w0 w' l) [] (by kernel_rfl) ?_
        refine dr_take 0 (vax0) rfl (by kernel_rfl) (by kernel_rfl) (by kernel_rfl) (by kernel_rfl) rfl rfl hf (by decide) rfl (fun w hp => ?_) ⟨_, hp⟩ ?_
        · obtain ⟨_, hp⟩ := hp
          refine st_move hf rfl rfl (by decide) ?_
          clear hf; intro a ha hf
          exact st_nil hf (th_n ⟨ha, rfl⟩)
        clear hf; intro a hf
        refine dr_take 1 (.int .i64 i5) rfl (by kernel_rfl) (by kernel_rfl) (by kernel_rfl) (by kernel_rfl) rfl rfl hf (by decide) rfl (fun w hp => ?_) ⟨_, hp⟩ ?_
        · obtain ⟨_, hp⟩ := hp
          refine st_move hf rfl rfl (by decide) ?_
          clear hf; intro a ha hf
          exact st_nil hf (th_n ⟨ha, rfl⟩)
        clear hf; intro a hf
        refine dr_take 2 (eptr vax0 i5 1) rfl (by kernel_rfl) (by kernel_rfl) (by kernel_rfl) (by kernel_rfl) rfl rfl hf (by decide) rfl (fun w hp => ?_) ⟨_, hp⟩ ?_
        · obtain ⟨_, hp⟩ := hp
          refine st_index (E := Ek.bool) hf (by decide) Try.underlying25 elt4 rfl rfl rfl (hax0.sl hp) hc1.1 hc1.2 ?_
          clear hf; intro a ha hf
          exact st_nil hf (th_n ⟨ha, rfl⟩)
        clear hf; intro a hf
        refine dr_take 3 (.bool (gt ax0 i5)) rfl (by kernel_rfl) (by kernel_rfl) (by kernel_rfl) (by kernel_rfl) rfl rfl hf (by decide) rfl (fun w hp => ?_) ⟨_, hp⟩ ?_
        · obtain ⟨_, hp⟩ := hp
          refine st_ldB hf (by decide) pl4 rfl rfl (hax0.sl hp) hc1.1 hc1.2 ?_
          clear hf; intro a ha hf
          exact st_nil hf (th_n ⟨ha, rfl⟩)
        clear hf; intro a hf
        refine dr_take 4 (vbx1) rfl (by kernel_rfl) (by kernel_rfl) (by kernel_rfl) (by kernel_rfl) rfl rfl hf (by decide) rfl (fun w hp => ?_) ⟨_, hp⟩ ?_
        · obtain ⟨_, hp⟩ := hp
          refine st_move hf rfl rfl (by decide) ?_
          clear hf; intro a ha hf
          exact st_nil hf (th_n ⟨ha, rfl⟩)
        clear hf; intro a hf
        refine dr_take 5 (.int .i64 i5) rfl (by kernel_rfl) (by kernel_rfl) (by kernel_rfl) (by kernel_rfl) rfl rfl hf (by decide) rfl (fun w hp => ?_) ⟨_, hp⟩ ?_
        · obtain ⟨_, hp⟩ := hp
          refine st_move hf rfl rfl (by decide) ?_
          clear hf; intro a ha hf
          exact st_nil hf (th_n ⟨ha, rfl⟩)
        clear hf; intro a hf
        refine dr_take 6 (eptr vbx1 i5 1) rfl (by kernel_rfl) (by kernel_rfl) (by kernel_rfl) (by kernel_rfl) rfl rfl hf (by decide) rfl (fun w hp => ?_) ⟨_, hp⟩ ?_
        · obtain ⟨_, hp⟩ := hp
          refine st_index (E := Ek.bool) hf (by decide) Try.underlying25 elt4 rfl rfl rfl (hbx1.sl hp) hc2.1 hc2.2 ?_
          clear hf; intro a ha hf
          exact st_nil hf (th_n ⟨ha, rfl⟩)
        clear hf; intro a hf
        refine dr_take 7 (.bool (gt bx1 i5)) rfl (by kernel_rfl) (by kernel_rfl) (by kernel_rfl) (by kernel_rfl) rfl rfl hf (by decide) rfl (fun w hp => ?_) ⟨_, hp⟩ ?_
        · obtain ⟨_, hp⟩ := hp
          refine st_ldB hf (by decide) pl4 rfl rfl (hbx1.sl hp) hc2.1 hc2.2 ?_
          clear hf; intro a ha hf
          exact st_nil hf (th_n ⟨ha, rfl⟩)
        clear hf; intro a hf
        refine dr_take 8 (.bool ((gt ax0 i5) != (gt bx1 i5))) rfl (by kernel_rfl) (by kernel_rfl) (by kernel_rfl) (by kernel_rfl) rfl rfl hf (by decide) rfl (fun w hp => ?_) ⟨_, hp⟩ ?_
        · obtain ⟨_, hp⟩ := hp
          refine st_bneq hf (by decide) Try.underlying4 rfl rfl rfl ?_
          clear hf; intro a ha hf
          exact st_nil hf (th_n ⟨ha, rfl⟩)
        clear hf; intro a hf
        refine dr_end (by kernel_rfl) ?_ _
        exact ⟨hf.sub ⟨rfl, rfl, rfl, rfl, trivial⟩, hp⟩
      rintro a w ⟨hf, hp⟩
      refine th_n ?_
      refine wp_if hf rfl (fun hb => ?_) (fun hb => ?_)
      · replace h := ifT h hb
        refine wp_seq ?_
        refine wp_reg ?_
        refine st_assign hf rfl rfl (by decide) ?_
        clear hf; intro a ha hf; clear ha
        refine st_nil hf ?_
        refine th_n ?_
        refine wp_ret ?_
        refine ib_r ?_
        refine th_r ?_
        obtain rfl := Option.some.inj h
        exact rnd_r (by simp) ⟨rfl, ⟨hf.sub ⟨rfl, trivial⟩, hp⟩⟩
      replace h := ifF h hb
      refine wp_skip ?_
      refine ib_n ?_
      refine th_n ?_
      refine wp_reg ?_
      refine st_move hf rfl rfl (by decide) ?_
      clear hf; intro a ha hf; clear ha
      refine st_iadd hf (by decide) rfl rfl rfl ?_
      clear hf; intro a ha hf; clear ha
      refine st_assign hf rfl rfl (by decide) ?_
      clear hf; intro a ha hf; clear ha
      refine st_nil hf ?_
      obtain rfl := Option.some.inj h
      exact rnd_l ⟨hf.sub ⟨rfl, rfl, rfl, trivial⟩, hp⟩
    replace h := ifF h hb
    refine wp_exit ?_
    refine th_e ?_
    obtain rfl := Option.some.inj h
    exact rnd_r (by simp) ⟨rfl, hf.sub trivial, hp⟩
  clear hl hf hp
  intro e a w hne hO
  rcases q3 with q4 | q5
  · replace h := smL h
    obtain ⟨rfl, hf, hp⟩ := hO
    refine ib_same ?_
    refine th_n ?_
    refine wp_seq ?_
    refine wp_reg ?_
    refine st_assign hf rfl rfl (by decide) ?_
    clear hf; intro a ha hf; clear ha
    refine st_nil hf ?_
    refine th_n ?_
    refine wp_ret ?_
    obtain rfl := Option.some.inj h
    exact ⟨rfl, ⟨hf.sub ⟨rfl, trivial⟩, hp⟩⟩
  replace h := smR h
  obtain ⟨rfl, hf, hp⟩ := hO
  refine ib_r ?_
  refine th_r ?_
  obtain rfl := Option.some.inj h
  exact ⟨rfl, ⟨hf.sub ⟨rfl, trivial⟩, hp⟩⟩

noncomputable def f_soft_Margin (cx0_Length : Int) (cx0_One : Int) (cx0_Two : Int) (l1 : (List ((Fl × Fl) × Bool))) : Option (Fl × Int) := ((f_soft_check cx0_Length cx0_One cx0_Two l1 (IntKind.i64.wrap (cx0_Length - (1 : Int)))).bind fun q3 => (if (q3 != (0 : Int)) = true then (some ((Fl.bits 0), q3)) else ((f_soft_run cx0_Length cx0_One cx0_Two l1 (IntKind.i64.wrap (cx0_Length - (1 : Int)))).bind fun q5 => (if (((gt q5.1 (0 : Int)).2).isNone) = true then (some ((Fl.bits 0), (6 : Int))) else (((gt q5.1 (0 : Int)).2).bind fun n41 => (((gt q5.1 (0 : Int)).1).bind fun n57 => (some ((fsub ((nth q5.2 n41).2.2.1) ((nth q5.2 n57).2.2.1)), (0 : Int)))))))))
theorem f_soft_Margin_c {S : Nat → Prop} {w0 w : World} {ow : List Res} (hp : Hp S w0 w ow) (cx0_Length : Int) (cx0_One : Int) (cx0_Two : Int) (vl1 : Value) (l1 : (List ((Fl × Fl) × Bool))) (hl1 : RdS (Ek.pair Ek.c128 Ek.bool) S w0 vl1 l1) {r : (Fl × Int)} (h : f_soft_Margin cx0_Length cx0_One cx0_Two l1 = some r) :
    Calls Try.prog 24 #[.agg #[.int .i64 cx0_Length, .int .u32 cx0_One, .int .u32 cx0_Two], vl1] w (fun e w' => ∃ (b0 : Nat), e = .returned (.tuple #[.float .f64 b0, .int .i64 r.2]) ∧ Fl.rep b0 r.1 ∧ Hp S w0 w' (ow)) := by
  unfold f_soft_Margin at h
  refine enter (n := 40) (args := [.agg #[.int .i64 cx0_Length, .int .u32 cx0_One, .int .u32 cx0_Two], vl1]) Try.func24 rfl rfl (Nat.le_of_ble_eq_true rfl) fun a hf => ?_
  replace hf : Fr 40 a [(0, .agg #[.int .i64 cx0_Length, .int .u32 cx0_One, .int .u32 cx0_Two]), (1, vl1)] := hf
  refine wp_mono (Q := fun e a w => e = .ret ∧ ∃ (b0 : Nat), Fr 40 a [(4, .float .f64 b0), (5, .int .i64 r.2)] ∧ Fl.rep b0 r.1 ∧ Hp S w0 w (ow)) ?_ ?_
  rotate_left
  · rintro e a w ⟨rfl, x0, hf, y0, hp⟩
    exact ret2 hf rfl rfl rfl ⟨x0, rfl, y0, hp⟩
  refine wp_seq ?_
  refine wp_reg ?_
  refine st_boxO (cs := [.int .i64 cx0_Length, .int .u32 cx0_One, .int .u32 cx0_Two]) hf (by decide) hp rfl rfl rfl ?_
  clear hf; intro a w v1 hf hp0; clear hp; have hp := hp0; clear hp0
  replace hp : Hp _ _ _ (Res.obj 40 v1 [.int .i64 cx0_Length, .int .u32 cx0_One, .int .u32 cx0_Two] :: ow) := hp
  refine st_assign hf rfl rfl (by decide) ?_
  clear hf; intro a ha hf; clear ha
  refine st_assign hf rfl rfl (by decide) ?_
  clear hf; intro a ha hf; clear ha
  refine st_nil hf ?_
  refine th_n ?_
  refine wp_seq ?_
  refine wp_seq ?_
  refine wp_reg ?_
  refine st_ldOA (m := 3) (us := [.int .i64 cx0_Length, .int .u32 cx0_One, .int .u32 cx0_Two]) hf (by decide) (by kernel_rfl) rfl rfl (hp.ob (i := 0) rfl) rfl rfl ?_
  clear hf; intro a ha hf; clear ha
  refine st_move hf rfl rfl (by decide) ?_
  clear hf; intro a ha hf; clear ha
  refine st_fa (o' := 0) hf (by decide) (off := 0) (sz := 1) (by kernel_rfl) (by decide) rfl rfl (hp.ob (i := 0) rfl) rfl ?_
  clear hf; intro a ha hf; clear ha
  refine st_ldO (u := .int .i64 cx0_Length) hf (by decide) pl3 rfl rfl (hp.ob (i := 0) rfl) rfl ?_
  clear hf; intro a ha hf; clear ha
  refine st_isub hf (by decide) rfl rfl rfl ?_
  clear hf; intro a ha hf; clear ha
  obtain ⟨q3, hcall4, h⟩ := bnd h
  refine st_call hf (by decide) Try.func45 rfl rfl rfl rfl rfl (f_soft_check_c hp _ _ _ _ _ hl1 _ hcall4) ?_
  rintro _ w ⟨rfl, hp0⟩
  clear hp; have hp := hp0; clear hp0
  replace hp : Hp _ _ _ (Res.obj 40 v1 [.int .i64 cx0_Length, .int .u32 cx0_One, .int .u32 cx0_Two] :: ow) := hp
  refine ⟨_, rfl, ?_⟩
  clear hf; intro a hf
  refine st_assign hf rfl rfl (by decide) ?_
  clear hf; intro a ha hf; clear ha
  refine st_nil hf ?_
  refine th_n ?_
  refine wp_seq ?_
  refine wp_reg ?_
  refine st_move hf rfl rfl (by decide) ?_
  clear hf; intro a ha hf; clear ha
  refine st_ineq hf (by decide) rfl rfl rfl ?_
  clear hf; intro a ha hf; clear ha
  refine st_nil hf ?_
  refine th_n ?_
  refine wp_if hf rfl (fun hb => ?_) (fun hb => ?_)
  · replace h := ifT h hb
    refine wp_seq ?_
    refine wp_reg ?_
    refine st_move hf rfl rfl (by decide) ?_
    clear hf; intro a ha hf; clear ha
    refine st_assign hf rfl rfl (by decide) ?_
    clear hf; intro a ha hf; clear ha
    refine st_assign hf rfl rfl (by decide) ?_
    clear hf; intro a ha hf; clear ha
    refine st_nil hf ?_
    refine th_n ?_
    refine wp_ret ?_
    refine th_r ?_
    obtain rfl := Option.some.inj h
    have hp : Hp _ _ _ (ow) := Hp.sel (pre := [Res.obj 40 v1 [.int .i64 cx0_Length, .int .u32 cx0_One, .int .u32 cx0_Two]]) (tail := ow) (rs' := []) hp [] (by decide) (by simp) rfl
    exact ⟨rfl, ⟨_, hf.sub ⟨rfl, rfl, trivial⟩, rfl, hp⟩⟩
  replace h := ifF h hb
  refine wp_skip ?_
  refine th_n ?_
  refine wp_seq ?_
  refine wp_reg ?_
  refine st_ldOA (m := 3) (us := [.int .i64 cx0_Length, .int .u32 cx0_One, .int .u32 cx0_Two]) hf (by decide) (by kernel_rfl) rfl rfl (hp.ob (i := 0) rfl) rfl rfl ?_
  clear hf; intro a ha hf; clear ha
  refine st_move hf rfl rfl (by decide) ?_
  clear hf; intro a ha hf; clear ha
  refine st_fa (o' := 0) hf (by decide) (off := 0) (sz := 1) (by kernel_rfl) (by decide) rfl rfl (hp.ob (i := 0) rfl) rfl ?_
  clear hf; intro a ha hf; clear ha
  refine st_ldO (u := .int .i64 cx0_Length) hf (by decide) pl3 rfl rfl (hp.ob (i := 0) rfl) rfl ?_
  clear hf; intro a ha hf; clear ha
  refine st_isub hf (by decide) rfl rfl rfl ?_
  clear hf; intro a ha hf; clear ha
  obtain ⟨q5, hcall6, h⟩ := bnd h
  refine st_call hf (by decide) Try.func46 rfl rfl rfl rfl rfl (f_soft_run_c hp _ _ _ _ _ hl1 _ hcall6) ?_
  rintro _ w ⟨v7, v8, rfl, y9, y10, hp0⟩
  clear hp; have hp := hp0; clear hp0
  replace hp : Hp _ _ _ (Res.ar 92 v7 q5.2 :: Res.obj 40 v1 [.int .i64 cx0_Length, .int .u32 cx0_One, .int .u32 cx0_Two] :: ow) := hp
  refine ⟨_, rfl, ?_⟩
  clear hf; intro a hf
  refine st_allocA (E := (Ek.pair (Ek.wp v7) (Ek.wp v7))) (N := 64) (zs := List.replicate 64 ((none : Option Nat), (none : Option Nat))) (zv := .agg ((List.replicate 64 ([.pointer none, .pointer none] : List Value)).flatten).toArray) hf (by decide) (by decide) (by decide) (by kernel_rfl) (reps_replicate (E := (Ek.pair (Ek.wp v7) (Ek.wp v7))) (vs := ([.pointer none, .pointer none] : List Value)) (x := ((none : Option Nat), (none : Option Nat))) ⟨[.pointer none], [.pointer none], rfl, ⟨_, rfl, WP.nil _⟩, ⟨_, rfl, WP.nil _⟩⟩ 64) (by simp) hp rfl ?_
  clear hf; intro a w v12 hf hp0; clear hp; have hp := hp0; clear hp0
  replace hp : Hp _ _ _ (Res.sl (Ek.pair (Ek.wp v7) (Ek.wp v7)) 89 (aslv v12 64) (List.replicate 64 ((none : Option Nat), (none : Option Nat))) :: Res.ar 92 v7 q5.2 :: Res.obj 40 v1 [.int .i64 cx0_Length, .int .u32 cx0_One, .int .u32 cx0_Two] :: ow) := hp
  refine st_stArr hf hp (m := 0) rfl (by decide) rfl rfl rfl y9 y10 (by kernel_rfl) ?_
  clear hf; intro a w hf hp0; clear hp; have hp := hp0; clear hp0
  replace hp : Hp _ _ _ (Res.sl (Ek.pair (Ek.wp v7) (Ek.wp v7)) 89 (aslv v12 64) q5.1 :: Res.ar 92 v7 q5.2 :: Res.obj 40 v1 [.int .i64 cx0_Length, .int .u32 cx0_One, .int .u32 cx0_Two] :: ow) := hp
  refine st_nil hf ?_
  refine th_n ?_
  refine wp_seq ?_
  refine wp_seq ?_
  refine wp_reg ?_
  have hc14 : 0 ≤ (0 : Int) ∧ (0 : Int) < (64 : Int) := by decide
  refine st_iaA (E := (Ek.pair (Ek.wp v7) (Ek.wp v7))) (N := 64) hf (by decide) Try.underlying89 (by kernel_rfl) rfl rfl rfl (hp.sl (i := 0) rfl) rfl hc14.1 hc14.2 ?_
  clear hf; intro a ha hf; clear ha
  have hc16 : 0 ≤ (1 : Int) ∧ (1 : Int) < (2 : Int) := by decide
  refine st_iaP (sz := 1) hf (by decide) Try.underlying88 (by kernel_rfl) rfl rfl rfl (Sl.isP (hp.sl (i := 0) rfl) (aslv_ix (hp.sl (i := 0) rfl) hc14).1 (aslv_ix (hp.sl (i := 0) rfl) hc14).2) hc16.1 hc16.2 ?_
  clear hf; intro a ha hf; clear ha
  refine st_ldQW (bs := v7) (yv := (gt q5.1 (0 : Int)).2) hf (by decide) pl86 rfl rfl (Sl.part (E := (Ek.pair (Ek.wp v7) (Ek.wp v7))) (F := (Ek.wp v7)) (o := ((1 : Int)).toNat * 1) (Sub.snd (E := (Ek.wp v7)) (F := (Ek.wp v7))) (hp.sl (i := 0) rfl) (aslv_ix (hp.sl (i := 0) rfl) hc14).1 (aslv_ix (hp.sl (i := 0) rfl) hc14).2) ?_
  clear hf; intro a v17 y18 ha hf; clear ha
  refine st_wnilE hf (by decide) Try.underlying86 rfl rfl rfl y18 ?_
  clear hf; intro a ha hf; clear ha
  refine st_nil hf ?_
  refine th_n ?_
  refine wp_if hf rfl (fun hb => ?_) (fun hb => ?_)
  · replace h := ifT h hb
    refine wp_seq ?_
    refine wp_reg ?_
    refine st_assign hf rfl rfl (by decide) ?_
    clear hf; intro a ha hf; clear ha
    refine st_assign hf rfl rfl (by decide) ?_
    clear hf; intro a ha hf; clear ha
    refine st_nil hf ?_
    refine th_n ?_
    refine wp_ret ?_
    refine th_r ?_
    obtain rfl := Option.some.inj h
    have hp : Hp _ _ _ (ow) := Hp.sel (pre := [Res.sl (Ek.pair (Ek.wp v7) (Ek.wp v7)) 89 (aslv v12 64) q5.1, Res.ar 92 v7 q5.2, Res.obj 40 v1 [.int .i64 cx0_Length, .int .u32 cx0_One, .int .u32 cx0_Two]]) (tail := ow) (rs' := []) hp [] (by decide) (by simp) rfl
    exact ⟨rfl, ⟨_, hf.sub ⟨rfl, rfl, trivial⟩, rfl, hp⟩⟩
  replace h := ifF h hb
  refine wp_skip ?_
  refine th_n ?_
  refine wp_seq ?_
  obtain ⟨S19, hp20, rd21, up22, bk23⟩ := Hp.lendS hp (i := 0) rfl
  obtain ⟨S24, hp25, rd26, up27, bk28⟩ := Hp.lendA hp20 (i := 0) rfl
  have rl29 := ((((hl1.now hp).mono up22).now hp20).mono up27)
  have rl30 := rd26
  have rl31 := ((rd21.now hp20).mono up27)
  have hc32 : 0 ≤ (0 : Int) ∧ (0 : Int) < (64 : Int) := by decide
  have hc33 := aslv_ix rl31 hc32
  have hc34 : 0 ≤ (1 : Int) ∧ (1 : Int) < (2 : Int) := by decide
  obtain ⟨v40, y38, hl35⟩ := RdS.pinPW (p := (0 : Int)) (o := ((1 : Int)).toNat * 1) (Sub.snd (E := (Ek.wp v7)) (F := (Ek.wp v7))) rl31 hc33.1 hc33.2
  obtain ⟨n41, hx42, h⟩ := bnd h
  obtain ⟨v43, bb44, y45, y46, ho47⟩ := RdA.at rl30 y38 hx42
  have hc48 : 0 ≤ (0 : Int) ∧ (0 : Int) < (64 : Int) := by decide
  have hc49 := aslv_ix rl31 hc48
  have hc50 : 0 ≤ (0 : Int) ∧ (0 : Int) < (2 : Int) := by decide
  obtain ⟨v56, y54, hl51⟩ := RdS.pinPW (p := (0 : Int)) (o := ((0 : Int)).toNat * 1) (Sub.fst (E := (Ek.wp v7)) (F := (Ek.wp v7))) rl31 hc49.1 hc49.2
  obtain ⟨n57, hx58, h⟩ := bnd h
  obtain ⟨v59, bb60, y61, y62, ho63⟩ := RdA.at rl30 y54 hx58
  refine wp_cutN (fun a w => ∃ (bb64 : Nat), Fl.rep bb64 (fsub ((nth q5.2 n41).2.2.1) ((nth q5.2 n57).2.2.1)) ∧ Fr 40 a [(4, .float .f64 bb64), (5, .int .i64 (0 : Int))] ∧ Hp S w0 w (Res.sl (Ek.pair (Ek.wp v7) (Ek.wp v7)) 89 (aslv v12 64) q5.1 :: Res.ar 92 v7 q5.2 :: Res.obj 40 v1 [.int .i64 cx0_Length, .int .u32 cx0_One, .int .u32 cx0_Two] :: ow)) ?_ ?_
  · have hp := hp25.same (Same.drew w)
    refine dr_begin' (fun a w => ∃ (bb64 : Nat), Fl.rep bb64 (fsub ((nth q5.2 n41).2.2.1) ((nth q5.2 n57).2.2.1)) ∧ Fr 40 a [(4, .float .f64 bb64), (5, .int .i64 (0 : Int))] ∧ Hp S w0 w (Res.sl (Ek.pair (Ek.wp v7) (Ek.wp v7)) 89 (aslv v12 64) q5.1 :: Res.ar 92 v7 q5.2 :: Res.obj 40 v1 [.int .i64 cx0_Length, .int .u32 cx0_One, .int .u32 cx0_Two] :: ow)) (fun w' => ∃ l, Hp S24 w w' l) [] (by kernel_rfl) ?_
    refine dr_take 0 (eptr (aslv v12 64) (0 : Int) 2) rfl (by kernel_rfl) (by kernel_rfl) (by kernel_rfl) (by kernel_rfl) rfl rfl hf (by decide) rfl (fun w hp => ?_) ⟨_, hp⟩ ?_
    · obtain ⟨_, hp⟩ := hp
      refine st_iaA (E := (Ek.pair (Ek.wp v7) (Ek.wp v7))) (N := 64) hf (by decide) Try.underlying89 (by kernel_rfl) rfl rfl rfl (rl31.sl hp) rfl hc32.1 hc32.2 ?_
      clear hf; intro a ha hf
      exact st_nil hf (th_n ⟨ha, rfl⟩)
    clear hf; intro a hf
    refine dr_take 1 (optr (eptr (aslv v12 64) (0 : Int) 2) (((1 : Int)).toNat * 1)) rfl (by kernel_rfl) (by kernel_rfl) (by kernel_rfl) (by kernel_rfl) rfl rfl hf (by decide) rfl (fun w hp => ?_) ⟨_, hp⟩ ?_
    · obtain ⟨_, hp⟩ := hp
      refine st_iaP (sz := 1) hf (by decide) Try.underlying88 (by kernel_rfl) rfl rfl rfl (Sl.isP (rl31.sl hp) hc33.1 hc33.2) hc34.1 hc34.2 ?_
      clear hf; intro a ha hf
      exact st_nil hf (th_n ⟨ha, rfl⟩)
    clear hf; intro a hf
    refine dr_take 2 (v40) rfl (by kernel_rfl) (by kernel_rfl) (by kernel_rfl) (by kernel_rfl) rfl rfl hf (by decide) rfl (fun w hp => ?_) ⟨_, hp⟩ ?_
    · obtain ⟨_, hp⟩ := hp
      refine st_ldP hf (by decide) pl86 rfl rfl (hl35 _ _ hp) ?_
      clear hf; intro a ha hf
      exact st_nil hf (th_n ⟨ha, rfl⟩)
    clear hf; intro a hf
    refine dr_nilE 3 rfl (by kernel_rfl) (by kernel_rfl) (by kernel_rfl) hf (by decide) rfl rfl (WP.ptr y38 hx42) ?_
    clear hf; intro a hf
    refine dr_take 4 (optr v40 2) rfl (by kernel_rfl) (by kernel_rfl) (by kernel_rfl) (by kernel_rfl) rfl rfl hf (by decide) rfl (fun w hp => ?_) ⟨_, hp⟩ ?_
    · obtain ⟨_, hp⟩ := hp
      refine st_faP (off := 2) (sz := 1) hf (by decide) (by kernel_rfl) (by decide) rfl rfl (WP.isP y38 hx42) ?_
      clear hf; intro a ha hf
      exact st_nil hf (th_n ⟨ha, rfl⟩)
    clear hf; intro a hf
    refine dr_take 5 (.float .f64 bb44) rfl (by kernel_rfl) (by kernel_rfl) (by kernel_rfl) (by kernel_rfl) rfl rfl hf (by decide) rfl (fun w hp => ?_) ⟨_, hp⟩ ?_
    · obtain ⟨_, hp⟩ := hp
      refine st_ldO (u := .float .f64 bb44) hf (by decide) pl29 rfl rfl (ho47.ob hp) rfl ?_
      clear hf; intro a ha hf
      exact st_nil hf (th_n ⟨ha, rfl⟩)
    clear hf; intro a hf
    refine dr_take 6 (eptr (aslv v12 64) (0 : Int) 2) rfl (by kernel_rfl) (by kernel_rfl) (by kernel_rfl) (by kernel_rfl) rfl rfl hf (by decide) rfl (fun w hp => ?_) ⟨_, hp⟩ ?_
    · obtain ⟨_, hp⟩ := hp
      refine st_iaA (E := (Ek.pair (Ek.wp v7) (Ek.wp v7))) (N := 64) hf (by decide) Try.underlying89 (by kernel_rfl) rfl rfl rfl (rl31.sl hp) rfl hc48.1 hc48.2 ?_
      clear hf; intro a ha hf
      exact st_nil hf (th_n ⟨ha, rfl⟩)
    clear hf; intro a hf
    refine dr_take 7 (optr (eptr (aslv v12 64) (0 : Int) 2) (((0 : Int)).toNat * 1)) rfl (by kernel_rfl) (by kernel_rfl) (by kernel_rfl) (by kernel_rfl) rfl rfl hf (by decide) rfl (fun w hp => ?_) ⟨_, hp⟩ ?_
    · obtain ⟨_, hp⟩ := hp
      refine st_iaP (sz := 1) hf (by decide) Try.underlying88 (by kernel_rfl) rfl rfl rfl (Sl.isP (rl31.sl hp) hc49.1 hc49.2) hc50.1 hc50.2 ?_
      clear hf; intro a ha hf
      exact st_nil hf (th_n ⟨ha, rfl⟩)
    clear hf; intro a hf
    refine dr_take 8 (v56) rfl (by kernel_rfl) (by kernel_rfl) (by kernel_rfl) (by kernel_rfl) rfl rfl hf (by decide) rfl (fun w hp => ?_) ⟨_, hp⟩ ?_
    · obtain ⟨_, hp⟩ := hp
      refine st_ldP hf (by decide) pl86 rfl rfl (hl51 _ _ hp) ?_
      clear hf; intro a ha hf
      exact st_nil hf (th_n ⟨ha, rfl⟩)
    clear hf; intro a hf
    refine dr_nilE 9 rfl (by kernel_rfl) (by kernel_rfl) (by kernel_rfl) hf (by decide) rfl rfl (WP.ptr y54 hx58) ?_
    clear hf; intro a hf
    refine dr_take 10 (optr v56 2) rfl (by kernel_rfl) (by kernel_rfl) (by kernel_rfl) (by kernel_rfl) rfl rfl hf (by decide) rfl (fun w hp => ?_) ⟨_, hp⟩ ?_
    · obtain ⟨_, hp⟩ := hp
      refine st_faP (off := 2) (sz := 1) hf (by decide) (by kernel_rfl) (by decide) rfl rfl (WP.isP y54 hx58) ?_
      clear hf; intro a ha hf
      exact st_nil hf (th_n ⟨ha, rfl⟩)
    clear hf; intro a hf
    refine dr_take 11 (.float .f64 bb60) rfl (by kernel_rfl) (by kernel_rfl) (by kernel_rfl) (by kernel_rfl) rfl rfl hf (by decide) rfl (fun w hp => ?_) ⟨_, hp⟩ ?_
    · obtain ⟨_, hp⟩ := hp
      refine st_ldO (u := .float .f64 bb60) hf (by decide) pl29 rfl rfl (ho63.ob hp) rfl ?_
      clear hf; intro a ha hf
      exact st_nil hf (th_n ⟨ha, rfl⟩)
    clear hf; intro a hf
    refine dr_one 12 rfl (by kernel_rfl) ?_
    refine st_farith (op := .sub) rfl hf (by decide) hp rfl rfl rfl (show Fl.rep bb44 ((nth q5.2 n41).2.2.1) from y46) (show Fl.rep bb60 ((nth q5.2 n57).2.2.1) from y62) ?_
    clear hf; intro a w bb64 y65 hf hp0; clear hp; have hp := hp0; clear hp0
    replace hp : Hp _ _ _ (Res.obj 40 v1 [.int .i64 cx0_Length, .int .u32 cx0_One, .int .u32 cx0_Two] :: ow) := hp
    refine st_nil hf (th_n ⟨fun _ _ => ⟨_, hp⟩, ?_⟩)
    refine dr_take 13 (.float .f64 bb64) rfl (by kernel_rfl) (by kernel_rfl) (by kernel_rfl) (by kernel_rfl) rfl rfl hf (by decide) rfl (fun w hp => ?_) ⟨_, hp⟩ ?_
    · obtain ⟨_, hp⟩ := hp
      refine st_assign hf rfl rfl (by decide) ?_
      clear hf; intro a ha hf
      exact st_nil hf (th_n ⟨ha, rfl⟩)
    clear hf; intro a hf
    refine dr_take 14 (.int .i64 (0 : Int)) rfl (by kernel_rfl) (by kernel_rfl) (by kernel_rfl) (by kernel_rfl) rfl rfl hf (by decide) rfl (fun w hp => ?_) ⟨_, hp⟩ ?_
    · obtain ⟨_, hp⟩ := hp
      refine st_assign hf rfl rfl (by decide) ?_
      clear hf; intro a ha hf
      exact st_nil hf (th_n ⟨ha, rfl⟩)
    clear hf; intro a hf
    refine dr_end (by kernel_rfl) ?_ _
    have hp := bk28 _ _ hp
    have hp := bk23 _ _ hp
    exact ⟨bb64, y65, hf.sub ⟨rfl, rfl, trivial⟩, hp⟩
  rintro a w ⟨bb64, y65, hf, hp⟩
  refine th_n ?_
  refine wp_ret ?_
  obtain rfl := Option.some.inj h
  have hp : Hp _ _ _ (ow) := Hp.sel (pre := [Res.sl (Ek.pair (Ek.wp v7) (Ek.wp v7)) 89 (aslv v12 64) q5.1, Res.ar 92 v7 q5.2, Res.obj 40 v1 [.int .i64 cx0_Length, .int .u32 cx0_One, .int .u32 cx0_Two]]) (tail := ow) (rs' := []) hp [] (by decide) (by simp) rfl
  exact ⟨rfl, ⟨_, hf.sub ⟨rfl, rfl, trivial⟩, y65, hp⟩⟩

noncomputable def f_foghornlaw23_SoftReach.s1c (noise2 : (List (Int × Int × Bool))) (q17 : ((List (Fl × Fl)) × Int)) (xx14 : (List ((Fl × Fl) × Bool))) (i15 : Int) : Option (((List ((Fl × Fl) × Bool)) × Int) ⊕ (List ((Fl × Fl) × Bool))) := (if (decide (i15 < (q17.1.length : Int))) = true then (if 0 ≤ i15 ∧ i15 < (q17.1.length : Int) then (if 0 ≤ i15 ∧ i15 < (xx14.length : Int) then (if (decide ((0 : Int) < (noise2.length : Int))) = true then (if (noise2.length : Int) ≠ 0 then (if 0 ≤ ((i15).tmod (noise2.length : Int)) ∧ ((i15).tmod (noise2.length : Int)) < (noise2.length : Int) then (if 0 ≤ i15 ∧ i15 < (q17.1.length : Int) then ((farithS .quo (fofi (((gt noise2 ((i15).tmod (noise2.length : Int))).1).tmod (4096 : Int))) (Fl.bits 4661225614328463360)).bind fun q63 => ((farithS .add ((gt q17.1 i15).1) q63).bind fun q65 => (if 0 ≤ i15 ∧ i15 < (q17.1.length : Int) then ((farithS .quo (fofi (((gt noise2 ((i15).tmod (noise2.length : Int))).2.1).tmod (4096 : Int))) (Fl.bits 4661225614328463360)).bind fun q73 => ((farithS .add ((gt q17.1 i15).2) q73).bind fun q75 => (if 0 ≤ i15 ∧ i15 < ((xx14.set (i15).toNat ((gt q17.1 i15), (gt xx14 i15).2)).length : Int) then (some (Sum.inl (((xx14.set (i15).toNat ((gt q17.1 i15), (gt xx14 i15).2)).set (i15).toNat ((q65, q75), (gt (xx14.set (i15).toNat ((gt q17.1 i15), (gt xx14 i15).2)) i15).2)), (IntKind.i64.wrap (i15 + (1 : Int)))))) else none))) else none))) else none) else none) else none) else (some (Sum.inl ((xx14.set (i15).toNat ((gt q17.1 i15), (gt xx14 i15).2)), (IntKind.i64.wrap (i15 + (1 : Int))))))) else none) else none) else (some (Sum.inr xx14)))
noncomputable def f_foghornlaw23_SoftReach.s1 (noise2 : (List (Int × Int × Bool))) (q17 : ((List (Fl × Fl)) × Int)) (s : ((List ((Fl × Fl) × Bool)) × Int)) : Option (((List ((Fl × Fl) × Bool)) × Int) ⊕ (List ((Fl × Fl) × Bool))) := f_foghornlaw23_SoftReach.s1c noise2 q17 s.1 s.2
noncomputable def f_foghornlaw23_SoftReach.s2c (lost3 : (List Int)) (q13 : (Int × Int)) (xx14 : (List ((Fl × Fl) × Bool))) (i17 : Int) : Option (((List ((Fl × Fl) × Bool)) × Int) ⊕ (List ((Fl × Fl) × Bool))) := (if (((decide (i17 < (lost3.length : Int))) && (decide ((0 : Int) < (xx14.length : Int)))) && (decide ((IntKind.i64.wrap ((2 : Int) * (IntKind.i64.wrap (i17 + (1 : Int))))) < q13.1))) = true then (if 0 ≤ i17 ∧ i17 < (lost3.length : Int) then (if (xx14.length : Int) ≠ 0 then (if (xx14.length : Int) ≠ 0 then (if 0 ≤ (((IntKind.i64.wrap ((((gt lost3 i17)).tmod (xx14.length : Int)) + (xx14.length : Int)))).tmod (xx14.length : Int)) ∧ (((IntKind.i64.wrap ((((gt lost3 i17)).tmod (xx14.length : Int)) + (xx14.length : Int)))).tmod (xx14.length : Int)) < (xx14.length : Int) then (some (Sum.inl ((xx14.set ((((IntKind.i64.wrap ((((gt lost3 i17)).tmod (xx14.length : Int)) + (xx14.length : Int)))).tmod (xx14.length : Int))).toNat ((Fl.bits 0, Fl.bits 0), true)), (IntKind.i64.wrap (i17 + (1 : Int)))))) else none) else none) else none) else none) else (some (Sum.inr xx14)))
noncomputable def f_foghornlaw23_SoftReach.s2 (lost3 : (List Int)) (q13 : (Int × Int)) (s : ((List ((Fl × Fl) × Bool)) × Int)) : Option (((List ((Fl × Fl) × Bool)) × Int) ⊕ (List ((Fl × Fl) × Bool))) := f_foghornlaw23_SoftReach.s2c lost3 q13 s.1 s.2
noncomputable def f_foghornlaw23_SoftReach.j1 (noise2 : (List (Int × Int × Bool))) (lost3 : (List Int)) (q5 : (Int × Int × Int)) (bits1 : (List Bool)) : Option Bool := ((f_foghornlaw23_code q5.1 q5.2.1 q5.2.2).bind fun q11 => ((f_trellis_Code_Free q11.1 q11.2.1 q11.2.2).bind fun q13 => ((f_foghornlaw23_code q5.1 q5.2.1 q5.2.2).bind fun q15 => ((f_soft_Send q15.1 q15.2.1 q15.2.2 bits1).bind fun q17 => (if (((q13.2 != (0 : Int)) || (q17.2 != (0 : Int))) || ((q17.1.length : Int) != (IntKind.i64.wrap ((IntKind.i64.wrap ((bits1.length : Int) + q5.1)) - (1 : Int))))) = true then (some false) else (if 0 ≤ (q17.1.length : Int) ∧ (q17.1.length : Int) ≤ (q17.1.length : Int) ∧ (q17.1.length : Int) * 24 ≤ 281474976710656 then ((loop (f_foghornlaw23_SoftReach.s1 noise2 q17) ((List.replicate ((q17.1.length : Int)).toNat ((Fl.bits 0, Fl.bits 0), false)), (0 : Int))).bind (fun q79 => ((loop (f_foghornlaw23_SoftReach.s2 lost3 q13) (q79, (0 : Int))).bind (fun q92 => ((f_foghornlaw23_code q5.1 q5.2.1 q5.2.2).bind fun q93 => ((f_soft_Decode q93.1 q93.2.1 q93.2.2 q92).bind fun q95 => ((if (q95.2.2 != (0 : Int)) = true then (some true) else ((f_foghornref21_Same q95.1 bits1).bind fun q109 => (some (!q109)))).bind fun z108 => (if z108 = true then (some false) else ((f_foghornlaw23_code q5.1 q5.2.1 q5.2.2).bind fun q116 => ((f_soft_Margin q116.1 q116.2.1 q116.2.2 q92).bind fun q118 => (some ((((bits1.length : Int) == (0 : Int)) && (q118.2 == (6 : Int))) || ((q118.2 == (0 : Int)) && (fgt q118.1 (Fl.bits 0))))))))))))))) else none))))))
noncomputable def f_foghornlaw23_SoftReach (cx0_Length : Int) (cx0_One : Int) (cx0_Two : Int) (bits1 : (List Bool)) (noise2 : (List (Int × Int × Bool))) (lost3 : (List Int)) : Option Bool := ((f_foghornlaw23_awake).bind fun q3 => (if (!q3) = true then (some false) else ((f_foghornlaw23_codeOf cx0_Length cx0_One cx0_Two).bind fun q5 => (if (decide ((60 : Int) < (bits1.length : Int))) = true then (if 0 ≤ (60 : Int) ∧ (60 : Int) ≤ (bits1.length : Int) then (f_foghornlaw23_SoftReach.j1 noise2 lost3 q5 ((bits1.drop 0).take (((60 : Int)).toNat - 0))) else none) else (f_foghornlaw23_SoftReach.j1 noise2 lost3 q5 bits1)))))
theorem f_foghornlaw23_SoftReach_c {S : Nat → Prop} {w0 w : World} {ow : List Res} (hp : Hp S w0 w ow) (cx0_Length : Int) (cx0_One : Int) (cx0_Two : Int) (vbits1 : Value) (bits1 : (List Bool)) (hbits1 : RdS Ek.bool S w0 vbits1 bits1) (vnoise2 : Value) (noise2 : (List (Int × Int × Bool))) (hnoise2 : RdS (Ek.pair (Ek.int .i32) (Ek.pair (Ek.int .i32) Ek.bool)) S w0 vnoise2 noise2) (vlost3 : Value) (lost3 : (List Int)) (hlost3 : RdS (Ek.int .i64) S w0 vlost3 lost3) {r : Bool} (h : f_foghornlaw23_SoftReach cx0_Length cx0_One cx0_Two bits1 noise2 lost3 = some r) :
    Calls Try.prog 7 #[.agg #[.int .i64 cx0_Length, .int .u32 cx0_One, .int .u32 cx0_Two], vbits1, vnoise2, vlost3] w (fun e w' => e = .returned (.bool r) ∧ Hp S w0 w' (ow)) := by
  unfold f_foghornlaw23_SoftReach at h
  refine enter (n := 188) (args := [.agg #[.int .i64 cx0_Length, .int .u32 cx0_One, .int .u32 cx0_Two], vbits1, vnoise2, vlost3]) Try.func7 rfl rfl (Nat.le_of_ble_eq_true rfl) fun a hf => ?_
  replace hf : Fr 188 a [(0, .agg #[.int .i64 cx0_Length, .int .u32 cx0_One, .int .u32 cx0_Two]), (1, vbits1), (2, vnoise2), (3, vlost3)] := hf
  refine wp_mono (Q := fun e a w => e = .ret ∧ Fr 188 a [(8, .bool r)] ∧ Hp S w0 w (ow)) ?_ ?_
  rotate_left
  · rintro e a w ⟨rfl, hf, hp⟩
    exact ret1 hf rfl rfl ⟨rfl, hp⟩
  refine wp_seq ?_
  refine wp_reg ?_
  refine st_boxO (cs := [.int .i64 cx0_Length, .int .u32 cx0_One, .int .u32 cx0_Two]) hf (by decide) hp rfl rfl rfl ?_
  clear hf; intro a w v1 hf hp0; clear hp; have hp := hp0; clear hp0
  replace hp : Hp _ _ _ (Res.obj 24 v1 [.int .i64 cx0_Length, .int .u32 cx0_One, .int .u32 cx0_Two] :: ow) := hp
  refine st_assign hf rfl rfl (by decide) ?_
  clear hf; intro a ha hf; clear ha
  refine st_nil hf ?_
  refine th_n ?_
  refine wp_seq ?_
  refine wp_seq ?_
  refine wp_reg ?_
  obtain ⟨q3, hcall4, h⟩ := bnd h
  refine st_call hf (by decide) Try.func26 rfl rfl rfl rfl rfl (f_foghornlaw23_awake_c hp  hcall4) ?_
  rintro _ w ⟨rfl, hp0⟩
  clear hp; have hp := hp0; clear hp0
  replace hp : Hp _ _ _ (Res.obj 24 v1 [.int .i64 cx0_Length, .int .u32 cx0_One, .int .u32 cx0_Two] :: ow) := hp
  refine ⟨_, rfl, ?_⟩
  clear hf; intro a hf
  refine st_not hf (by decide) rfl rfl ?_
  clear hf; intro a ha hf; clear ha
  refine st_nil hf ?_
  refine th_n ?_
  refine wp_if hf rfl (fun hb => ?_) (fun hb => ?_)
  · replace h := ifT h hb
    refine wp_seq ?_
    refine wp_reg ?_
    refine st_assign hf rfl rfl (by decide) ?_
    clear hf; intro a ha hf; clear ha
    refine st_nil hf ?_
    refine th_n ?_
    refine wp_ret ?_
    refine th_r ?_
    obtain rfl := Option.some.inj h
    have hp : Hp _ _ _ (ow) := Hp.sel (pre := [Res.obj 24 v1 [.int .i64 cx0_Length, .int .u32 cx0_One, .int .u32 cx0_Two]]) (tail := ow) (rs' := []) hp [] (by decide) (by simp) rfl
    exact ⟨rfl, ⟨hf.sub ⟨rfl, trivial⟩, hp⟩⟩
  replace h := ifF h hb
  refine wp_skip ?_
  refine th_n ?_
  refine wp_seq ?_
  refine wp_reg ?_
  refine st_ldOA (m := 3) (us := [.int .i64 cx0_Length, .int .u32 cx0_One, .int .u32 cx0_Two]) hf (by decide) (by kernel_rfl) rfl rfl (hp.ob (i := 0) rfl) rfl rfl ?_
  clear hf; intro a ha hf; clear ha
  obtain ⟨q5, hcall6, h⟩ := bnd h
  refine st_call hf (by decide) Try.func27 rfl rfl rfl rfl rfl (f_foghornlaw23_codeOf_c hp _ _ _ hcall6) ?_
  rintro _ w ⟨rfl, hp0⟩
  clear hp; have hp := hp0; clear hp0
  replace hp : Hp _ _ _ (Res.obj 24 v1 [.int .i64 cx0_Length, .int .u32 cx0_One, .int .u32 cx0_Two] :: ow) := hp
  refine ⟨_, rfl, ?_⟩
  clear hf; intro a hf
  refine st_alloc (cs := [.int .i64 (0 : Int), .int .u32 (0 : Int), .int .u32 (0 : Int)]) (zv := .agg #[.int .i64 (0 : Int), .int .u32 (0 : Int), .int .u32 (0 : Int)]) hf (by decide) (by kernel_rfl) rfl hp rfl ?_
  clear hf; intro a w v7 hf hp0; clear hp; have hp := hp0; clear hp0
  replace hp : Hp _ _ _ (Res.obj 24 v7 [.int .i64 (0 : Int), .int .u32 (0 : Int), .int .u32 (0 : Int)] :: Res.obj 24 v1 [.int .i64 cx0_Length, .int .u32 cx0_One, .int .u32 cx0_Two] :: ow) := hp
  refine st_stO (us := [.int .i64 q5.1, .int .u32 q5.2.1, .int .u32 q5.2.2]) hf hp (i := 0) rfl rfl rfl rfl rfl (by rfl) (by kernel_rfl) (Nat.le_of_ble_eq_true rfl) ?_
  clear hf; intro a w hf hp0; clear hp; have hp := hp0; clear hp0
  replace hp : Hp _ _ _ (Res.obj 24 v7 [.int .i64 q5.1, .int .u32 q5.2.1, .int .u32 q5.2.2] :: Res.obj 24 v1 [.int .i64 cx0_Length, .int .u32 cx0_One, .int .u32 cx0_Two] :: ow) := hp
  refine st_nil hf ?_
  refine th_n ?_
  refine wp_seq_cut (fun a w => ∃ (bits1 : (List Bool)) (v9 : Value), f_foghornlaw23_SoftReach.j1 noise2 lost3 q5 bits1 = some r ∧ Fr 188 a [(1, v9), (2, vnoise2), (3, vlost3), (9, optr v7 0)] ∧ RdS Ek.bool S w0 v9 bits1 ∧ Hp S w0 w (Res.obj 24 v7 [.int .i64 q5.1, .int .u32 q5.2.1, .int .u32 q5.2.2] :: ow)) ?_ ?_
  · skip
    refine wp_seq ?_
    refine wp_reg ?_
    refine st_move hf rfl rfl (by decide) ?_
    clear hf; intro a ha hf; clear ha
    refine st_len (E := Ek.bool) hf (by decide) Try.underlying25 rfl rfl (hbits1.sl hp) ?_
    clear hf; intro a ha hf; clear ha
    refine st_igtr hf (by decide) rfl rfl rfl ?_
    clear hf; intro a ha hf; clear ha
    refine st_nil hf ?_
    refine th_n ?_
    refine wp_if hf rfl (fun hb => ?_) (fun hb => ?_)
    · replace h := ifT h hb
      refine wp_reg ?_
      refine st_move hf rfl rfl (by decide) ?_
      clear hf; intro a ha hf; clear ha
      obtain ⟨hc133, h⟩ := chk h
      have hc134 : 0 ≤ ((60 : Int)).toNat := by omega
      have hc135 : ((60 : Int)).toNat ≤ bits1.length := by omega
      refine st_cutS (E := Ek.bool) hf (by decide) Try.underlying25 elt4 rfl rfl (hbits1.sl hp) (.inl ⟨rfl, rfl⟩) (.inr ⟨_, _, rfl, evI rfl (by omega)⟩) hc134 hc135 ?_
      clear hf; intro a ha hf; clear ha
      refine st_assign hf rfl rfl (by decide) ?_
      clear hf; intro a ha hf; clear ha
      refine st_nil hf ?_
      have hp : Hp _ _ _ (Res.obj 24 v7 [.int .i64 q5.1, .int .u32 q5.2.1, .int .u32 q5.2.2] :: ow) := Hp.sel (pre := [Res.obj 24 v7 [.int .i64 q5.1, .int .u32 q5.2.1, .int .u32 q5.2.2], Res.obj 24 v1 [.int .i64 cx0_Length, .int .u32 cx0_One, .int .u32 cx0_Two]]) (tail := ow) (rs' := [Res.obj 24 v7 [.int .i64 q5.1, .int .u32 q5.2.1, .int .u32 q5.2.2]]) hp [0] (by decide) (by simp) rfl
      refine th_n ?_
      exact ⟨_, _, h, hf.sub ⟨rfl, rfl, rfl, rfl, trivial⟩, (RdS.cut hbits1 hc134 hc135), hp⟩
    replace h := ifF h hb
    refine wp_skip ?_
    have hp : Hp _ _ _ (Res.obj 24 v7 [.int .i64 q5.1, .int .u32 q5.2.1, .int .u32 q5.2.2] :: ow) := Hp.sel (pre := [Res.obj 24 v7 [.int .i64 q5.1, .int .u32 q5.2.1, .int .u32 q5.2.2], Res.obj 24 v1 [.int .i64 cx0_Length, .int .u32 cx0_One, .int .u32 cx0_Two]]) (tail := ow) (rs' := [Res.obj 24 v7 [.int .i64 q5.1, .int .u32 q5.2.1, .int .u32 q5.2.2]]) hp [0] (by decide) (by simp) rfl
    refine th_n ?_
    exact ⟨_, _, h, hf.sub ⟨rfl, rfl, rfl, rfl, trivial⟩, hbits1, hp⟩
  rintro a w ⟨bits1, v9, h, hf, y10, hp⟩
  unfold f_foghornlaw23_SoftReach.j1 at h
  refine wp_seq ?_
  refine wp_reg ?_
  refine st_ldOA (m := 3) (us := [.int .i64 q5.1, .int .u32 q5.2.1, .int .u32 q5.2.2]) hf (by decide) (by kernel_rfl) rfl rfl (hp.ob (i := 0) rfl) rfl rfl ?_
  clear hf; intro a ha hf; clear ha
  obtain ⟨q11, hcall12, h⟩ := bnd h
  refine st_call hf (by decide) Try.func14 rfl rfl rfl rfl rfl (f_foghornlaw23_code_c hp _ _ _ hcall12) ?_
  rintro _ w ⟨rfl, hp0⟩
  clear hp; have hp := hp0; clear hp0
  replace hp : Hp _ _ _ (Res.obj 24 v7 [.int .i64 q5.1, .int .u32 q5.2.1, .int .u32 q5.2.2] :: ow) := hp
  refine ⟨_, rfl, ?_⟩
  clear hf; intro a hf
  obtain ⟨q13, hcall14, h⟩ := bnd h
  refine st_call hf (by decide) Try.func29 rfl rfl rfl rfl rfl (f_trellis_Code_Free_c hp _ _ _ hcall14) ?_
  rintro _ w ⟨rfl, hp0⟩
  clear hp; have hp := hp0; clear hp0
  replace hp : Hp _ _ _ (Res.obj 24 v7 [.int .i64 q5.1, .int .u32 q5.2.1, .int .u32 q5.2.2] :: ow) := hp
  refine ⟨_, rfl, ?_⟩
  clear hf; intro a hf
  refine st_move hf rfl rfl (by decide) ?_
  clear hf; intro a ha hf; clear ha
  refine st_extract hf (by decide) rfl rfl rfl ?_
  clear hf; intro a ha hf; clear ha
  refine st_extract hf (by decide) rfl rfl rfl ?_
  clear hf; intro a ha hf; clear ha
  refine st_assign hf rfl rfl (by decide) ?_
  clear hf; intro a ha hf; clear ha
  refine st_assign hf rfl rfl (by decide) ?_
  clear hf; intro a ha hf; clear ha
  refine st_nil hf ?_
  refine th_n ?_
  refine wp_seq ?_
  refine wp_reg ?_
  refine st_ldOA (m := 3) (us := [.int .i64 q5.1, .int .u32 q5.2.1, .int .u32 q5.2.2]) hf (by decide) (by kernel_rfl) rfl rfl (hp.ob (i := 0) rfl) rfl rfl ?_
  clear hf; intro a ha hf; clear ha
  obtain ⟨q15, hcall16, h⟩ := bnd h
  refine st_call hf (by decide) Try.func14 rfl rfl rfl rfl rfl (f_foghornlaw23_code_c hp _ _ _ hcall16) ?_
  rintro _ w ⟨rfl, hp0⟩
  clear hp; have hp := hp0; clear hp0
  replace hp : Hp _ _ _ (Res.obj 24 v7 [.int .i64 q5.1, .int .u32 q5.2.1, .int .u32 q5.2.2] :: ow) := hp
  refine ⟨_, rfl, ?_⟩
  clear hf; intro a hf
  refine st_move hf rfl rfl (by decide) ?_
  clear hf; intro a ha hf; clear ha
  obtain ⟨q17, hcall18, h⟩ := bnd h
  refine st_call hf (by decide) Try.func13 rfl rfl rfl rfl rfl (f_soft_Send_c hp _ _ _ _ _ y10 hcall18) ?_
  rintro _ w ⟨v19, rfl, hp0⟩
  clear hp; have hp := hp0; clear hp0
  replace hp : Hp _ _ _ (Res.sl Ek.c128 33 v19 q17.1 :: Res.obj 24 v7 [.int .i64 q5.1, .int .u32 q5.2.1, .int .u32 q5.2.2] :: ow) := hp
  refine ⟨_, rfl, ?_⟩
  clear hf; intro a hf
  refine st_move hf rfl rfl (by decide) ?_
  clear hf; intro a ha hf; clear ha
  refine st_extract hf (by decide) rfl rfl rfl ?_
  clear hf; intro a ha hf; clear ha
  refine st_extract hf (by decide) rfl rfl rfl ?_
  clear hf; intro a ha hf; clear ha
  refine st_assign hf rfl rfl (by decide) ?_
  clear hf; intro a ha hf; clear ha
  refine st_assign hf rfl rfl (by decide) ?_
  clear hf; intro a ha hf; clear ha
  refine st_nil hf ?_
  refine th_n ?_
  refine wp_seq ?_
  refine wp_seq ?_
  refine wp_reg ?_
  refine st_move hf rfl rfl (by decide) ?_
  clear hf; intro a ha hf; clear ha
  refine st_ineq hf (by decide) rfl rfl rfl ?_
  clear hf; intro a ha hf; clear ha
  refine st_move hf rfl rfl (by decide) ?_
  clear hf; intro a ha hf; clear ha
  refine wpList_cut 3 (fun a w => Fr 188 a [(1, v9), (2, vnoise2), (3, vlost3), (9, optr v7 0), (10, .int .i64 q13.1), (12, v19), (50, .bool ((q13.2 != (0 : Int)) || (q17.2 != (0 : Int))))] ∧ Hp S w0 w (Res.sl Ek.c128 33 v19 q17.1 :: Res.obj 24 v7 [.int .i64 q5.1, .int .u32 q5.2.1, .int .u32 q5.2.2] :: ow)) ?_ ?_
  · rcases Bool.eq_false_or_eq_true (q13.2 != (0 : Int)) with hb22 | hb22
    · skip
      refine st_skip hf (wantN hf rfl rfl hb22) rfl (by decide) ?_ rfl
      clear hf; intro a hf
      refine st_skip hf (wantN hf rfl rfl hb22) rfl (by decide) ?_ rfl
      clear hf; intro a hf
      refine st_pick (v := .bool true) hf rfl rfl (fun hb' => ?_) (fun hb' => ?_) (by decide) ?_
      · rfl
      · exact absurd (hb22.symm.trans hb') (by decide)
      clear hf; intro a ha hf; clear ha
      refine st_nil hf (th_n ?_)
      exact ⟨hf.sub ⟨rfl, rfl, rfl, rfl, rfl, rfl, (by rw [hb22]; rfl), trivial⟩, hp⟩
    refine st_move hf (wantY hf rfl rfl hb22) rfl (by decide) ?_
    clear hf; intro a ha hf; clear ha
    refine st_ineq hf (by decide) (wantY hf rfl rfl hb22) rfl rfl ?_
    clear hf; intro a ha hf; clear ha
    refine st_pick (v := .bool (q17.2 != (0 : Int))) hf rfl rfl (fun hb' => ?_) (fun hb' => ?_) (by decide) ?_
    · exact absurd (hb22.symm.trans hb') (by decide)
    · rfl
    clear hf; intro a ha hf; clear ha
    refine st_nil hf (th_n ?_)
    exact ⟨hf.sub ⟨rfl, rfl, rfl, rfl, rfl, rfl, (by rw [hb22]; rfl), trivial⟩, hp⟩
  rintro a w ⟨hf, hp⟩
  refine st_move hf rfl rfl (by decide) ?_
  clear hf; intro a ha hf; clear ha
  refine wpList_cut 10 (fun a w => Fr 188 a [(1, v9), (2, vnoise2), (3, vlost3), (9, optr v7 0), (10, .int .i64 q13.1), (12, v19), (61, .bool (((q13.2 != (0 : Int)) || (q17.2 != (0 : Int))) || ((q17.1.length : Int) != (IntKind.i64.wrap ((IntKind.i64.wrap ((bits1.length : Int) + q5.1)) - (1 : Int))))))] ∧ Hp S w0 w (Res.sl Ek.c128 33 v19 q17.1 :: Res.obj 24 v7 [.int .i64 q5.1, .int .u32 q5.2.1, .int .u32 q5.2.2] :: ow)) ?_ ?_
  · rcases Bool.eq_false_or_eq_true ((q13.2 != (0 : Int)) || (q17.2 != (0 : Int))) with hb24 | hb24
    · skip
      refine st_skip hf (wantN hf rfl rfl hb24) rfl (by decide) ?_ rfl
      clear hf; intro a hf
      refine st_skip hf (wantN hf rfl rfl hb24) rfl (by decide) ?_ rfl
      clear hf; intro a hf
      refine st_skip hf (wantN hf rfl rfl hb24) rfl (by decide) ?_ rfl
      clear hf; intro a hf
      refine st_skip hf (wantN hf rfl rfl hb24) rfl (by decide) ?_ rfl
      clear hf; intro a hf
      refine st_skip hf (wantN hf rfl rfl hb24) rfl (by decide) ?_ rfl
      clear hf; intro a hf
      refine st_skip hf (wantN hf rfl rfl hb24) rfl (by decide) ?_ rfl
      clear hf; intro a hf
      refine st_skip hf (wantN hf rfl rfl hb24) rfl (by decide) ?_ rfl
      clear hf; intro a hf
      refine st_skip hf (wantN hf rfl rfl hb24) rfl (by decide) ?_ rfl
      clear hf; intro a hf
      refine st_skip hf (wantN hf rfl rfl hb24) rfl (by decide) ?_ rfl
      clear hf; intro a hf
      refine st_pick (v := .bool true) hf rfl rfl (fun hb' => ?_) (fun hb' => ?_) (by decide) ?_
      · rfl
      · exact absurd (hb24.symm.trans hb') (by decide)
      clear hf; intro a ha hf; clear ha
      refine st_nil hf (th_n ?_)
      exact ⟨hf.sub ⟨rfl, rfl, rfl, rfl, rfl, rfl, (by rw [hb24]; rfl), trivial⟩, hp⟩
    refine st_move hf (wantY hf rfl rfl hb24) rfl (by decide) ?_
    clear hf; intro a ha hf; clear ha
    refine st_len (E := Ek.c128) hf (by decide) Try.underlying36 (wantY hf rfl rfl hb24) rfl (hp.sl (i := 0) rfl) ?_
    clear hf; intro a ha hf; clear ha
    refine st_move hf (wantY hf rfl rfl hb24) rfl (by decide) ?_
    clear hf; intro a ha hf; clear ha
    refine st_len (E := Ek.bool) hf (by decide) Try.underlying25 (wantY hf rfl rfl hb24) rfl (y10.sl hp) ?_
    clear hf; intro a ha hf; clear ha
    refine st_fa (o' := 0) hf (by decide) (off := 0) (sz := 1) (by kernel_rfl) (by decide) (wantY hf rfl rfl hb24) rfl (hp.ob (i := 1) rfl) rfl ?_
    clear hf; intro a ha hf; clear ha
    refine st_ldO (u := .int .i64 q5.1) hf (by decide) pl3 (wantY hf rfl rfl hb24) rfl (hp.ob (i := 1) rfl) rfl ?_
    clear hf; intro a ha hf; clear ha
    refine st_iadd hf (by decide) (wantY hf rfl rfl hb24) rfl rfl ?_
    clear hf; intro a ha hf; clear ha
    refine st_isub hf (by decide) (wantY hf rfl rfl hb24) rfl rfl ?_
    clear hf; intro a ha hf; clear ha
    refine st_ineq hf (by decide) (wantY hf rfl rfl hb24) rfl rfl ?_
    clear hf; intro a ha hf; clear ha
    refine st_pick (v := .bool ((q17.1.length : Int) != (IntKind.i64.wrap ((IntKind.i64.wrap ((bits1.length : Int) + q5.1)) - (1 : Int))))) hf rfl rfl (fun hb' => ?_) (fun hb' => ?_) (by decide) ?_
    · exact absurd (hb24.symm.trans hb') (by decide)
    · rfl
    clear hf; intro a ha hf; clear ha
    refine st_nil hf (th_n ?_)
    exact ⟨hf.sub ⟨rfl, rfl, rfl, rfl, rfl, rfl, (by rw [hb24]; rfl), trivial⟩, hp⟩
  rintro a w ⟨hf, hp⟩
  refine st_nil hf ?_
  refine th_n ?_
  refine wp_if hf rfl (fun hb => ?_) (fun hb => ?_)
  · replace h := ifT h hb
    refine wp_seq ?_
    refine wp_reg ?_
    refine st_assign hf rfl rfl (by decide) ?_
    clear hf; intro a ha hf; clear ha
    refine st_nil hf ?_
    refine th_n ?_
    refine wp_ret ?_
    refine th_r ?_
    obtain rfl := Option.some.inj h
    have hp : Hp _ _ _ (ow) := Hp.sel (pre := [Res.sl Ek.c128 33 v19 q17.1, Res.obj 24 v7 [.int .i64 q5.1, .int .u32 q5.2.1, .int .u32 q5.2.2]]) (tail := ow) (rs' := []) hp [] (by decide) (by simp) rfl
    exact ⟨rfl, ⟨hf.sub ⟨rfl, trivial⟩, hp⟩⟩
  replace h := ifF h hb
  refine wp_skip ?_
  refine th_n ?_
  refine wp_seq ?_
  refine wp_reg ?_
  refine st_move hf rfl rfl (by decide) ?_
  clear hf; intro a ha hf; clear ha
  refine st_len (E := Ek.c128) hf (by decide) Try.underlying36 rfl rfl (hp.sl (i := 0) rfl) ?_
  clear hf; intro a ha hf; clear ha
  obtain ⟨hc25, h⟩ := chk h
  refine st_make (E := (Ek.pair Ek.c128 Ek.bool)) hf (by decide) elt35 Try.underlying27 (by decide) hp rfl rfl rfl hc25.1 hc25.2.1 hc25.2.2 ?_
  clear hf; intro a w v26 hf hp0; clear hp; have hp := hp0; clear hp0
  replace hp : Hp _ _ _ (Res.sl (Ek.pair Ek.c128 Ek.bool) 35 v26 (List.replicate ((q17.1.length : Int)).toNat ((Fl.bits 0, Fl.bits 0), false)) :: Res.sl Ek.c128 33 v19 q17.1 :: Res.obj 24 v7 [.int .i64 q5.1, .int .u32 q5.2.1, .int .u32 q5.2.2] :: ow) := hp
  refine st_assign hf rfl rfl (by decide) ?_
  clear hf; intro a ha hf; clear ha
  refine st_nil hf ?_
  refine th_n ?_
  refine wp_seq ?_
  refine wp_seq ?_
  refine wp_reg ?_
  refine st_assign hf rfl rfl (by decide) ?_
  clear hf; intro a ha hf; clear ha
  refine st_nil hf ?_
  refine th_n ?_
  refine wp_block ?_
  obtain ⟨q79, hl, h⟩ := bnd h
  have hp : Hp _ _ _ (Res.sl (Ek.pair Ek.c128 Ek.bool) 35 v26 (List.replicate ((q17.1.length : Int)).toNat ((Fl.bits 0, Fl.bits 0), false)) :: Res.obj 24 v7 [.int .i64 q5.1, .int .u32 q5.2.1, .int .u32 q5.2.2] :: Res.sl Ek.c128 33 v19 q17.1 :: ow) := Hp.sel (pre := [Res.sl (Ek.pair Ek.c128 Ek.bool) 35 v26 (List.replicate ((q17.1.length : Int)).toNat ((Fl.bits 0, Fl.bits 0), false)), Res.sl Ek.c128 33 v19 q17.1, Res.obj 24 v7 [.int .i64 q5.1, .int .u32 q5.2.1, .int .u32 q5.2.2]]) (tail := ow) (rs' := [Res.sl (Ek.pair Ek.c128 Ek.bool) 35 v26 (List.replicate ((q17.1.length : Int)).toNat ((Fl.bits 0, Fl.bits 0), false)), Res.obj 24 v7 [.int .i64 q5.1, .int .u32 q5.2.1, .int .u32 q5.2.2], Res.sl Ek.c128 33 v19 q17.1]) hp [0, 2, 1] (by decide) (by simp) rfl
  refine wp_loop_pure (f := (f_foghornlaw23_SoftReach.s1 noise2 q17)) (s := ((List.replicate ((q17.1.length : Int)).toNat ((Fl.bits 0, Fl.bits 0), false)), (0 : Int))) (fun s a w => ∃ (v28 : Value), Fr 188 a [(1, v9), (2, vnoise2), (3, vlost3), (9, optr v7 0), (10, .int .i64 q13.1), (12, v19), (14, v28), (15, .int .i64 s.2)] ∧ Hp S w0 w (Res.sl (Ek.pair Ek.c128 Ek.bool) 35 v28 s.1 :: Res.obj 24 v7 [.int .i64 q5.1, .int .u32 q5.2.1, .int .u32 q5.2.2] :: Res.sl Ek.c128 33 v19 q17.1 :: ow)) (fun q e a w => e = .exit 0 ∧ ∃ (v30 : Value), Fr 188 a [(1, v9), (3, vlost3), (9, optr v7 0), (10, .int .i64 q13.1), (14, v30)] ∧ Hp S w0 w (Res.sl (Ek.pair Ek.c128 Ek.bool) 35 v30 q :: Res.obj 24 v7 [.int .i64 q5.1, .int .u32 q5.2.1, .int .u32 q5.2.2] :: ow)) ?_ hl ⟨_, hf.sub ⟨rfl, rfl, rfl, rfl, rfl, rfl, rfl, rfl, trivial⟩, hp⟩ ?_
  · clear hl hf hp
    intro s x a w h hI
    obtain ⟨xx14, i15⟩ := s
    obtain ⟨v28, hf, hp⟩ : ∃ (v28 : Value), Fr 188 a [(1, v9), (2, vnoise2), (3, vlost3), (9, optr v7 0), (10, .int .i64 q13.1), (12, v19), (14, v28), (15, .int .i64 i15)] ∧ Hp S w0 w (Res.sl (Ek.pair Ek.c128 Ek.bool) 35 v28 xx14 :: Res.obj 24 v7 [.int .i64 q5.1, .int .u32 q5.2.1, .int .u32 q5.2.2] :: Res.sl Ek.c128 33 v19 q17.1 :: ow) := hI
    replace h : f_foghornlaw23_SoftReach.s1c noise2 q17 xx14 i15 = some x := h
    unfold f_foghornlaw23_SoftReach.s1c at h
    refine wp_seq ?_
    refine wp_seq ?_
    refine wp_reg ?_
    refine st_move hf rfl rfl (by decide) ?_
    clear hf; intro a ha hf; clear ha
    refine st_move hf rfl rfl (by decide) ?_
    clear hf; intro a ha hf; clear ha
    refine st_len (E := Ek.c128) hf (by decide) Try.underlying36 rfl rfl (hp.sl (i := 2) rfl) ?_
    clear hf; intro a ha hf; clear ha
    refine st_ilss hf (by decide) rfl rfl rfl ?_
    clear hf; intro a ha hf; clear ha
    refine st_nil hf ?_
    refine th_n ?_
    refine wp_if hf rfl (fun hb => ?_) (fun hb => ?_)
    · replace h := ifT h hb
      refine wp_skip ?_
      refine th_n ?_
      refine wp_seq ?_
      refine wp_block ?_
      refine wp_seq ?_
      refine wp_reg ?_
      refine st_move hf rfl rfl (by decide) ?_
      clear hf; intro a ha hf; clear ha
      refine st_move hf rfl rfl (by decide) ?_
      clear hf; intro a ha hf; clear ha
      refine st_move hf rfl rfl (by decide) ?_
      clear hf; intro a ha hf; clear ha
      refine st_move hf rfl rfl (by decide) ?_
      clear hf; intro a ha hf; clear ha
      obtain ⟨hc32, h⟩ := chk h
      refine st_index (E := Ek.c128) hf (by decide) Try.underlying36 elt33 rfl rfl rfl (hp.sl (i := 2) rfl) hc32.1 hc32.2 ?_
      clear hf; intro a ha hf; clear ha
      refine st_ldC hf (by decide) pl33 rfl rfl (hp.sl (i := 2) rfl) hc32.1 hc32.2 ?_
      clear hf; intro a bb33 bb34 y35 y36 ha hf; clear ha
      obtain ⟨hc37, h⟩ := chk h
      refine st_index (E := (Ek.pair Ek.c128 Ek.bool)) hf (by decide) Try.underlying27 elt35 rfl rfl rfl (hp.sl (i := 0) rfl) hc37.1 hc37.2 ?_
      clear hf; intro a ha hf; clear ha
      refine st_faP (off := 0) (sz := 1) hf (by decide) (by kernel_rfl) (by decide) rfl rfl (Sl.isP (hp.sl (i := 0) rfl) hc37.1 hc37.2) ?_
      clear hf; intro a ha hf; clear ha
      refine st_stQ (E := (Ek.pair Ek.c128 Ek.bool)) (F := Ek.c128) (o := 0) (Sub.fst (E := Ek.c128) (F := Ek.bool)) hf (by kernel_rfl) hp (i := 0) rfl rfl rfl rfl (show Ek.c128.rep [.complex .f64 bb33 bb34] (gt q17.1 i15) from ⟨_, _, rfl, y35, y36⟩) hc37.1 hc37.2 ?_
      clear hf; intro a w hf hp0; clear hp; have hp := hp0; clear hp0
      replace hp : Hp _ _ _ (Res.sl (Ek.pair Ek.c128 Ek.bool) 35 v28 (xx14.set (i15).toNat ((gt q17.1 i15), (gt xx14 i15).2)) :: Res.obj 24 v7 [.int .i64 q5.1, .int .u32 q5.2.1, .int .u32 q5.2.2] :: Res.sl Ek.c128 33 v19 q17.1 :: ow) := hp
      refine st_nil hf ?_
      refine th_n ?_
      refine wp_seq ?_
      refine wp_reg ?_
      refine st_move hf rfl rfl (by decide) ?_
      clear hf; intro a ha hf; clear ha
      refine st_len (E := (Ek.pair (Ek.int .i32) (Ek.pair (Ek.int .i32) Ek.bool))) hf (by decide) Try.underlying26 rfl rfl (hnoise2.sl hp) ?_
      clear hf; intro a ha hf; clear ha
      refine st_igtr hf (by decide) rfl rfl rfl ?_
      clear hf; intro a ha hf; clear ha
      refine st_nil hf ?_
      refine th_n ?_
      refine wp_if hf rfl (fun hb => ?_) (fun hb => ?_)
      · replace h := ifT h hb
        refine wp_seq ?_
        refine wp_reg ?_
        refine st_move hf rfl rfl (by decide) ?_
        clear hf; intro a ha hf; clear ha
        refine st_move hf rfl rfl (by decide) ?_
        clear hf; intro a ha hf; clear ha
        refine st_move hf rfl rfl (by decide) ?_
        clear hf; intro a ha hf; clear ha
        refine st_len (E := (Ek.pair (Ek.int .i32) (Ek.pair (Ek.int .i32) Ek.bool))) hf (by decide) Try.underlying26 rfl rfl (hnoise2.sl hp) ?_
        clear hf; intro a ha hf; clear ha
        obtain ⟨hc38, h⟩ := chk h
        refine st_irem hf (by decide) rfl rfl rfl hc38 ?_
        clear hf; intro a ha hf; clear ha
        obtain ⟨hc39, h⟩ := chk h
        refine st_index (E := (Ek.pair (Ek.int .i32) (Ek.pair (Ek.int .i32) Ek.bool))) hf (by decide) Try.underlying26 elt62 rfl rfl rfl (hnoise2.sl hp) hc39.1 hc39.2 ?_
        clear hf; intro a ha hf; clear ha
        refine st_ldQX (F := (Ek.pair (Ek.int .i32) (Ek.pair (Ek.int .i32) Ek.bool))) (yv := (gt noise2 ((i15).tmod (noise2.length : Int)))) (m := 3) (us := [.int .i32 ((gt noise2 ((i15).tmod (noise2.length : Int))).1), .int .i32 ((gt noise2 ((i15).tmod (noise2.length : Int))).2.1), .bool ((gt noise2 ((i15).tmod (noise2.length : Int))).2.2)]) hf (by decide) (by kernel_rfl) rfl (fun cs9 h9 => by obtain ⟨_, _, rfl, rfl, ⟨_, _, rfl, rfl, rfl⟩⟩ := h9; rfl) rfl rfl (Part.whole (hnoise2.sl hp) hc39.1 hc39.2) ?_
        clear hf; intro a ha hf; clear ha
        refine st_alloc (cs := [.int .i32 (0 : Int), .int .i32 (0 : Int), .bool false]) (zv := .agg #[.int .i32 (0 : Int), .int .i32 (0 : Int), .bool false]) hf (by decide) (by kernel_rfl) rfl hp rfl ?_
        clear hf; intro a w v40 hf hp0; clear hp; have hp := hp0; clear hp0
        replace hp : Hp _ _ _ (Res.obj 62 v40 [.int .i32 (0 : Int), .int .i32 (0 : Int), .bool false] :: Res.sl (Ek.pair Ek.c128 Ek.bool) 35 v28 (xx14.set (i15).toNat ((gt q17.1 i15), (gt xx14 i15).2)) :: Res.obj 24 v7 [.int .i64 q5.1, .int .u32 q5.2.1, .int .u32 q5.2.2] :: Res.sl Ek.c128 33 v19 q17.1 :: ow) := hp
        refine st_stO (us := [.int .i32 ((gt noise2 ((i15).tmod (noise2.length : Int))).1), .int .i32 ((gt noise2 ((i15).tmod (noise2.length : Int))).2.1), .bool ((gt noise2 ((i15).tmod (noise2.length : Int))).2.2)]) hf hp (i := 0) rfl rfl rfl rfl rfl (by rfl) (by kernel_rfl) (Nat.le_of_ble_eq_true rfl) ?_
        clear hf; intro a w hf hp0; clear hp; have hp := hp0; clear hp0
        replace hp : Hp _ _ _ (Res.obj 62 v40 [.int .i32 ((gt noise2 ((i15).tmod (noise2.length : Int))).1), .int .i32 ((gt noise2 ((i15).tmod (noise2.length : Int))).2.1), .bool ((gt noise2 ((i15).tmod (noise2.length : Int))).2.2)] :: Res.sl (Ek.pair Ek.c128 Ek.bool) 35 v28 (xx14.set (i15).toNat ((gt q17.1 i15), (gt xx14 i15).2)) :: Res.obj 24 v7 [.int .i64 q5.1, .int .u32 q5.2.1, .int .u32 q5.2.2] :: Res.sl Ek.c128 33 v19 q17.1 :: ow) := hp
        refine st_nil hf ?_
        refine th_n ?_
        obtain ⟨S42, hp43, rd44, up45, bk46⟩ := Hp.lendS hp (i := 3) rfl
        obtain ⟨S47, hp48, rd49, up50, bk51⟩ := Hp.lendO hp43 (i := 0) rfl
        have rl52 := ((((y10.now hp).mono up45).now hp43).mono up50)
        have rl53 := ((((hnoise2.now hp).mono up45).now hp43).mono up50)
        have rl54 := ((((hlost3.now hp).mono up45).now hp43).mono up50)
        have rl55 := ((rd44.now hp43).mono up50)
        have rl56 := rd49
        have fx78 := hp.sl (i := 1) rfl
        obtain ⟨hc57, h⟩ := chk h
        obtain ⟨bb59, bb60, y61, y62, hl58⟩ := RdS.pinC (p := i15) rl55 hc57.1 hc57.2
        obtain ⟨q63, hq64, h⟩ := bnd h
        obtain ⟨q65, hq66, h⟩ := bnd h
        obtain ⟨hc67, h⟩ := chk h
        obtain ⟨bb69, bb70, y71, y72, hl68⟩ := RdS.pinC (p := i15) rl55 hc67.1 hc67.2
        obtain ⟨q73, hq74, h⟩ := bnd h
        obtain ⟨q75, hq76, h⟩ := bnd h
        obtain ⟨hc77, h⟩ := chk h
        refine wp_cutN (fun a w => Fr 188 a [(1, v9), (2, vnoise2), (3, vlost3), (9, optr v7 0), (10, .int .i64 q13.1), (12, v19), (14, v28), (15, .int .i64 i15)] ∧ Hp S w0 w (Res.sl Ek.c128 33 v19 q17.1 :: Res.obj 62 v40 [.int .i32 ((gt noise2 ((i15).tmod (noise2.length : Int))).1), .int .i32 ((gt noise2 ((i15).tmod (noise2.length : Int))).2.1), .bool ((gt noise2 ((i15).tmod (noise2.length : Int))).2.2)] :: Res.sl (Ek.pair Ek.c128 Ek.bool) 35 v28 ((xx14.set (i15).toNat ((gt q17.1 i15), (gt xx14 i15).2)).set (i15).toNat ((q65, q75), (gt (xx14.set (i15).toNat ((gt q17.1 i15), (gt xx14 i15).2)) i15).2)) :: Res.obj 24 v7 [.int .i64 q5.1, .int .u32 q5.2.1, .int .u32 q5.2.2] :: ow)) ?_ ?_
        · have hp := hp48.same (Same.drew w)
          refine dr_begin' (fun a w => Fr 188 a [(1, v9), (2, vnoise2), (3, vlost3), (9, optr v7 0), (10, .int .i64 q13.1), (12, v19), (14, v28), (15, .int .i64 i15)] ∧ Hp S w0 w (Res.sl Ek.c128 33 v19 q17.1 :: Res.obj 62 v40 [.int .i32 ((gt noise2 ((i15).tmod (noise2.length : Int))).1), .int .i32 ((gt noise2 ((i15).tmod (noise2.length : Int))).2.1), .bool ((gt noise2 ((i15).tmod (noise2.length : Int))).2.2)] :: Res.sl (Ek.pair Ek.c128 Ek.bool) 35 v28 ((xx14.set (i15).toNat ((gt q17.1 i15), (gt xx14 i15).2)).set (i15).toNat ((q65, q75), (gt (xx14.set (i15).toNat ((gt q17.1 i15), (gt xx14 i15).2)) i15).2)) :: Res.obj 24 v7 [.int .i64 q5.1, .int .u32 q5.2.1, .int .u32 q5.2.2] :: ow)) (fun w' => ∃ l, Hp S47 w w' l) [] (by kernel_rfl) ?_
          refine dr_takeP 0 (v28) rfl (by kernel_rfl) (by kernel_rfl) (by kernel_rfl) rfl rfl hf (by decide) rfl (fun w => ?_) ?_
          · skip
            refine st_move hf rfl rfl (by decide) ?_
            clear hf; intro a ha hf
            exact st_nil hf (th_n ⟨ha, rfl⟩)
          clear hf; intro a hf
          refine dr_takeP 1 (.int .i64 i15) rfl (by kernel_rfl) (by kernel_rfl) (by kernel_rfl) rfl rfl hf (by decide) rfl (fun w => ?_) ?_
          · skip
            refine st_move hf rfl rfl (by decide) ?_
            clear hf; intro a ha hf
            exact st_nil hf (th_n ⟨ha, rfl⟩)
          clear hf; intro a hf
          refine dr_takeP 2 (v19) rfl (by kernel_rfl) (by kernel_rfl) (by kernel_rfl) rfl rfl hf (by decide) rfl (fun w => ?_) ?_
          · skip
            refine st_move hf rfl rfl (by decide) ?_
            clear hf; intro a ha hf
            exact st_nil hf (th_n ⟨ha, rfl⟩)
          clear hf; intro a hf
          refine dr_takeP 3 (.int .i64 i15) rfl (by kernel_rfl) (by kernel_rfl) (by kernel_rfl) rfl rfl hf (by decide) rfl (fun w => ?_) ?_
          · skip
            refine st_move hf rfl rfl (by decide) ?_
            clear hf; intro a ha hf
            exact st_nil hf (th_n ⟨ha, rfl⟩)
          clear hf; intro a hf
          refine dr_takeP 4 (eptr v19 i15 1) rfl (by kernel_rfl) (by kernel_rfl) (by kernel_rfl) rfl rfl hf (by decide) rfl (fun w => ?_) ?_
          · skip
            refine st_index (E := Ek.c128) hf (by decide) Try.underlying36 elt33 rfl rfl rfl rl55.any hc57.1 hc57.2 ?_
            clear hf; intro a ha hf
            exact st_nil hf (th_n ⟨ha, rfl⟩)
          clear hf; intro a hf
          refine dr_take 5 (.complex .f64 bb59 bb60) rfl (by kernel_rfl) (by kernel_rfl) (by kernel_rfl) (by kernel_rfl) rfl rfl hf (by decide) rfl (fun w hp => ?_) ⟨_, hp⟩ ?_
          · obtain ⟨_, hp⟩ := hp
            refine st_ldP hf (by decide) pl33 rfl rfl (hl58 _ _ hp) ?_
            clear hf; intro a ha hf
            exact st_nil hf (th_n ⟨ha, rfl⟩)
          clear hf; intro a hf
          refine dr_takeP 6 (.float .f64 bb59) rfl (by kernel_rfl) (by kernel_rfl) (by kernel_rfl) rfl rfl hf (by decide) rfl (fun w => ?_) ?_
          · skip
            refine st_real hf (by decide) rfl rfl ?_
            clear hf; intro a ha hf
            exact st_nil hf (th_n ⟨ha, rfl⟩)
          clear hf; intro a hf
          refine dr_takeP 7 (optr v40 0) rfl (by kernel_rfl) (by kernel_rfl) (by kernel_rfl) rfl rfl hf (by decide) rfl (fun w => ?_) ?_
          · skip
            refine st_fa (o' := 0) hf (by decide) (off := 0) (sz := 1) (by kernel_rfl) (by decide) rfl rfl (rl56.mono fun _ _ => trivial) rfl ?_
            clear hf; intro a ha hf
            exact st_nil hf (th_n ⟨ha, rfl⟩)
          clear hf; intro a hf
          refine dr_take 8 (.int .i32 ((gt noise2 ((i15).tmod (noise2.length : Int))).1)) rfl (by kernel_rfl) (by kernel_rfl) (by kernel_rfl) (by kernel_rfl) rfl rfl hf (by decide) rfl (fun w hp => ?_) ⟨_, hp⟩ ?_
          · obtain ⟨_, hp⟩ := hp
            refine st_ldO (u := .int .i32 ((gt noise2 ((i15).tmod (noise2.length : Int))).1)) hf (by decide) pl21 rfl rfl (rl56.ob hp) rfl ?_
            clear hf; intro a ha hf
            exact st_nil hf (th_n ⟨ha, rfl⟩)
          clear hf; intro a hf
          refine dr_takeP 9 (.int .i32 (((gt noise2 ((i15).tmod (noise2.length : Int))).1).tmod (4096 : Int))) rfl (by kernel_rfl) (by kernel_rfl) (by kernel_rfl) rfl rfl hf (by decide) rfl (fun w => ?_) ?_
          · skip
            refine st_irem hf (by decide) rfl rfl rfl (by decide) ?_
            clear hf; intro a ha hf
            exact st_nil hf (th_n ⟨ha, rfl⟩)
          clear hf; intro a hf
          refine dr_take 10 (.float .f64 (FloatKind.f64.nearest (((gt noise2 ((i15).tmod (noise2.length : Int))).1).tmod (4096 : Int)))) rfl (by kernel_rfl) (by kernel_rfl) (by kernel_rfl) (by kernel_rfl) rfl rfl hf (by decide) rfl (fun w hp => ?_) ⟨_, hp⟩ ?_
          · obtain ⟨_, hp⟩ := hp
            refine st_conv_if Try.underlying21 Try.underlying29 hf (by decide) rfl rfl ?_
            clear hf; intro a ha hf
            exact st_nil hf (th_n ⟨ha, rfl⟩)
          clear hf; intro a hf
          refine dr_takeP 11 (.float .f64 (flb q63)) rfl (by kernel_rfl) (by kernel_rfl) (by kernel_rfl) rfl rfl hf (by decide) rfl (fun w => ?_) ?_
          · skip
            refine st_fs (op := .quo) rfl hf (by decide) rfl rfl rfl (show Fl.rep (FloatKind.f64.nearest (((gt noise2 ((i15).tmod (noise2.length : Int))).1).tmod (4096 : Int))) (fofi (((gt noise2 ((i15).tmod (noise2.length : Int))).1).tmod (4096 : Int))) from rfl) (show Fl.rep 4661225614328463360 (Fl.bits 4661225614328463360) from rfl) hq64 ?_
            clear hf; intro a ha hf
            exact st_nil hf (th_n ⟨ha, rfl⟩)
          clear hf; intro a hf
          refine dr_takeP 12 (.float .f64 (flb q65)) rfl (by kernel_rfl) (by kernel_rfl) (by kernel_rfl) rfl rfl hf (by decide) rfl (fun w => ?_) ?_
          · skip
            refine st_fs (op := .add) rfl hf (by decide) rfl rfl rfl (show Fl.rep bb59 ((gt q17.1 i15).1) from y61) (show Fl.rep (flb q63) q63 from (farithS_rep hq64)) hq66 ?_
            clear hf; intro a ha hf
            exact st_nil hf (th_n ⟨ha, rfl⟩)
          clear hf; intro a hf
          refine dr_takeP 13 (v19) rfl (by kernel_rfl) (by kernel_rfl) (by kernel_rfl) rfl rfl hf (by decide) rfl (fun w => ?_) ?_
          · skip
            refine st_move hf rfl rfl (by decide) ?_
            clear hf; intro a ha hf
            exact st_nil hf (th_n ⟨ha, rfl⟩)
          clear hf; intro a hf
          refine dr_takeP 14 (.int .i64 i15) rfl (by kernel_rfl) (by kernel_rfl) (by kernel_rfl) rfl rfl hf (by decide) rfl (fun w => ?_) ?_
          · skip
            refine st_move hf rfl rfl (by decide) ?_
            clear hf; intro a ha hf
            exact st_nil hf (th_n ⟨ha, rfl⟩)
          clear hf; intro a hf
          refine dr_takeP 15 (eptr v19 i15 1) rfl (by kernel_rfl) (by kernel_rfl) (by kernel_rfl) rfl rfl hf (by decide) rfl (fun w => ?_) ?_
          · skip
            refine st_index (E := Ek.c128) hf (by decide) Try.underlying36 elt33 rfl rfl rfl rl55.any hc67.1 hc67.2 ?_
            clear hf; intro a ha hf
            exact st_nil hf (th_n ⟨ha, rfl⟩)
          clear hf; intro a hf
          refine dr_take 16 (.complex .f64 bb69 bb70) rfl (by kernel_rfl) (by kernel_rfl) (by kernel_rfl) (by kernel_rfl) rfl rfl hf (by decide) rfl (fun w hp => ?_) ⟨_, hp⟩ ?_
          · obtain ⟨_, hp⟩ := hp
            refine st_ldP hf (by decide) pl33 rfl rfl (hl68 _ _ hp) ?_
            clear hf; intro a ha hf
            exact st_nil hf (th_n ⟨ha, rfl⟩)
          clear hf; intro a hf
          refine dr_takeP 17 (.float .f64 bb70) rfl (by kernel_rfl) (by kernel_rfl) (by kernel_rfl) rfl rfl hf (by decide) rfl (fun w => ?_) ?_
          · skip
            refine st_imag hf (by decide) rfl rfl ?_
            clear hf; intro a ha hf
            exact st_nil hf (th_n ⟨ha, rfl⟩)
          clear hf; intro a hf
          refine dr_takeP 18 (optr v40 1) rfl (by kernel_rfl) (by kernel_rfl) (by kernel_rfl) rfl rfl hf (by decide) rfl (fun w => ?_) ?_
          · skip
            refine st_fa (o' := 1) hf (by decide) (off := 1) (sz := 1) (by kernel_rfl) (by decide) rfl rfl (rl56.mono fun _ _ => trivial) rfl ?_
            clear hf; intro a ha hf
            exact st_nil hf (th_n ⟨ha, rfl⟩)
          clear hf; intro a hf
          refine dr_take 19 (.int .i32 ((gt noise2 ((i15).tmod (noise2.length : Int))).2.1)) rfl (by kernel_rfl) (by kernel_rfl) (by kernel_rfl) (by kernel_rfl) rfl rfl hf (by decide) rfl (fun w hp => ?_) ⟨_, hp⟩ ?_
          · obtain ⟨_, hp⟩ := hp
            refine st_ldO (u := .int .i32 ((gt noise2 ((i15).tmod (noise2.length : Int))).2.1)) hf (by decide) pl21 rfl rfl (rl56.ob hp) rfl ?_
            clear hf; intro a ha hf
            exact st_nil hf (th_n ⟨ha, rfl⟩)
          clear hf; intro a hf
          refine dr_takeP 20 (.int .i32 (((gt noise2 ((i15).tmod (noise2.length : Int))).2.1).tmod (4096 : Int))) rfl (by kernel_rfl) (by kernel_rfl) (by kernel_rfl) rfl rfl hf (by decide) rfl (fun w => ?_) ?_
          · skip
            refine st_irem hf (by decide) rfl rfl rfl (by decide) ?_
            clear hf; intro a ha hf
            exact st_nil hf (th_n ⟨ha, rfl⟩)
          clear hf; intro a hf
          refine dr_take 21 (.float .f64 (FloatKind.f64.nearest (((gt noise2 ((i15).tmod (noise2.length : Int))).2.1).tmod (4096 : Int)))) rfl (by kernel_rfl) (by kernel_rfl) (by kernel_rfl) (by kernel_rfl) rfl rfl hf (by decide) rfl (fun w hp => ?_) ⟨_, hp⟩ ?_
          · obtain ⟨_, hp⟩ := hp
            refine st_conv_if Try.underlying21 Try.underlying29 hf (by decide) rfl rfl ?_
            clear hf; intro a ha hf
            exact st_nil hf (th_n ⟨ha, rfl⟩)
          clear hf; intro a hf
          refine dr_takeP 22 (.float .f64 (flb q73)) rfl (by kernel_rfl) (by kernel_rfl) (by kernel_rfl) rfl rfl hf (by decide) rfl (fun w => ?_) ?_
          · skip
            refine st_fs (op := .quo) rfl hf (by decide) rfl rfl rfl (show Fl.rep (FloatKind.f64.nearest (((gt noise2 ((i15).tmod (noise2.length : Int))).2.1).tmod (4096 : Int))) (fofi (((gt noise2 ((i15).tmod (noise2.length : Int))).2.1).tmod (4096 : Int))) from rfl) (show Fl.rep 4661225614328463360 (Fl.bits 4661225614328463360) from rfl) hq74 ?_
            clear hf; intro a ha hf
            exact st_nil hf (th_n ⟨ha, rfl⟩)
          clear hf; intro a hf
          refine dr_takeP 23 (.float .f64 (flb q75)) rfl (by kernel_rfl) (by kernel_rfl) (by kernel_rfl) rfl rfl hf (by decide) rfl (fun w => ?_) ?_
          · skip
            refine st_fs (op := .add) rfl hf (by decide) rfl rfl rfl (show Fl.rep bb70 ((gt q17.1 i15).2) from y72) (show Fl.rep (flb q73) q73 from (farithS_rep hq74)) hq76 ?_
            clear hf; intro a ha hf
            exact st_nil hf (th_n ⟨ha, rfl⟩)
          clear hf; intro a hf
          refine dr_takeP 24 (.complex .f64 (flb q65) (flb q75)) rfl (by kernel_rfl) (by kernel_rfl) (by kernel_rfl) rfl rfl hf (by decide) rfl (fun w => ?_) ?_
          · skip
            refine st_complex hf (by decide) rfl rfl rfl ?_
            clear hf; intro a ha hf
            exact st_nil hf (th_n ⟨ha, rfl⟩)
          clear hf; intro a hf
          refine dr_takeP 25 (eptr v28 i15 2) rfl (by kernel_rfl) (by kernel_rfl) (by kernel_rfl) rfl rfl hf (by decide) rfl (fun w => ?_) ?_
          · skip
            refine st_index (E := (Ek.pair Ek.c128 Ek.bool)) hf (by decide) Try.underlying27 elt35 rfl rfl rfl fx78 hc77.1 hc77.2 ?_
            clear hf; intro a ha hf
            exact st_nil hf (th_n ⟨ha, rfl⟩)
          clear hf; intro a hf
          refine dr_takeP 26 (optr (eptr v28 i15 2) 0) rfl (by kernel_rfl) (by kernel_rfl) (by kernel_rfl) rfl rfl hf (by decide) rfl (fun w => ?_) ?_
          · skip
            refine st_faP (off := 0) (sz := 1) hf (by decide) (by kernel_rfl) (by decide) rfl rfl (Sl.isP fx78 hc77.1 hc77.2) ?_
            clear hf; intro a ha hf
            exact st_nil hf (th_n ⟨ha, rfl⟩)
          clear hf; intro a hf
          refine dr_one 27 rfl (by kernel_rfl) ?_
          refine st_stQ (E := (Ek.pair Ek.c128 Ek.bool)) (F := Ek.c128) (o := 0) (Sub.fst (E := Ek.c128) (F := Ek.bool)) hf (by kernel_rfl) hp (i := 0) rfl rfl rfl rfl (show Ek.c128.rep [.complex .f64 (flb q65) (flb q75)] (q65, q75) from ⟨_, _, rfl, (farithS_rep hq66), (farithS_rep hq76)⟩) hc77.1 hc77.2 ?_
          clear hf; intro a w hf hp0; clear hp; have hp := hp0; clear hp0
          replace hp : Hp _ _ _ (Res.sl (Ek.pair Ek.c128 Ek.bool) 35 v28 ((xx14.set (i15).toNat ((gt q17.1 i15), (gt xx14 i15).2)).set (i15).toNat ((q65, q75), (gt (xx14.set (i15).toNat ((gt q17.1 i15), (gt xx14 i15).2)) i15).2)) :: Res.obj 24 v7 [.int .i64 q5.1, .int .u32 q5.2.1, .int .u32 q5.2.2] :: ow) := hp
          refine st_nil hf (th_n ⟨fun _ _ => ⟨_, hp⟩, ?_⟩)
          refine dr_end (by kernel_rfl) ?_ _
          have hp := bk51 _ _ hp
          have hp := bk46 _ _ hp
          exact ⟨hf.sub ⟨rfl, rfl, rfl, rfl, rfl, rfl, rfl, rfl, trivial⟩, hp⟩
        rintro a w ⟨hf, hp⟩
        refine ib_n ?_
        refine th_n ?_
        refine wp_reg ?_
        refine st_move hf rfl rfl (by decide) ?_
        clear hf; intro a ha hf; clear ha
        refine st_iadd hf (by decide) rfl rfl rfl ?_
        clear hf; intro a ha hf; clear ha
        refine st_assign hf rfl rfl (by decide) ?_
        clear hf; intro a ha hf; clear ha
        refine st_nil hf ?_
        obtain rfl := Option.some.inj h
        have hp : Hp _ _ _ (Res.sl (Ek.pair Ek.c128 Ek.bool) 35 v28 ((xx14.set (i15).toNat ((gt q17.1 i15), (gt xx14 i15).2)).set (i15).toNat ((q65, q75), (gt (xx14.set (i15).toNat ((gt q17.1 i15), (gt xx14 i15).2)) i15).2)) :: Res.obj 24 v7 [.int .i64 q5.1, .int .u32 q5.2.1, .int .u32 q5.2.2] :: Res.sl Ek.c128 33 v19 q17.1 :: ow) := Hp.sel (pre := [Res.sl Ek.c128 33 v19 q17.1, Res.obj 62 v40 [.int .i32 ((gt noise2 ((i15).tmod (noise2.length : Int))).1), .int .i32 ((gt noise2 ((i15).tmod (noise2.length : Int))).2.1), .bool ((gt noise2 ((i15).tmod (noise2.length : Int))).2.2)], Res.sl (Ek.pair Ek.c128 Ek.bool) 35 v28 ((xx14.set (i15).toNat ((gt q17.1 i15), (gt xx14 i15).2)).set (i15).toNat ((q65, q75), (gt (xx14.set (i15).toNat ((gt q17.1 i15), (gt xx14 i15).2)) i15).2)), Res.obj 24 v7 [.int .i64 q5.1, .int .u32 q5.2.1, .int .u32 q5.2.2]]) (tail := ow) (rs' := [Res.sl (Ek.pair Ek.c128 Ek.bool) 35 v28 ((xx14.set (i15).toNat ((gt q17.1 i15), (gt xx14 i15).2)).set (i15).toNat ((q65, q75), (gt (xx14.set (i15).toNat ((gt q17.1 i15), (gt xx14 i15).2)) i15).2)), Res.obj 24 v7 [.int .i64 q5.1, .int .u32 q5.2.1, .int .u32 q5.2.2], Res.sl Ek.c128 33 v19 q17.1]) hp [2, 3, 0] (by decide) (by simp) rfl
        exact rnd_l ⟨_, hf.sub ⟨rfl, rfl, rfl, rfl, rfl, rfl, rfl, rfl, trivial⟩, hp⟩
      replace h := ifF h hb
      refine wp_skip ?_
      refine ib_n ?_
      refine th_n ?_
      refine wp_reg ?_
      refine st_move hf rfl rfl (by decide) ?_
      clear hf; intro a ha hf; clear ha
      refine st_iadd hf (by decide) rfl rfl rfl ?_
      clear hf; intro a ha hf; clear ha
      refine st_assign hf rfl rfl (by decide) ?_
      clear hf; intro a ha hf; clear ha
      refine st_nil hf ?_
      obtain rfl := Option.some.inj h
      exact rnd_l ⟨_, hf.sub ⟨rfl, rfl, rfl, rfl, rfl, rfl, rfl, rfl, trivial⟩, hp⟩
    replace h := ifF h hb
    refine wp_exit ?_
    refine th_e ?_
    obtain rfl := Option.some.inj h
    have hp : Hp _ _ _ (Res.sl (Ek.pair Ek.c128 Ek.bool) 35 v28 xx14 :: Res.obj 24 v7 [.int .i64 q5.1, .int .u32 q5.2.1, .int .u32 q5.2.2] :: ow) := Hp.sel (pre := [Res.sl (Ek.pair Ek.c128 Ek.bool) 35 v28 xx14, Res.obj 24 v7 [.int .i64 q5.1, .int .u32 q5.2.1, .int .u32 q5.2.2], Res.sl Ek.c128 33 v19 q17.1]) (tail := ow) (rs' := [Res.sl (Ek.pair Ek.c128 Ek.bool) 35 v28 xx14, Res.obj 24 v7 [.int .i64 q5.1, .int .u32 q5.2.1, .int .u32 q5.2.2]]) hp [0, 1] (by decide) (by simp) rfl
    exact rnd_r (by simp) ⟨rfl, _, hf.sub ⟨rfl, rfl, rfl, rfl, rfl, trivial⟩, hp⟩
  clear hl hf hp
  intro e a w hne hO
  obtain ⟨rfl, v30, hf, hp⟩ := hO
  refine ib_same ?_
  refine th_n ?_
  refine wp_seq ?_
  refine wp_seq ?_
  refine wp_reg ?_
  refine st_assign hf rfl rfl (by decide) ?_
  clear hf; intro a ha hf; clear ha
  refine st_nil hf ?_
  refine th_n ?_
  refine wp_block ?_
  obtain ⟨q92, hl, h⟩ := bnd h
  refine wp_loop_pure (f := (f_foghornlaw23_SoftReach.s2 lost3 q13)) (s := (q79, (0 : Int))) (fun s a w => ∃ (v80 : Value), Fr 188 a [(1, v9), (3, vlost3), (9, optr v7 0), (10, .int .i64 q13.1), (14, v80), (17, .int .i64 s.2)] ∧ Hp S w0 w (Res.sl (Ek.pair Ek.c128 Ek.bool) 35 v80 s.1 :: Res.obj 24 v7 [.int .i64 q5.1, .int .u32 q5.2.1, .int .u32 q5.2.2] :: ow)) (fun q e a w => e = .exit 2 ∧ ∃ (v82 : Value), Fr 188 a [(1, v9), (9, optr v7 0), (14, v82)] ∧ Hp S w0 w (Res.sl (Ek.pair Ek.c128 Ek.bool) 35 v82 q :: Res.obj 24 v7 [.int .i64 q5.1, .int .u32 q5.2.1, .int .u32 q5.2.2] :: ow)) ?_ hl ⟨_, hf.sub ⟨rfl, rfl, rfl, rfl, rfl, rfl, trivial⟩, hp⟩ ?_
  · clear hl hf hp
    intro s x a w h hI
    obtain ⟨xx14, i17⟩ := s
    obtain ⟨v80, hf, hp⟩ : ∃ (v80 : Value), Fr 188 a [(1, v9), (3, vlost3), (9, optr v7 0), (10, .int .i64 q13.1), (14, v80), (17, .int .i64 i17)] ∧ Hp S w0 w (Res.sl (Ek.pair Ek.c128 Ek.bool) 35 v80 xx14 :: Res.obj 24 v7 [.int .i64 q5.1, .int .u32 q5.2.1, .int .u32 q5.2.2] :: ow) := hI
    replace h : f_foghornlaw23_SoftReach.s2c lost3 q13 xx14 i17 = some x := h
    unfold f_foghornlaw23_SoftReach.s2c at h
    refine wp_seq ?_
    refine wp_seq ?_
    refine wp_reg ?_
    refine st_move hf rfl rfl (by decide) ?_
    clear hf; intro a ha hf; clear ha
    refine st_move hf rfl rfl (by decide) ?_
    clear hf; intro a ha hf; clear ha
    refine st_len (E := (Ek.int .i64)) hf (by decide) Try.underlying63 rfl rfl (hlost3.sl hp) ?_
    clear hf; intro a ha hf; clear ha
    refine st_ilss hf (by decide) rfl rfl rfl ?_
    clear hf; intro a ha hf; clear ha
    refine st_move hf rfl rfl (by decide) ?_
    clear hf; intro a ha hf; clear ha
    refine wpList_cut 4 (fun a w => Fr 188 a [(1, v9), (3, vlost3), (9, optr v7 0), (10, .int .i64 q13.1), (14, v80), (17, .int .i64 i17), (124, .bool ((decide (i17 < (lost3.length : Int))) && (decide ((0 : Int) < (xx14.length : Int)))))] ∧ Hp S w0 w (Res.sl (Ek.pair Ek.c128 Ek.bool) 35 v80 xx14 :: Res.obj 24 v7 [.int .i64 q5.1, .int .u32 q5.2.1, .int .u32 q5.2.2] :: ow)) ?_ ?_
    · rcases Bool.eq_false_or_eq_true (decide (i17 < (lost3.length : Int))) with hb85 | hb85
      · skip
        refine st_move hf (wantY hf rfl rfl hb85) rfl (by decide) ?_
        clear hf; intro a ha hf; clear ha
        refine st_len (E := (Ek.pair Ek.c128 Ek.bool)) hf (by decide) Try.underlying27 (wantY hf rfl rfl hb85) rfl (hp.sl (i := 0) rfl) ?_
        clear hf; intro a ha hf; clear ha
        refine st_igtr hf (by decide) (wantY hf rfl rfl hb85) rfl rfl ?_
        clear hf; intro a ha hf; clear ha
        refine st_pick (v := .bool (decide ((0 : Int) < (xx14.length : Int)))) hf rfl rfl (fun hb' => ?_) (fun hb' => ?_) (by decide) ?_
        · rfl
        · exact absurd (hb85.symm.trans hb') (by decide)
        clear hf; intro a ha hf; clear ha
        refine st_nil hf (th_n ?_)
        exact ⟨hf.sub ⟨rfl, rfl, rfl, rfl, rfl, rfl, (by rw [hb85]; rfl), trivial⟩, hp⟩
      refine st_skip hf (wantN hf rfl rfl hb85) rfl (by decide) ?_ rfl
      clear hf; intro a hf
      refine st_skip hf (wantN hf rfl rfl hb85) rfl (by decide) ?_ rfl
      clear hf; intro a hf
      refine st_skip hf (wantN hf rfl rfl hb85) rfl (by decide) ?_ rfl
      clear hf; intro a hf
      refine st_pick (v := .bool false) hf rfl rfl (fun hb' => ?_) (fun hb' => ?_) (by decide) ?_
      · exact absurd (hb85.symm.trans hb') (by decide)
      · rfl
      clear hf; intro a ha hf; clear ha
      refine st_nil hf (th_n ?_)
      exact ⟨hf.sub ⟨rfl, rfl, rfl, rfl, rfl, rfl, (by rw [hb85]; rfl), trivial⟩, hp⟩
    rintro a w ⟨hf, hp⟩
    refine st_move hf rfl rfl (by decide) ?_
    clear hf; intro a ha hf; clear ha
    refine wpList_cut 6 (fun a w => Fr 188 a [(1, v9), (3, vlost3), (9, optr v7 0), (10, .int .i64 q13.1), (14, v80), (17, .int .i64 i17), (131, .bool (((decide (i17 < (lost3.length : Int))) && (decide ((0 : Int) < (xx14.length : Int)))) && (decide ((IntKind.i64.wrap ((2 : Int) * (IntKind.i64.wrap (i17 + (1 : Int))))) < q13.1))))] ∧ Hp S w0 w (Res.sl (Ek.pair Ek.c128 Ek.bool) 35 v80 xx14 :: Res.obj 24 v7 [.int .i64 q5.1, .int .u32 q5.2.1, .int .u32 q5.2.2] :: ow)) ?_ ?_
    · rcases Bool.eq_false_or_eq_true ((decide (i17 < (lost3.length : Int))) && (decide ((0 : Int) < (xx14.length : Int)))) with hb87 | hb87
      · skip
        refine st_move hf (wantY hf rfl rfl hb87) rfl (by decide) ?_
        clear hf; intro a ha hf; clear ha
        refine st_iadd hf (by decide) (wantY hf rfl rfl hb87) rfl rfl ?_
        clear hf; intro a ha hf; clear ha
        refine st_imul hf (by decide) (wantY hf rfl rfl hb87) rfl rfl ?_
        clear hf; intro a ha hf; clear ha
        refine st_move hf (wantY hf rfl rfl hb87) rfl (by decide) ?_
        clear hf; intro a ha hf; clear ha
        refine st_ilss hf (by decide) (wantY hf rfl rfl hb87) rfl rfl ?_
        clear hf; intro a ha hf; clear ha
        refine st_pick (v := .bool (decide ((IntKind.i64.wrap ((2 : Int) * (IntKind.i64.wrap (i17 + (1 : Int))))) < q13.1))) hf rfl rfl (fun hb' => ?_) (fun hb' => ?_) (by decide) ?_
        · rfl
        · exact absurd (hb87.symm.trans hb') (by decide)
        clear hf; intro a ha hf; clear ha
        refine st_nil hf (th_n ?_)
        exact ⟨hf.sub ⟨rfl, rfl, rfl, rfl, rfl, rfl, (by rw [hb87]; rfl), trivial⟩, hp⟩
      refine st_skip hf (wantN hf rfl rfl hb87) rfl (by decide) ?_ rfl
      clear hf; intro a hf
      refine st_skip hf (wantN hf rfl rfl hb87) rfl (by decide) ?_ rfl
      clear hf; intro a hf
      refine st_skip hf (wantN hf rfl rfl hb87) rfl (by decide) ?_ rfl
      clear hf; intro a hf
      refine st_skip hf (wantN hf rfl rfl hb87) rfl (by decide) ?_ rfl
      clear hf; intro a hf
      refine st_skip hf (wantN hf rfl rfl hb87) rfl (by decide) ?_ rfl
      clear hf; intro a hf
      refine st_pick (v := .bool false) hf rfl rfl (fun hb' => ?_) (fun hb' => ?_) (by decide) ?_
      · exact absurd (hb87.symm.trans hb') (by decide)
      · rfl
      clear hf; intro a ha hf; clear ha
      refine st_nil hf (th_n ?_)
      exact ⟨hf.sub ⟨rfl, rfl, rfl, rfl, rfl, rfl, (by rw [hb87]; rfl), trivial⟩, hp⟩
    rintro a w ⟨hf, hp⟩
    refine st_nil hf ?_
    refine th_n ?_
    refine wp_if hf rfl (fun hb => ?_) (fun hb => ?_)
    · replace h := ifT h hb
      refine wp_skip ?_
      refine th_n ?_
      refine wp_seq ?_
      refine wp_block ?_
      refine wp_reg ?_
      refine st_move hf rfl rfl (by decide) ?_
      clear hf; intro a ha hf; clear ha
      refine st_move hf rfl rfl (by decide) ?_
      clear hf; intro a ha hf; clear ha
      refine st_move hf rfl rfl (by decide) ?_
      clear hf; intro a ha hf; clear ha
      obtain ⟨hc88, h⟩ := chk h
      refine st_index (E := (Ek.int .i64)) hf (by decide) Try.underlying63 elt3 rfl rfl rfl (hlost3.sl hp) hc88.1 hc88.2 ?_
      clear hf; intro a ha hf; clear ha
      refine st_ldI hf (by decide) pl3 rfl rfl (hlost3.sl hp) hc88.1 hc88.2 ?_
      clear hf; intro a ha hf; clear ha
      refine st_move hf rfl rfl (by decide) ?_
      clear hf; intro a ha hf; clear ha
      refine st_len (E := (Ek.pair Ek.c128 Ek.bool)) hf (by decide) Try.underlying27 rfl rfl (hp.sl (i := 0) rfl) ?_
      clear hf; intro a ha hf; clear ha
      obtain ⟨hc89, h⟩ := chk h
      refine st_irem hf (by decide) rfl rfl rfl hc89 ?_
      clear hf; intro a ha hf; clear ha
      refine st_move hf rfl rfl (by decide) ?_
      clear hf; intro a ha hf; clear ha
      refine st_len (E := (Ek.pair Ek.c128 Ek.bool)) hf (by decide) Try.underlying27 rfl rfl (hp.sl (i := 0) rfl) ?_
      clear hf; intro a ha hf; clear ha
      refine st_iadd hf (by decide) rfl rfl rfl ?_
      clear hf; intro a ha hf; clear ha
      refine st_move hf rfl rfl (by decide) ?_
      clear hf; intro a ha hf; clear ha
      refine st_len (E := (Ek.pair Ek.c128 Ek.bool)) hf (by decide) Try.underlying27 rfl rfl (hp.sl (i := 0) rfl) ?_
      clear hf; intro a ha hf; clear ha
      obtain ⟨hc90, h⟩ := chk h
      refine st_irem hf (by decide) rfl rfl rfl hc90 ?_
      clear hf; intro a ha hf; clear ha
      refine st_buildA (vals := [(1, .bool true)]) (cells := [.complex .f64 0 0, .bool true]) hf (by decide) rfl (by simp [hf.ev (x := (Operand.const (.bool true))) rfl]) (fun w => by kernel_rfl) ?_
      clear hf; intro a ha hf; clear ha
      obtain ⟨hc91, h⟩ := chk h
      refine st_index (E := (Ek.pair Ek.c128 Ek.bool)) hf (by decide) Try.underlying27 elt35 rfl rfl rfl (hp.sl (i := 0) rfl) hc91.1 hc91.2 ?_
      clear hf; intro a ha hf; clear ha
      refine st_store (E := (Ek.pair Ek.c128 Ek.bool)) (x' := ((Fl.bits 0, Fl.bits 0), true)) hf elt35 hp (i := 0) rfl rfl rfl rfl ⟨[.complex .f64 0 0], [.bool true], rfl, (show Ek.c128.rep [.complex .f64 0 0] (Fl.bits 0, Fl.bits 0) from ⟨_, _, rfl, rfl, rfl⟩), rfl⟩ hc91.1 hc91.2 ?_
      clear hf; intro a w hf hp0; clear hp; have hp := hp0; clear hp0
      replace hp : Hp _ _ _ (Res.sl (Ek.pair Ek.c128 Ek.bool) 35 v80 (xx14.set ((((IntKind.i64.wrap ((((gt lost3 i17)).tmod (xx14.length : Int)) + (xx14.length : Int)))).tmod (xx14.length : Int))).toNat ((Fl.bits 0, Fl.bits 0), true)) :: Res.obj 24 v7 [.int .i64 q5.1, .int .u32 q5.2.1, .int .u32 q5.2.2] :: ow) := hp
      refine st_nil hf ?_
      refine ib_n ?_
      refine th_n ?_
      refine wp_reg ?_
      refine st_move hf rfl rfl (by decide) ?_
      clear hf; intro a ha hf; clear ha
      refine st_iadd hf (by decide) rfl rfl rfl ?_
      clear hf; intro a ha hf; clear ha
      refine st_assign hf rfl rfl (by decide) ?_
      clear hf; intro a ha hf; clear ha
      refine st_nil hf ?_
      obtain rfl := Option.some.inj h
      exact rnd_l ⟨_, hf.sub ⟨rfl, rfl, rfl, rfl, rfl, rfl, trivial⟩, hp⟩
    replace h := ifF h hb
    refine wp_exit ?_
    refine th_e ?_
    obtain rfl := Option.some.inj h
    exact rnd_r (by simp) ⟨rfl, _, hf.sub ⟨rfl, rfl, rfl, trivial⟩, hp⟩
  clear hl hf hp
  intro e a w hne hO
  obtain ⟨rfl, v82, hf, hp⟩ := hO
  refine ib_same ?_
  refine th_n ?_
  refine wp_seq ?_
  refine wp_reg ?_
  refine st_ldOA (m := 3) (us := [.int .i64 q5.1, .int .u32 q5.2.1, .int .u32 q5.2.2]) hf (by decide) (by kernel_rfl) rfl rfl (hp.ob (i := 1) rfl) rfl rfl ?_
  clear hf; intro a ha hf; clear ha
  obtain ⟨q93, hcall94, h⟩ := bnd h
  refine st_call hf (by decide) Try.func14 rfl rfl rfl rfl rfl (f_foghornlaw23_code_c hp _ _ _ hcall94) ?_
  rintro _ w ⟨rfl, hp0⟩
  clear hp; have hp := hp0; clear hp0
  replace hp : Hp _ _ _ (Res.sl (Ek.pair Ek.c128 Ek.bool) 35 v82 q92 :: Res.obj 24 v7 [.int .i64 q5.1, .int .u32 q5.2.1, .int .u32 q5.2.2] :: ow) := hp
  refine ⟨_, rfl, ?_⟩
  clear hf; intro a hf
  refine st_move hf rfl rfl (by decide) ?_
  clear hf; intro a ha hf; clear ha
  obtain ⟨q95, hcall96, h⟩ := bnd h
  obtain ⟨S97, hp98, rd99, up100, bk101⟩ := Hp.lendS hp (i := 0) rfl
  refine st_call hf (by decide) Try.func21 rfl rfl rfl rfl rfl (f_soft_Decode_c hp98 _ _ _ _ _ rd99 hcall96) ?_
  rintro _ w ⟨v102, v103, rfl, y104, hp0⟩
  have hp0 := bk101 _ _ hp0
  clear hp; have hp := hp0; clear hp0
  replace hp : Hp _ _ _ (Res.sl (Ek.pair Ek.c128 Ek.bool) 35 v82 q92 :: Res.sl Ek.bool 4 v102 q95.1 :: Res.obj 24 v7 [.int .i64 q5.1, .int .u32 q5.2.1, .int .u32 q5.2.2] :: ow) := hp
  refine ⟨_, rfl, ?_⟩
  clear hf; intro a hf
  refine st_move hf rfl rfl (by decide) ?_
  clear hf; intro a ha hf; clear ha
  refine st_extract hf (by decide) rfl rfl rfl ?_
  clear hf; intro a ha hf; clear ha
  refine st_extract hf (by decide) rfl rfl rfl ?_
  clear hf; intro a ha hf; clear ha
  refine st_extract hf (by decide) rfl rfl rfl ?_
  clear hf; intro a ha hf; clear ha
  refine st_assign hf rfl rfl (by decide) ?_
  clear hf; intro a ha hf; clear ha
  refine st_assign hf rfl rfl (by decide) ?_
  clear hf; intro a ha hf; clear ha
  refine st_assign hf rfl rfl (by decide) ?_
  clear hf; intro a ha hf; clear ha
  refine st_nil hf ?_
  refine th_n ?_
  refine wp_seq ?_
  refine wp_seq ?_
  refine wp_reg ?_
  refine st_move hf rfl rfl (by decide) ?_
  clear hf; intro a ha hf; clear ha
  refine st_ineq hf (by decide) rfl rfl rfl ?_
  clear hf; intro a ha hf; clear ha
  refine st_move hf rfl rfl (by decide) ?_
  clear hf; intro a ha hf; clear ha
  obtain ⟨z108, hz106, h⟩ := bnd h
  refine wpList_cut 5 (fun a w => Fr 188 a [(1, v9), (9, optr v7 0), (14, v82), (165, .bool z108)] ∧ Hp S w0 w (Res.sl (Ek.pair Ek.c128 Ek.bool) 35 v82 q92 :: Res.sl Ek.bool 4 v102 q95.1 :: Res.obj 24 v7 [.int .i64 q5.1, .int .u32 q5.2.1, .int .u32 q5.2.2] :: ow)) ?_ ?_
  · rcases Bool.eq_false_or_eq_true (q95.2.2 != (0 : Int)) with hb107 | hb107
    · skip
      replace hz106 := ifT hz106 hb107
      refine st_skip hf (wantN hf rfl rfl hb107) rfl (by decide) ?_ rfl
      clear hf; intro a hf
      refine st_skip hf (wantN hf rfl rfl hb107) rfl (by decide) ?_ rfl
      clear hf; intro a hf
      refine st_skip hf (wantN hf rfl rfl hb107) rfl (by decide) ?_ rfl
      clear hf; intro a hf
      refine st_skip hf (wantN hf rfl rfl hb107) rfl (by decide) ?_ rfl
      clear hf; intro a hf
      obtain rfl := Option.some.inj hz106
      refine st_pick (v := .bool true) hf rfl rfl (fun hb' => ?_) (fun hb' => ?_) (by decide) ?_
      · rfl
      · exact absurd (hb107.symm.trans hb') (by decide)
      clear hf; intro a ha hf; clear ha
      refine st_nil hf (th_n ?_)
      exact ⟨hf.sub ⟨rfl, rfl, rfl, rfl, trivial⟩, hp⟩
    replace hz106 := ifF hz106 hb107
    refine st_move hf (wantY hf rfl rfl hb107) rfl (by decide) ?_
    clear hf; intro a ha hf; clear ha
    refine st_move hf (wantY hf rfl rfl hb107) rfl (by decide) ?_
    clear hf; intro a ha hf; clear ha
    obtain ⟨q109, hcall110, hz106⟩ := bnd hz106
    obtain ⟨S111, hp112, rd113, up114, bk115⟩ := Hp.lendS hp (i := 1) rfl
    refine st_call hf (by decide) Try.func19 rfl rfl (wantY hf rfl rfl hb107) rfl rfl (f_foghornref21_Same_c hp112 _ _ rd113 _ _ ((y10.now hp).mono up114) hcall110) ?_
    rintro _ w ⟨rfl, hp0⟩
    have hp0 := bk115 _ _ hp0
    clear hp; have hp := hp0; clear hp0
    replace hp : Hp _ _ _ (Res.sl Ek.bool 4 v102 q95.1 :: Res.sl (Ek.pair Ek.c128 Ek.bool) 35 v82 q92 :: Res.obj 24 v7 [.int .i64 q5.1, .int .u32 q5.2.1, .int .u32 q5.2.2] :: ow) := hp
    refine ⟨_, rfl, ?_⟩
    clear hf; intro a hf
    refine st_not hf (by decide) (wantY hf rfl rfl hb107) rfl ?_
    clear hf; intro a ha hf; clear ha
    obtain rfl := Option.some.inj hz106
    refine st_pick (v := .bool (!q109)) hf rfl rfl (fun hb' => ?_) (fun hb' => ?_) (by decide) ?_
    · exact absurd (hb107.symm.trans hb') (by decide)
    · rfl
    clear hf; intro a ha hf; clear ha
    refine st_nil hf (th_n ?_)
    have hp : Hp _ _ _ (Res.sl (Ek.pair Ek.c128 Ek.bool) 35 v82 q92 :: Res.sl Ek.bool 4 v102 q95.1 :: Res.obj 24 v7 [.int .i64 q5.1, .int .u32 q5.2.1, .int .u32 q5.2.2] :: ow) := Hp.sel (pre := [Res.sl Ek.bool 4 v102 q95.1, Res.sl (Ek.pair Ek.c128 Ek.bool) 35 v82 q92, Res.obj 24 v7 [.int .i64 q5.1, .int .u32 q5.2.1, .int .u32 q5.2.2]]) (tail := ow) (rs' := [Res.sl (Ek.pair Ek.c128 Ek.bool) 35 v82 q92, Res.sl Ek.bool 4 v102 q95.1, Res.obj 24 v7 [.int .i64 q5.1, .int .u32 q5.2.1, .int .u32 q5.2.2]]) hp [1, 0, 2] (by decide) (by simp) rfl
    exact ⟨hf.sub ⟨rfl, rfl, rfl, rfl, trivial⟩, hp⟩
  rintro a w ⟨hf, hp⟩
  refine st_nil hf ?_
  refine th_n ?_
  refine wp_if hf rfl (fun hb => ?_) (fun hb => ?_)
  · replace h := ifT h hb
    refine wp_seq ?_
    refine wp_reg ?_
    refine st_assign hf rfl rfl (by decide) ?_
    clear hf; intro a ha hf; clear ha
    refine st_nil hf ?_
    refine th_n ?_
    refine wp_ret ?_
    refine th_r ?_
    obtain rfl := Option.some.inj h
    have hp : Hp _ _ _ (ow) := Hp.sel (pre := [Res.sl (Ek.pair Ek.c128 Ek.bool) 35 v82 q92, Res.sl Ek.bool 4 v102 q95.1, Res.obj 24 v7 [.int .i64 q5.1, .int .u32 q5.2.1, .int .u32 q5.2.2]]) (tail := ow) (rs' := []) hp [] (by decide) (by simp) rfl
    exact ⟨rfl, ⟨hf.sub ⟨rfl, trivial⟩, hp⟩⟩
  replace h := ifF h hb
  refine wp_skip ?_
  refine th_n ?_
  refine wp_seq ?_
  refine wp_reg ?_
  refine st_ldOA (m := 3) (us := [.int .i64 q5.1, .int .u32 q5.2.1, .int .u32 q5.2.2]) hf (by decide) (by kernel_rfl) rfl rfl (hp.ob (i := 2) rfl) rfl rfl ?_
  clear hf; intro a ha hf; clear ha
  obtain ⟨q116, hcall117, h⟩ := bnd h
  refine st_call hf (by decide) Try.func14 rfl rfl rfl rfl rfl (f_foghornlaw23_code_c hp _ _ _ hcall117) ?_
  rintro _ w ⟨rfl, hp0⟩
  clear hp; have hp := hp0; clear hp0
  replace hp : Hp _ _ _ (Res.sl (Ek.pair Ek.c128 Ek.bool) 35 v82 q92 :: Res.sl Ek.bool 4 v102 q95.1 :: Res.obj 24 v7 [.int .i64 q5.1, .int .u32 q5.2.1, .int .u32 q5.2.2] :: ow) := hp
  refine ⟨_, rfl, ?_⟩
  clear hf; intro a hf
  refine st_move hf rfl rfl (by decide) ?_
  clear hf; intro a ha hf; clear ha
  obtain ⟨q118, hcall119, h⟩ := bnd h
  obtain ⟨S120, hp121, rd122, up123, bk124⟩ := Hp.lendS hp (i := 0) rfl
  refine st_call hf (by decide) Try.func24 rfl rfl rfl rfl rfl (f_soft_Margin_c hp121 _ _ _ _ _ rd122 hcall119) ?_
  rintro _ w ⟨v125, rfl, y126, hp0⟩
  have hp0 := bk124 _ _ hp0
  clear hp; have hp := hp0; clear hp0
  replace hp : Hp _ _ _ (Res.sl (Ek.pair Ek.c128 Ek.bool) 35 v82 q92 :: Res.sl Ek.bool 4 v102 q95.1 :: Res.obj 24 v7 [.int .i64 q5.1, .int .u32 q5.2.1, .int .u32 q5.2.2] :: ow) := hp
  refine ⟨_, rfl, ?_⟩
  clear hf; intro a hf
  refine st_move hf rfl rfl (by decide) ?_
  clear hf; intro a ha hf; clear ha
  refine st_extract hf (by decide) rfl rfl rfl ?_
  clear hf; intro a ha hf; clear ha
  refine st_extract hf (by decide) rfl rfl rfl ?_
  clear hf; intro a ha hf; clear ha
  refine st_assign hf rfl rfl (by decide) ?_
  clear hf; intro a ha hf; clear ha
  refine st_assign hf rfl rfl (by decide) ?_
  clear hf; intro a ha hf; clear ha
  refine st_nil hf ?_
  refine th_n ?_
  refine wp_seq ?_
  refine wp_reg ?_
  refine st_move hf rfl rfl (by decide) ?_
  clear hf; intro a ha hf; clear ha
  refine st_len (E := Ek.bool) hf (by decide) Try.underlying25 rfl rfl (y10.sl hp) ?_
  clear hf; intro a ha hf; clear ha
  refine st_ieql hf (by decide) rfl rfl rfl ?_
  clear hf; intro a ha hf; clear ha
  refine st_move hf rfl rfl (by decide) ?_
  clear hf; intro a ha hf; clear ha
  refine wpList_cut 3 (fun a w => Fr 188 a [(21, .float .f64 v125), (22, .int .i64 q118.2), (179, .bool (((bits1.length : Int) == (0 : Int)) && (q118.2 == (6 : Int))))] ∧ Hp S w0 w (Res.sl (Ek.pair Ek.c128 Ek.bool) 35 v82 q92 :: Res.sl Ek.bool 4 v102 q95.1 :: Res.obj 24 v7 [.int .i64 q5.1, .int .u32 q5.2.1, .int .u32 q5.2.2] :: ow)) ?_ ?_
  · rcases Bool.eq_false_or_eq_true ((bits1.length : Int) == (0 : Int)) with hb128 | hb128
    · skip
      refine st_move hf (wantY hf rfl rfl hb128) rfl (by decide) ?_
      clear hf; intro a ha hf; clear ha
      refine st_ieql hf (by decide) (wantY hf rfl rfl hb128) rfl rfl ?_
      clear hf; intro a ha hf; clear ha
      refine st_pick (v := .bool (q118.2 == (6 : Int))) hf rfl rfl (fun hb' => ?_) (fun hb' => ?_) (by decide) ?_
      · rfl
      · exact absurd (hb128.symm.trans hb') (by decide)
      clear hf; intro a ha hf; clear ha
      refine st_nil hf (th_n ?_)
      exact ⟨hf.sub ⟨rfl, rfl, (by rw [hb128]; rfl), trivial⟩, hp⟩
    refine st_skip hf (wantN hf rfl rfl hb128) rfl (by decide) ?_ rfl
    clear hf; intro a hf
    refine st_skip hf (wantN hf rfl rfl hb128) rfl (by decide) ?_ rfl
    clear hf; intro a hf
    refine st_pick (v := .bool false) hf rfl rfl (fun hb' => ?_) (fun hb' => ?_) (by decide) ?_
    · exact absurd (hb128.symm.trans hb') (by decide)
    · rfl
    clear hf; intro a ha hf; clear ha
    refine st_nil hf (th_n ?_)
    exact ⟨hf.sub ⟨rfl, rfl, (by rw [hb128]; rfl), trivial⟩, hp⟩
  rintro a w ⟨hf, hp⟩
  refine st_move hf rfl rfl (by decide) ?_
  clear hf; intro a ha hf; clear ha
  refine wpList_cut 7 (fun a w => Fr 188 a [(187, .bool ((((bits1.length : Int) == (0 : Int)) && (q118.2 == (6 : Int))) || ((q118.2 == (0 : Int)) && (fgt q118.1 (Fl.bits 0)))))] ∧ Hp S w0 w (Res.sl (Ek.pair Ek.c128 Ek.bool) 35 v82 q92 :: Res.sl Ek.bool 4 v102 q95.1 :: Res.obj 24 v7 [.int .i64 q5.1, .int .u32 q5.2.1, .int .u32 q5.2.2] :: ow)) ?_ ?_
  · rcases Bool.eq_false_or_eq_true (((bits1.length : Int) == (0 : Int)) && (q118.2 == (6 : Int))) with hb130 | hb130
    · skip
      refine st_skip hf (wantN hf rfl rfl hb130) rfl (by decide) ?_ rfl
      clear hf; intro a hf
      refine st_skip hf (wantN hf rfl rfl hb130) rfl (by decide) ?_ rfl
      clear hf; intro a hf
      refine st_skipU hf (wantN hf rfl rfl hb130) rfl (by decide) ?_
      clear hf; intro a hf
      refine st_skip hf (wantU hf rfl rfl) rfl (by decide) ?_ rfl
      clear hf; intro a hf
      refine st_skip hf (wantU hf rfl rfl) rfl (by decide) ?_ rfl
      clear hf; intro a hf
      refine st_skip hf (wantN hf rfl rfl hb130) rfl (by decide) ?_ rfl
      clear hf; intro a hf
      refine st_pick (v := .bool true) hf rfl rfl (fun hb' => ?_) (fun hb' => ?_) (by decide) ?_
      · rfl
      · exact absurd (hb130.symm.trans hb') (by decide)
      clear hf; intro a ha hf; clear ha
      refine st_nil hf (th_n ?_)
      exact ⟨hf.sub ⟨(by rw [hb130]; rfl), trivial⟩, hp⟩
    refine st_move hf (wantY hf rfl rfl hb130) rfl (by decide) ?_
    clear hf; intro a ha hf; clear ha
    refine st_ieql hf (by decide) (wantY hf rfl rfl hb130) rfl rfl ?_
    clear hf; intro a ha hf; clear ha
    refine st_move hf (wantY hf rfl rfl hb130) rfl (by decide) ?_
    clear hf; intro a ha hf; clear ha
    refine wpList_cut 3 (fun a w => Fr 188 a [(180, .bool (((bits1.length : Int) == (0 : Int)) && (q118.2 == (6 : Int)))), (186, .bool ((q118.2 == (0 : Int)) && (fgt q118.1 (Fl.bits 0))))] ∧ Hp S w0 w (Res.sl (Ek.pair Ek.c128 Ek.bool) 35 v82 q92 :: Res.sl Ek.bool 4 v102 q95.1 :: Res.obj 24 v7 [.int .i64 q5.1, .int .u32 q5.2.1, .int .u32 q5.2.2] :: ow)) ?_ ?_
    · rcases Bool.eq_false_or_eq_true (q118.2 == (0 : Int)) with hb132 | hb132
      · skip
        refine st_move hf (wantY hf rfl rfl hb132) rfl (by decide) ?_
        clear hf; intro a ha hf; clear ha
        refine st_fcmp (r_fgt (fx := q118.1) (fy := (Fl.bits 0)) y126 rfl) hf (by decide) (wantY hf rfl rfl hb132) rfl rfl ?_
        clear hf; intro a ha hf; clear ha
        refine st_pick (v := .bool (fgt q118.1 (Fl.bits 0))) hf (wantY hf rfl rfl hb130) rfl (fun hb' => ?_) (fun hb' => ?_) (by decide) ?_
        · rfl
        · exact absurd (hb132.symm.trans hb') (by decide)
        clear hf; intro a ha hf; clear ha
        refine st_nil hf (th_n ?_)
        exact ⟨hf.sub ⟨rfl, (by rw [hb132]; rfl), trivial⟩, hp⟩
      refine st_skip hf (wantN hf rfl rfl hb132) rfl (by decide) ?_ rfl
      clear hf; intro a hf
      refine st_skip hf (wantN hf rfl rfl hb132) rfl (by decide) ?_ rfl
      clear hf; intro a hf
      refine st_pick (v := .bool false) hf (wantY hf rfl rfl hb130) rfl (fun hb' => ?_) (fun hb' => ?_) (by decide) ?_
      · exact absurd (hb132.symm.trans hb') (by decide)
      · rfl
      clear hf; intro a ha hf; clear ha
      refine st_nil hf (th_n ?_)
      exact ⟨hf.sub ⟨rfl, (by rw [hb132]; rfl), trivial⟩, hp⟩
    rintro a w ⟨hf, hp⟩
    refine st_pick (v := .bool ((q118.2 == (0 : Int)) && (fgt q118.1 (Fl.bits 0)))) hf rfl rfl (fun hb' => ?_) (fun hb' => ?_) (by decide) ?_
    · exact absurd (hb130.symm.trans hb') (by decide)
    · rfl
    clear hf; intro a ha hf; clear ha
    refine st_nil hf (th_n ?_)
    exact ⟨hf.sub ⟨(by rw [hb130]; rfl), trivial⟩, hp⟩
  rintro a w ⟨hf, hp⟩
  refine st_assign hf rfl rfl (by decide) ?_
  clear hf; intro a ha hf; clear ha
  refine st_nil hf ?_
  refine th_n ?_
  refine wp_ret ?_
  obtain rfl := Option.some.inj h
  have hp : Hp _ _ _ (ow) := Hp.sel (pre := [Res.sl (Ek.pair Ek.c128 Ek.bool) 35 v82 q92, Res.sl Ek.bool 4 v102 q95.1, Res.obj 24 v7 [.int .i64 q5.1, .int .u32 q5.2.1, .int .u32 q5.2.2]]) (tail := ow) (rs' := []) hp [] (by decide) (by simp) rfl
  exact ⟨rfl, ⟨hf.sub ⟨rfl, trivial⟩, hp⟩⟩

end Go.Proofs.Ytcooefnbolobaaa
