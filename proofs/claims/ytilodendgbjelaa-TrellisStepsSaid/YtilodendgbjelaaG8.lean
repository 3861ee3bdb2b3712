/- The functions foghorn foghornlaw21.TrellisSteps: what each answers, as a plain function, and that its call answers it; printed by gen.py. -/
import Derived.Test.YtilodendgbjelaaProg
import Derived.Test.YtilodendgbjelaaGlX
import Derived.KernelRfl
import Derived.Test.YtilodendgbjelaaG8p1
set_option linter.unusedVariables false
set_option linter.unusedSimpArgs false
set_option maxRecDepth 100000
set_option maxHeartbeats 4000000
namespace Go.Proofs.Ytilodendgbjelaa
open GL
noncomputable def f_trellis_Code_Free.s1c (least7 : (List Int)) (t26 : Int) : Option (((List Int) × Int) ⊕ (List Int)) := (if (decide (t26 < (64 : Int))) = true then (if 0 ≤ t26 ∧ t26 < (64 : Int) then (some (Sum.inl ((least7.set (t26).toNat (1048576 : Int)), (IntKind.i64.wrap (t26 + (1 : Int)))))) else none) else (some (Sum.inr least7)))
noncomputable def f_trellis_Code_Free.s1  (s : ((List Int) × Int)) : Option (((List Int) × Int) ⊕ (List Int)) := f_trellis_Code_Free.s1c s.1 s.2
noncomputable def f_trellis_Code_Free.s4c (c0_Length : Int) (c0_One : Int) (c0_Two : Int) (s12 : Int) (least7 : (List Int)) (t55 : Int) : Option (((List Int) × Int) ⊕ (List Int)) := (if (decide (t55 < (([false, true]).length : Int))) = true then (if 0 ≤ t55 ∧ t55 < (([false, true]).length : Int) then ((f_trellis_Code_step c0_Length c0_One c0_Two s12 (gt ([false, true]) t55)).bind fun q34 => (if 0 ≤ q34.1 ∧ q34.1 < (64 : Int) then (if 0 ≤ s12 ∧ s12 < (64 : Int) then ((f_trellis_Code_Free_1 ([q34.2.1, q34.2.2])).bind fun q48 => (if 0 ≤ q34.1 ∧ q34.1 < (64 : Int) then (some (Sum.inl ((least7.set (q34.1).toNat (imin (gt least7 q34.1) (IntKind.i64.wrap ((gt least7 s12) + q48)))), (IntKind.i64.wrap (t55 + (1 : Int)))))) else none)) else none) else none)) else none) else (some (Sum.inr least7)))
noncomputable def f_trellis_Code_Free.s4 (c0_Length : Int) (c0_One : Int) (c0_Two : Int) (s12 : Int) (s : ((List Int) × Int)) : Option (((List Int) × Int) ⊕ (List Int)) := f_trellis_Code_Free.s4c c0_Length c0_One c0_Two s12 s.1 s.2
noncomputable def f_trellis_Code_Free.s3c (c0_Length : Int) (c0_One : Int) (c0_Two : Int) (q3 : (Int × Int)) (least7 : (List Int)) (s12 : Int) : Option (((List Int) × Int) ⊕ (List Int)) := (if (decide (s12 < q3.1)) = true then ((loop (f_trellis_Code_Free.s4 c0_Length c0_One c0_Two s12) (least7, (0 : Int))).bind (fun q57 => (some (Sum.inl (q57, (IntKind.i64.wrap (s12 + (1 : Int)))))))) else (some (Sum.inr least7)))
noncomputable def f_trellis_Code_Free.s3 (c0_Length : Int) (c0_One : Int) (c0_Two : Int) (q3 : (Int × Int)) (s : ((List Int) × Int)) : Option (((List Int) × Int) ⊕ (List Int)) := f_trellis_Code_Free.s3c c0_Length c0_One c0_Two q3 s.1 s.2
noncomputable def f_trellis_Code_Free.s2c (c0_Length : Int) (c0_One : Int) (c0_Two : Int) (q3 : (Int × Int)) (least7 : (List Int)) (t46 : Int) : Option (((List Int) × Int) ⊕ (List Int)) := (if (decide (t46 < q3.1)) = true then ((loop (f_trellis_Code_Free.s3 c0_Length c0_One c0_Two q3) (least7, (1 : Int))).bind (fun q58 => (some (Sum.inl (q58, (IntKind.i64.wrap (t46 + (1 : Int)))))))) else (some (Sum.inr least7)))
noncomputable def f_trellis_Code_Free.s2 (c0_Length : Int) (c0_One : Int) (c0_Two : Int) (q3 : (Int × Int)) (s : ((List Int) × Int)) : Option (((List Int) × Int) ⊕ (List Int)) := f_trellis_Code_Free.s2c c0_Length c0_One c0_Two q3 s.1 s.2
noncomputable def f_trellis_Code_Free (c0_Length : Int) (c0_One : Int) (c0_Two : Int) : Option (Int × Int) := ((f_trellis_Code_States c0_Length c0_One c0_Two).bind fun q3 => (if (q3.2 != (0 : Int)) = true then (some ((0 : Int), q3.2)) else ((loop f_trellis_Code_Free.s1 ((List.replicate 64 (0 : Int)), (0 : Int))).bind (fun q11 => ((f_trellis_Code_step c0_Length c0_One c0_Two (0 : Int) true).bind fun q12 => ((f_trellis_Code_Free_1 ([q12.2.1, q12.2.2])).bind fun q16 => (if 0 ≤ q12.1 ∧ q12.1 < (64 : Int) then ((loop (f_trellis_Code_Free.s2 c0_Length c0_One c0_Two q3) ((q11.set (q12.1).toNat q16), (0 : Int))).bind (fun q59 => (some ((gt q59 (0 : Int)), (0 : Int))))) else none)))))))
theorem f_trellis_Code_Free_c {S : Nat → Prop} {w0 w : World} {ow : List Res} (hp : Hp S w0 w ow) (c0_Length : Int) (c0_One : Int) (c0_Two : Int) {r : (Int × Int)} (h : f_trellis_Code_Free c0_Length c0_One c0_Two = some r) :
    Calls Try.prog 19 #[.agg #[.int .i64 c0_Length, .int .u32 c0_One, .int .u32 c0_Two]] w (fun e w' => e = .returned (.tuple #[.int .i64 r.1, .int .i64 r.2]) ∧ Hp S w0 w' (ow)) := by
  unfold f_trellis_Code_Free at h
  refine enter (n := 86) (args := [.agg #[.int .i64 c0_Length, .int .u32 c0_One, .int .u32 c0_Two]]) Try.func19 rfl rfl (Nat.le_of_ble_eq_true rfl) fun a hf => ?_
  replace hf : Fr 86 a [(0, .agg #[.int .i64 c0_Length, .int .u32 c0_One, .int .u32 c0_Two])] := hf
  refine wp_mono (Q := fun e a w => e = .ret ∧ Fr 86 a [(2, .int .i64 r.1), (3, .int .i64 r.2)] ∧ Hp S w0 w (ow)) ?_ ?_
  rotate_left
  · rintro e a w ⟨rfl, hf, hp⟩
    exact ret2 hf rfl rfl rfl ⟨rfl, hp⟩
  refine wp_seq ?_
  refine wp_reg ?_
  refine st_boxO (cs := [.int .i64 c0_Length, .int .u32 c0_One, .int .u32 c0_Two]) hf (by decide) hp rfl rfl rfl ?_
  clear hf; intro a w v1 hf hp0; clear hp; have hp := hp0; clear hp0
  replace hp : Hp _ _ _ (Res.obj 34 v1 [.int .i64 c0_Length, .int .u32 c0_One, .int .u32 c0_Two] :: ow) := hp
  refine st_assign hf rfl rfl (by decide) ?_
  clear hf; intro a ha hf; clear ha
  refine st_assign hf rfl rfl (by decide) ?_
  clear hf; intro a ha hf; clear ha
  refine st_nil hf ?_
  refine th_n ?_
  refine wp_seq ?_
  refine wp_reg ?_
  refine st_ldOA (m := 3) (us := [.int .i64 c0_Length, .int .u32 c0_One, .int .u32 c0_Two]) hf (by decide) (by kernel_rfl) rfl rfl (hp.ob (i := 0) rfl) rfl rfl ?_
  clear hf; intro a ha hf; clear ha
  obtain ⟨q3, hcall4, h⟩ := bnd h
  refine st_call hf (by decide) Try.func15 rfl rfl rfl rfl rfl (f_trellis_Code_States_c hp _ _ _ hcall4) ?_
  rintro _ w ⟨rfl, hp0⟩
  clear hp; have hp := hp0; clear hp0
  replace hp : Hp _ _ _ (Res.obj 34 v1 [.int .i64 c0_Length, .int .u32 c0_One, .int .u32 c0_Two] :: ow) := hp
  refine ⟨_, rfl, ?_⟩
  clear hf; intro a hf
  refine st_move hf rfl rfl (by decide) ?_
  clear hf; intro a ha hf; clear ha
  refine st_extract hf (by decide) rfl rfl rfl ?_
  clear hf; intro a ha hf; clear ha
  refine st_extract hf (by decide) rfl rfl rfl ?_
  clear hf; intro a ha hf; clear ha
  refine st_assign hf rfl rfl (by decide) ?_
  clear hf; intro a ha hf; clear ha
  refine st_assign hf rfl rfl (by decide) ?_
  clear hf; intro a ha hf; clear ha
  refine st_nil hf ?_
  refine th_n ?_
  refine wp_seq ?_
  refine wp_seq ?_
  refine wp_reg ?_
  refine st_move hf rfl rfl (by decide) ?_
  clear hf; intro a ha hf; clear ha
  refine st_ineq hf (by decide) rfl rfl rfl ?_
  clear hf; intro a ha hf; clear ha
  refine st_nil hf ?_
  refine th_n ?_
  refine wp_if hf rfl (fun hb => ?_) (fun hb => ?_)
  · replace h := ifT h hb
    refine wp_seq ?_
    refine wp_reg ?_
    refine st_move hf rfl rfl (by decide) ?_
    clear hf; intro a ha hf; clear ha
    refine st_assign hf rfl rfl (by decide) ?_
    clear hf; intro a ha hf; clear ha
    refine st_assign hf rfl rfl (by decide) ?_
    clear hf; intro a ha hf; clear ha
    refine st_nil hf ?_
    refine th_n ?_
    refine wp_ret ?_
    refine th_r ?_
    obtain rfl := Option.some.inj h
    have hp : Hp _ _ _ (ow) := Hp.sel (pre := [Res.obj 34 v1 [.int .i64 c0_Length, .int .u32 c0_One, .int .u32 c0_Two]]) (tail := ow) (rs' := []) hp [] (by decide) (by simp) rfl
    exact ⟨rfl, ⟨hf.sub ⟨rfl, rfl, trivial⟩, hp⟩⟩
  replace h := ifF h hb
  refine wp_skip ?_
  refine th_n ?_
  refine wp_seq ?_
  refine wp_reg ?_
  refine st_assign hf rfl rfl (by decide) ?_
  clear hf; intro a ha hf; clear ha
  refine st_nil hf ?_
  refine th_n ?_
  refine wp_seq ?_
  refine wp_reg ?_
  refine st_allocA (E := (Ek.int .i64)) (N := 64) (zs := List.replicate 64 (0 : Int)) (zv := .agg ((List.replicate 64 ([.int .i64 0] : List Value)).flatten).toArray) hf (by decide) (by decide) (by decide) (by kernel_rfl) (reps_replicate (E := (Ek.int .i64)) (vs := ([.int .i64 0] : List Value)) (x := (0 : Int)) rfl 64) (by simp) hp rfl ?_
  clear hf; intro a w v5 hf hp0; clear hp; have hp := hp0; clear hp0
  replace hp : Hp _ _ _ (Res.sl (Ek.int .i64) 72 (aslv v5 64) (List.replicate 64 (0 : Int)) :: Res.obj 34 v1 [.int .i64 c0_Length, .int .u32 c0_One, .int .u32 c0_Two] :: ow) := hp
  refine st_nil hf ?_
  refine th_n ?_
  refine wp_seq ?_
  refine wp_seq ?_
  refine wp_reg ?_
  refine st_move hf rfl rfl (by decide) ?_
  clear hf; intro a ha hf; clear ha
  refine st_nil hf ?_
  refine th_n ?_
  refine wp_block ?_
  obtain ⟨q11, hl, h⟩ := bnd h
  refine wp_loop_pure (f := f_trellis_Code_Free.s1) (s := ((List.replicate 64 (0 : Int)), (0 : Int))) (fun s a w => Fr 86 a [(1, optr v1 0), (4, .int .i64 q3.1), (6, .func (.func 41) #[] #[]), (7, v5), (26, .int .i64 s.2)] ∧ Hp S w0 w (Res.sl (Ek.int .i64) 72 (aslv v5 64) s.1 :: Res.obj 34 v1 [.int .i64 c0_Length, .int .u32 c0_One, .int .u32 c0_Two] :: ow)) (fun q e a w => e = .exit 0 ∧ Fr 86 a [(1, optr v1 0), (4, .int .i64 q3.1), (6, .func (.func 41) #[] #[]), (7, v5)] ∧ Hp S w0 w (Res.sl (Ek.int .i64) 72 (aslv v5 64) q :: Res.obj 34 v1 [.int .i64 c0_Length, .int .u32 c0_One, .int .u32 c0_Two] :: ow)) ?_ hl ⟨hf.sub ⟨rfl, rfl, rfl, rfl, rfl, trivial⟩, hp⟩ ?_
  · clear hl hf hp
    intro s x a w h hI
    obtain ⟨least7, t26⟩ := s
    obtain ⟨hf, hp⟩ : Fr 86 a [(1, optr v1 0), (4, .int .i64 q3.1), (6, .func (.func 41) #[] #[]), (7, v5), (26, .int .i64 t26)] ∧ Hp S w0 w (Res.sl (Ek.int .i64) 72 (aslv v5 64) least7 :: Res.obj 34 v1 [.int .i64 c0_Length, .int .u32 c0_One, .int .u32 c0_Two] :: ow) := hI
    replace h : f_trellis_Code_Free.s1c least7 t26 = some x := h
    unfold f_trellis_Code_Free.s1c at h
    refine wp_seq ?_
    refine wp_reg ?_
    refine st_ilss hf (by decide) rfl rfl rfl ?_
    clear hf; intro a ha hf; clear ha
    refine st_nil hf ?_
    refine th_n ?_
    refine wp_seq ?_
    refine wp_if hf rfl (fun hb => ?_) (fun hb => ?_)
    · replace h := ifT h hb
      refine wp_skip ?_
      refine th_n ?_
      refine wp_seq ?_
      refine wp_block ?_
      refine wp_seq ?_
      refine wp_reg ?_
      refine st_move hf rfl rfl (by decide) ?_
      clear hf; intro a ha hf; clear ha
      refine st_assign hf rfl rfl (by decide) ?_
      clear hf; intro a ha hf; clear ha
      refine st_nil hf ?_
      refine th_n ?_
      refine wp_reg ?_
      refine st_move hf rfl rfl (by decide) ?_
      clear hf; intro a ha hf; clear ha
      obtain ⟨hc9, h⟩ := chk h
      refine st_iaA (E := (Ek.int .i64)) (N := 64) hf (by decide) Try.underlying72 (by kernel_rfl) rfl rfl rfl (hp.sl (i := 0) rfl) rfl hc9.1 hc9.2 ?_
      clear hf; intro a ha hf; clear ha
      refine st_store (E := (Ek.int .i64)) hf elt3 hp (i := 0) rfl rfl rfl rfl rfl (aslv_ix (hp.sl (i := 0) rfl) hc9).1 (aslv_ix (hp.sl (i := 0) rfl) hc9).2 ?_
      clear hf; intro a w hf hp0; clear hp; have hp := hp0; clear hp0
      replace hp : Hp _ _ _ (Res.sl (Ek.int .i64) 72 (aslv v5 64) (least7.set (t26).toNat (1048576 : Int)) :: Res.obj 34 v1 [.int .i64 c0_Length, .int .u32 c0_One, .int .u32 c0_Two] :: ow) := hp
      refine st_nil hf ?_
      refine ib_n ?_
      refine th_n ?_
      refine wp_reg ?_
      refine st_iadd hf (by decide) rfl rfl rfl ?_
      clear hf; intro a ha hf; clear ha
      refine st_move hf rfl rfl (by decide) ?_
      clear hf; intro a ha hf; clear ha
      refine st_nil hf ?_
      obtain rfl := Option.some.inj h
      exact rnd_l ⟨hf.sub ⟨rfl, rfl, rfl, rfl, rfl, trivial⟩, hp⟩
    replace h := ifF h hb
    refine wp_exit ?_
    refine th_e ?_
    obtain rfl := Option.some.inj h
    exact rnd_r (by simp) ⟨rfl, hf.sub ⟨rfl, rfl, rfl, rfl, trivial⟩, hp⟩
  clear hl hf hp
  intro e a w hne hO
  obtain ⟨rfl, hf, hp⟩ := hO
  refine ib_same ?_
  refine th_n ?_
  refine wp_seq ?_
  refine wp_reg ?_
  refine st_ldOA (m := 3) (us := [.int .i64 c0_Length, .int .u32 c0_One, .int .u32 c0_Two]) hf (by decide) (by kernel_rfl) rfl rfl (hp.ob (i := 1) rfl) rfl rfl ?_
  clear hf; intro a ha hf; clear ha
  obtain ⟨q12, hcall13, h⟩ := bnd h
  refine st_call hf (by decide) Try.func37 rfl rfl rfl rfl rfl (f_trellis_Code_step_c hp _ _ _ _ _ hcall13) ?_
  rintro _ w ⟨rfl, hp0⟩
  clear hp; have hp := hp0; clear hp0
  replace hp : Hp _ _ _ (Res.sl (Ek.int .i64) 72 (aslv v5 64) q11 :: Res.obj 34 v1 [.int .i64 c0_Length, .int .u32 c0_One, .int .u32 c0_Two] :: ow) := hp
  refine ⟨_, rfl, ?_⟩
  clear hf; intro a hf
  refine st_move hf rfl rfl (by decide) ?_
  clear hf; intro a ha hf; clear ha
  refine st_extract hf (by decide) rfl rfl rfl ?_
  clear hf; intro a ha hf; clear ha
  refine st_extract hf (by decide) rfl rfl rfl ?_
  clear hf; intro a ha hf; clear ha
  refine st_extract hf (by decide) rfl rfl rfl ?_
  clear hf; intro a ha hf; clear ha
  refine st_assign hf rfl rfl (by decide) ?_
  clear hf; intro a ha hf; clear ha
  refine st_assign hf rfl rfl (by decide) ?_
  clear hf; intro a ha hf; clear ha
  refine st_assign hf rfl rfl (by decide) ?_
  clear hf; intro a ha hf; clear ha
  refine st_nil hf ?_
  refine th_n ?_
  refine wp_seq ?_
  refine wp_reg ?_
  refine st_move hf rfl rfl (by decide) ?_
  clear hf; intro a ha hf; clear ha
  refine st_move hf rfl rfl (by decide) ?_
  clear hf; intro a ha hf; clear ha
  refine st_move hf rfl rfl (by decide) ?_
  clear hf; intro a ha hf; clear ha
  refine st_move hf rfl rfl (by decide) ?_
  clear hf; intro a ha hf; clear ha
  refine st_build (E := Ek.bool) (xs := [q12.2.1, q12.2.2]) hf (by decide) elt4 Try.underlying25 hp (vals := #[(0, .bool q12.2.1), (1, .bool q12.2.2)]) (cells := #[.bool q12.2.1, .bool q12.2.2]) rfl (by simp [hf.ev (x := (Operand.tmp 40)) rfl, hf.ev (x := (Operand.tmp 41)) rfl]) (by decide) (by decide) (z := .bool false) (by kernel_rfl) (by kernel_rfl) rfl (reps_cons (cs := [.bool q12.2.1]) rfl (reps_cons (cs := [.bool q12.2.2]) rfl (reps_nil _))) ?_
  clear hf; intro a w v14 hf hp0; clear hp; have hp := hp0; clear hp0
  replace hp : Hp _ _ _ (Res.sl Ek.bool 4 v14 ([q12.2.1, q12.2.2]) :: Res.sl (Ek.int .i64) 72 (aslv v5 64) q11 :: Res.obj 34 v1 [.int .i64 c0_Length, .int .u32 c0_One, .int .u32 c0_Two] :: ow) := hp
  obtain ⟨q16, hcall17, h⟩ := bnd h
  obtain ⟨S18, hp19, rd20, up21, bk22⟩ := Hp.lendS hp (i := 0) rfl
  refine st_call hf (by decide) Try.func41 rfl rfl rfl rfl rfl (f_trellis_Code_Free_1_c hp19 _ _ rd20 hcall17) ?_
  rintro _ w ⟨rfl, hp0⟩
  have hp0 := bk22 _ _ hp0
  clear hp; have hp := hp0; clear hp0
  replace hp : Hp _ _ _ (Res.sl Ek.bool 4 v14 ([q12.2.1, q12.2.2]) :: Res.sl (Ek.int .i64) 72 (aslv v5 64) q11 :: Res.obj 34 v1 [.int .i64 c0_Length, .int .u32 c0_One, .int .u32 c0_Two] :: ow) := hp
  refine ⟨_, rfl, ?_⟩
  clear hf; intro a hf
  obtain ⟨hc23, h⟩ := chk h
  refine st_iaA (E := (Ek.int .i64)) (N := 64) hf (by decide) Try.underlying72 (by kernel_rfl) rfl rfl rfl (hp.sl (i := 1) rfl) rfl hc23.1 hc23.2 ?_
  clear hf; intro a ha hf; clear ha
  refine st_store (E := (Ek.int .i64)) hf elt3 hp (i := 1) rfl rfl rfl rfl rfl (aslv_ix (hp.sl (i := 1) rfl) hc23).1 (aslv_ix (hp.sl (i := 1) rfl) hc23).2 ?_
  clear hf; intro a w hf hp0; clear hp; have hp := hp0; clear hp0
  replace hp : Hp _ _ _ (Res.sl Ek.bool 4 v14 ([q12.2.1, q12.2.2]) :: Res.sl (Ek.int .i64) 72 (aslv v5 64) (q11.set (q12.1).toNat q16) :: Res.obj 34 v1 [.int .i64 c0_Length, .int .u32 c0_One, .int .u32 c0_Two] :: ow) := hp
  refine st_nil hf ?_
  refine th_n ?_
  refine wp_seq ?_
  refine wp_seq ?_
  refine wp_reg ?_
  refine st_move hf rfl rfl (by decide) ?_
  clear hf; intro a ha hf; clear ha
  refine st_move hf rfl rfl (by decide) ?_
  clear hf; intro a ha hf; clear ha
  refine st_nil hf ?_
  refine th_n ?_
  refine wp_block ?_
  obtain ⟨q59, hl, h⟩ := bnd h
  have hp : Hp _ _ _ (Res.sl (Ek.int .i64) 72 (aslv v5 64) (q11.set (q12.1).toNat q16) :: Res.obj 34 v1 [.int .i64 c0_Length, .int .u32 c0_One, .int .u32 c0_Two] :: ow) := Hp.sel (pre := [Res.sl Ek.bool 4 v14 ([q12.2.1, q12.2.2]), Res.sl (Ek.int .i64) 72 (aslv v5 64) (q11.set (q12.1).toNat q16), Res.obj 34 v1 [.int .i64 c0_Length, .int .u32 c0_One, .int .u32 c0_Two]]) (tail := ow) (rs' := [Res.sl (Ek.int .i64) 72 (aslv v5 64) (q11.set (q12.1).toNat q16), Res.obj 34 v1 [.int .i64 c0_Length, .int .u32 c0_One, .int .u32 c0_Two]]) hp [1, 2] (by decide) (by simp) rfl
  refine wp_loop_pure (f := (f_trellis_Code_Free.s2 c0_Length c0_One c0_Two q3)) (s := ((q11.set (q12.1).toNat q16), (0 : Int))) (fun s a w => Fr 86 a [(1, optr v1 0), (4, .int .i64 q3.1), (6, .func (.func 41) #[] #[]), (7, v5), (45, .int .i64 q3.1), (46, .int .i64 s.2)] ∧ Hp S w0 w (Res.sl (Ek.int .i64) 72 (aslv v5 64) s.1 :: Res.obj 34 v1 [.int .i64 c0_Length, .int .u32 c0_One, .int .u32 c0_Two] :: ow)) (fun q e a w => e = .exit 2 ∧ Fr 86 a [(7, v5)] ∧ Hp S w0 w (Res.sl (Ek.int .i64) 72 (aslv v5 64) q :: ow)) ?_ hl ⟨hf.sub ⟨rfl, rfl, rfl, rfl, rfl, rfl, trivial⟩, hp⟩ ?_
  · clear hl hf hp
    intro s x a w h hI
    obtain ⟨least7, t46⟩ := s
    obtain ⟨hf, hp⟩ : Fr 86 a [(1, optr v1 0), (4, .int .i64 q3.1), (6, .func (.func 41) #[] #[]), (7, v5), (45, .int .i64 q3.1), (46, .int .i64 t46)] ∧ Hp S w0 w (Res.sl (Ek.int .i64) 72 (aslv v5 64) least7 :: Res.obj 34 v1 [.int .i64 c0_Length, .int .u32 c0_One, .int .u32 c0_Two] :: ow) := hI
    replace h : f_trellis_Code_Free.s2c c0_Length c0_One c0_Two q3 least7 t46 = some x := h
    unfold f_trellis_Code_Free.s2c at h
    refine wp_seq ?_
    refine wp_reg ?_
    refine st_ilss hf (by decide) rfl rfl rfl ?_
    clear hf; intro a ha hf; clear ha
    refine st_nil hf ?_
    refine th_n ?_
    refine wp_seq ?_
    refine wp_if hf rfl (fun hb => ?_) (fun hb => ?_)
    · replace h := ifT h hb
      refine wp_skip ?_
      refine th_n ?_
      refine wp_seq ?_
      refine wp_block ?_
      refine wp_seq ?_
      refine wp_reg ?_
      refine st_assign hf rfl rfl (by decide) ?_
      clear hf; intro a ha hf; clear ha
      refine st_nil hf ?_
      refine th_n ?_
      refine wp_block ?_
      obtain ⟨q58, hl, h⟩ := bnd h
      refine wp_loop_pure (f := (f_trellis_Code_Free.s3 c0_Length c0_One c0_Two q3)) (s := (least7, (1 : Int))) (fun s a w => Fr 86 a [(1, optr v1 0), (4, .int .i64 q3.1), (6, .func (.func 41) #[] #[]), (7, v5), (12, .int .i64 s.2), (45, .int .i64 q3.1), (46, .int .i64 t46)] ∧ Hp S w0 w (Res.sl (Ek.int .i64) 72 (aslv v5 64) s.1 :: Res.obj 34 v1 [.int .i64 c0_Length, .int .u32 c0_One, .int .u32 c0_Two] :: ow)) (fun q e a w => e = .exit 4 ∧ Fr 86 a [(1, optr v1 0), (4, .int .i64 q3.1), (6, .func (.func 41) #[] #[]), (7, v5), (45, .int .i64 q3.1), (46, .int .i64 t46)] ∧ Hp S w0 w (Res.sl (Ek.int .i64) 72 (aslv v5 64) q :: Res.obj 34 v1 [.int .i64 c0_Length, .int .u32 c0_One, .int .u32 c0_Two] :: ow)) ?_ hl ⟨hf.sub ⟨rfl, rfl, rfl, rfl, rfl, rfl, rfl, trivial⟩, hp⟩ ?_
      · clear hl hf hp
        intro s x a w h hI
        obtain ⟨least7, s12⟩ := s
        obtain ⟨hf, hp⟩ : Fr 86 a [(1, optr v1 0), (4, .int .i64 q3.1), (6, .func (.func 41) #[] #[]), (7, v5), (12, .int .i64 s12), (45, .int .i64 q3.1), (46, .int .i64 t46)] ∧ Hp S w0 w (Res.sl (Ek.int .i64) 72 (aslv v5 64) least7 :: Res.obj 34 v1 [.int .i64 c0_Length, .int .u32 c0_One, .int .u32 c0_Two] :: ow) := hI
        replace h : f_trellis_Code_Free.s3c c0_Length c0_One c0_Two q3 least7 s12 = some x := h
        unfold f_trellis_Code_Free.s3c at h
        refine wp_seq ?_
        refine wp_seq ?_
        refine wp_reg ?_
        refine st_move hf rfl rfl (by decide) ?_
        clear hf; intro a ha hf; clear ha
        refine st_move hf rfl rfl (by decide) ?_
        clear hf; intro a ha hf; clear ha
        refine st_ilss hf (by decide) rfl rfl rfl ?_
        clear hf; intro a ha hf; clear ha
        refine st_nil hf ?_
        refine th_n ?_
        refine wp_if hf rfl (fun hb => ?_) (fun hb => ?_)
        · replace h := ifT h hb
          refine wp_skip ?_
          refine th_n ?_
          refine wp_seq ?_
          refine wp_block ?_
          refine wp_seq ?_
          refine wp_reg ?_
          refine st_build (E := Ek.bool) (xs := [false, true]) hf (by decide) elt4 Try.underlying25 hp (vals := #[(0, .bool false), (1, .bool true)]) (cells := #[.bool false, .bool true]) rfl (by simp [hf.ev (x := (Operand.const (.bool false))) rfl, hf.ev (x := (Operand.const (.bool true))) rfl]) (by decide) (by decide) (z := .bool false) (by kernel_rfl) (by kernel_rfl) rfl (reps_cons (cs := [.bool false]) rfl (reps_cons (cs := [.bool true]) rfl (reps_nil _))) ?_
          clear hf; intro a w v29 hf hp0; clear hp; have hp := hp0; clear hp0
          replace hp : Hp _ _ _ (Res.sl Ek.bool 4 v29 ([false, true]) :: Res.sl (Ek.int .i64) 72 (aslv v5 64) least7 :: Res.obj 34 v1 [.int .i64 c0_Length, .int .u32 c0_One, .int .u32 c0_Two] :: ow) := hp
          refine st_len (E := Ek.bool) hf (by decide) Try.underlying25 rfl rfl (hp.sl (i := 0) rfl) ?_
          clear hf; intro a ha hf; clear ha
          refine st_move hf rfl rfl (by decide) ?_
          clear hf; intro a ha hf; clear ha
          refine st_nil hf ?_
          refine th_n ?_
          refine wp_block ?_
          obtain ⟨q57, hl, h⟩ := bnd h
          have hp : Hp _ _ _ (Res.sl (Ek.int .i64) 72 (aslv v5 64) least7 :: Res.obj 34 v1 [.int .i64 c0_Length, .int .u32 c0_One, .int .u32 c0_Two] :: Res.sl Ek.bool 4 v29 ([false, true]) :: ow) := Hp.sel (pre := [Res.sl Ek.bool 4 v29 ([false, true]), Res.sl (Ek.int .i64) 72 (aslv v5 64) least7, Res.obj 34 v1 [.int .i64 c0_Length, .int .u32 c0_One, .int .u32 c0_Two]]) (tail := ow) (rs' := [Res.sl (Ek.int .i64) 72 (aslv v5 64) least7, Res.obj 34 v1 [.int .i64 c0_Length, .int .u32 c0_One, .int .u32 c0_Two], Res.sl Ek.bool 4 v29 ([false, true])]) hp [1, 2, 0] (by decide) (by simp) rfl
          refine wp_loop_pure (f := (f_trellis_Code_Free.s4 c0_Length c0_One c0_Two s12)) (s := (least7, (0 : Int))) (fun s a w => Fr 86 a [(1, optr v1 0), (4, .int .i64 q3.1), (6, .func (.func 41) #[] #[]), (7, v5), (12, .int .i64 s12), (45, .int .i64 q3.1), (46, .int .i64 t46), (53, v29), (54, .int .i64 (([false, true]).length : Int)), (55, .int .i64 s.2)] ∧ Hp S w0 w (Res.sl (Ek.int .i64) 72 (aslv v5 64) s.1 :: Res.obj 34 v1 [.int .i64 c0_Length, .int .u32 c0_One, .int .u32 c0_Two] :: Res.sl Ek.bool 4 v29 ([false, true]) :: ow)) (fun q e a w => e = .exit 6 ∧ Fr 86 a [(1, optr v1 0), (4, .int .i64 q3.1), (6, .func (.func 41) #[] #[]), (7, v5), (12, .int .i64 s12), (45, .int .i64 q3.1), (46, .int .i64 t46)] ∧ Hp S w0 w (Res.sl (Ek.int .i64) 72 (aslv v5 64) q :: Res.obj 34 v1 [.int .i64 c0_Length, .int .u32 c0_One, .int .u32 c0_Two] :: ow)) ?_ hl ⟨hf.sub ⟨rfl, rfl, rfl, rfl, rfl, rfl, rfl, rfl, rfl, rfl, trivial⟩, hp⟩ ?_
          · clear hl hf hp
            intro s x a w h hI
            obtain ⟨least7, t55⟩ := s
            obtain ⟨hf, hp⟩ : Fr 86 a [(1, optr v1 0), (4, .int .i64 q3.1), (6, .func (.func 41) #[] #[]), (7, v5), (12, .int .i64 s12), (45, .int .i64 q3.1), (46, .int .i64 t46), (53, v29), (54, .int .i64 (([false, true]).length : Int)), (55, .int .i64 t55)] ∧ Hp S w0 w (Res.sl (Ek.int .i64) 72 (aslv v5 64) least7 :: Res.obj 34 v1 [.int .i64 c0_Length, .int .u32 c0_One, .int .u32 c0_Two] :: Res.sl Ek.bool 4 v29 ([false, true]) :: ow) := hI
            replace h : f_trellis_Code_Free.s4c c0_Length c0_One c0_Two s12 least7 t55 = some x := h
            unfold f_trellis_Code_Free.s4c at h
            refine wp_seq ?_
            refine wp_reg ?_
            refine st_ilss hf (by decide) rfl rfl rfl ?_
            clear hf; intro a ha hf; clear ha
            refine st_nil hf ?_
            refine th_n ?_
            refine wp_seq ?_
            refine wp_if hf rfl (fun hb => ?_) (fun hb => ?_)
            · replace h := ifT h hb
              refine wp_skip ?_
              refine th_n ?_
              refine wp_seq ?_
              refine wp_block ?_
              refine wp_seq ?_
              refine wp_reg ?_
              obtain ⟨hc33, h⟩ := chk h
              refine st_index (E := Ek.bool) hf (by decide) Try.underlying25 elt4 rfl rfl rfl (hp.sl (i := 2) rfl) hc33.1 hc33.2 ?_
              clear hf; intro a ha hf; clear ha
              refine st_ldB hf (by decide) pl4 rfl rfl (hp.sl (i := 2) rfl) hc33.1 hc33.2 ?_
              clear hf; intro a ha hf; clear ha
              refine st_assign hf rfl rfl (by decide) ?_
              clear hf; intro a ha hf; clear ha
              refine st_nil hf ?_
              refine th_n ?_
              refine wp_seq ?_
              refine wp_reg ?_
              refine st_ldOA (m := 3) (us := [.int .i64 c0_Length, .int .u32 c0_One, .int .u32 c0_Two]) hf (by decide) (by kernel_rfl) rfl rfl (hp.ob (i := 1) rfl) rfl rfl ?_
              clear hf; intro a ha hf; clear ha
              refine st_move hf rfl rfl (by decide) ?_
              clear hf; intro a ha hf; clear ha
              refine st_move hf rfl rfl (by decide) ?_
              clear hf; intro a ha hf; clear ha
              obtain ⟨q34, hcall35, h⟩ := bnd h
              refine st_call hf (by decide) Try.func37 rfl rfl rfl rfl rfl (f_trellis_Code_step_c hp _ _ _ _ _ hcall35) ?_
              rintro _ w ⟨rfl, hp0⟩
              clear hp; have hp := hp0; clear hp0
              replace hp : Hp _ _ _ (Res.sl (Ek.int .i64) 72 (aslv v5 64) least7 :: Res.obj 34 v1 [.int .i64 c0_Length, .int .u32 c0_One, .int .u32 c0_Two] :: Res.sl Ek.bool 4 v29 ([false, true]) :: ow) := hp
              refine ⟨_, rfl, ?_⟩
              clear hf; intro a hf
              refine st_move hf rfl rfl (by decide) ?_
              clear hf; intro a ha hf; clear ha
              refine st_extract hf (by decide) rfl rfl rfl ?_
              clear hf; intro a ha hf; clear ha
              refine st_extract hf (by decide) rfl rfl rfl ?_
              clear hf; intro a ha hf; clear ha
              refine st_extract hf (by decide) rfl rfl rfl ?_
              clear hf; intro a ha hf; clear ha
              refine st_assign hf rfl rfl (by decide) ?_
              clear hf; intro a ha hf; clear ha
              refine st_assign hf rfl rfl (by decide) ?_
              clear hf; intro a ha hf; clear ha
              refine st_assign hf rfl rfl (by decide) ?_
              clear hf; intro a ha hf; clear ha
              refine st_nil hf ?_
              refine th_n ?_
              obtain ⟨S36, hp37, rd38, up39, bk40⟩ := Hp.lendS hp (i := 0) rfl
              have rl41 := rd38
              obtain ⟨hc42, h⟩ := chk h
              have hc43 := aslv_ix rl41 hc42
              obtain ⟨hc44, h⟩ := chk h
              have hc45 := aslv_ix rl41 hc44
              obtain ⟨q48, hcall49, h⟩ := bnd h
              obtain ⟨hc55, h⟩ := chk h
              have hc56 := aslv_ix rl41 hc55
              refine wp_cutN (fun a w => ∃ (v46 : Value), Fr 86 a [(1, optr v1 0), (4, .int .i64 q3.1), (6, .func (.func 41) #[] #[]), (7, v5), (12, .int .i64 s12), (45, .int .i64 q3.1), (46, .int .i64 t46), (53, v29), (54, .int .i64 (([false, true]).length : Int)), (55, .int .i64 t55)] ∧ Hp S w0 w (Res.sl (Ek.int .i64) 72 (aslv v5 64) (least7.set (q34.1).toNat (imin (gt least7 q34.1) (IntKind.i64.wrap ((gt least7 s12) + q48)))) :: Res.sl Ek.bool 4 v46 ([q34.2.1, q34.2.2]) :: Res.obj 34 v1 [.int .i64 c0_Length, .int .u32 c0_One, .int .u32 c0_Two] :: Res.sl Ek.bool 4 v29 ([false, true]) :: ow)) ?_ ?_
              · have hp := hp37.same (Same.drew w)
                refine dr_begin' (fun a w => ∃ (v46 : Value), Fr 86 a [(1, optr v1 0), (4, .int .i64 q3.1), (6, .func (.func 41) #[] #[]), (7, v5), (12, .int .i64 s12), (45, .int .i64 q3.1), (46, .int .i64 t46), (53, v29), (54, .int .i64 (([false, true]).length : Int)), (55, .int .i64 t55)] ∧ Hp S w0 w (Res.sl (Ek.int .i64) 72 (aslv v5 64) (least7.set (q34.1).toNat (imin (gt least7 q34.1) (IntKind.i64.wrap ((gt least7 s12) + q48)))) :: Res.sl Ek.bool 4 v46 ([q34.2.1, q34.2.2]) :: Res.obj 34 v1 [.int .i64 c0_Length, .int .u32 c0_One, .int .u32 c0_Two] :: Res.sl Ek.bool 4 v29 ([false, true]) :: ow)) (fun w' => ∃ l, Hp S36 w w' l) [15] (by kernel_rfl) ?_
                refine dr_takeP 0 (.int .i64 q34.1) rfl (by kernel_rfl) (by kernel_rfl) (by kernel_rfl) rfl rfl hf (by decide) rfl (fun w => ?_) ?_
                · skip
                  refine st_move hf rfl rfl (by decide) ?_
                  clear hf; intro a ha hf
                  exact st_nil hf (th_n ⟨ha, rfl⟩)
                clear hf; intro a hf
                refine dr_takeP 1 (.int .i64 q34.1) rfl (by kernel_rfl) (by kernel_rfl) (by kernel_rfl) rfl rfl hf (by decide) rfl (fun w => ?_) ?_
                · skip
                  refine st_move hf rfl rfl (by decide) ?_
                  clear hf; intro a ha hf
                  exact st_nil hf (th_n ⟨ha, rfl⟩)
                clear hf; intro a hf
                refine dr_takeP 2 (eptr (aslv v5 64) q34.1 1) rfl (by kernel_rfl) (by kernel_rfl) (by kernel_rfl) rfl rfl hf (by decide) rfl (fun w => ?_) ?_
                · skip
                  refine st_iaA (E := (Ek.int .i64)) (N := 64) hf (by decide) Try.underlying72 (by kernel_rfl) rfl rfl rfl rl41.any rfl hc42.1 hc42.2 ?_
                  clear hf; intro a ha hf
                  exact st_nil hf (th_n ⟨ha, rfl⟩)
                clear hf; intro a hf
                refine dr_take2 3 (.int .i64 (gt least7 q34.1)) rfl (by kernel_rfl) (by kernel_rfl) (by kernel_rfl) (by kernel_rfl) (by kernel_rfl) rfl rfl hf (by decide) rfl (fun w hp => ?_) ⟨_, hp⟩ ?_
                · obtain ⟨_, hp⟩ := hp
                  refine st_ldI hf (by decide) pl3 rfl rfl (rl41.sl hp) hc43.1 hc43.2 ?_
                  clear hf; intro a ha hf
                  exact st_nil hf (th_n ⟨ha, rfl⟩)
                clear hf; intro a hf
                refine dr_takeP 4 (.int .i64 s12) rfl (by kernel_rfl) (by kernel_rfl) (by kernel_rfl) rfl rfl hf (by decide) rfl (fun w => ?_) ?_
                · skip
                  refine st_move hf rfl rfl (by decide) ?_
                  clear hf; intro a ha hf
                  exact st_nil hf (th_n ⟨ha, rfl⟩)
                clear hf; intro a hf
                refine dr_takeP 5 (eptr (aslv v5 64) s12 1) rfl (by kernel_rfl) (by kernel_rfl) (by kernel_rfl) rfl rfl hf (by decide) rfl (fun w => ?_) ?_
                · skip
                  refine st_iaA (E := (Ek.int .i64)) (N := 64) hf (by decide) Try.underlying72 (by kernel_rfl) rfl rfl rfl rl41.any rfl hc44.1 hc44.2 ?_
                  clear hf; intro a ha hf
                  exact st_nil hf (th_n ⟨ha, rfl⟩)
                clear hf; intro a hf
                refine dr_take2 6 (.int .i64 (gt least7 s12)) rfl (by kernel_rfl) (by kernel_rfl) (by kernel_rfl) (by kernel_rfl) (by kernel_rfl) rfl rfl hf (by decide) rfl (fun w hp => ?_) ⟨_, hp⟩ ?_
                · obtain ⟨_, hp⟩ := hp
                  refine st_ldI hf (by decide) pl3 rfl rfl (rl41.sl hp) hc45.1 hc45.2 ?_
                  clear hf; intro a ha hf
                  exact st_nil hf (th_n ⟨ha, rfl⟩)
                clear hf; intro a hf
                refine dr_takeP 7 (.func (.func 41) #[] #[]) rfl (by kernel_rfl) (by kernel_rfl) (by kernel_rfl) rfl rfl hf (by decide) rfl (fun w => ?_) ?_
                · skip
                  refine st_move hf rfl rfl (by decide) ?_
                  clear hf; intro a ha hf
                  exact st_nil hf (th_n ⟨ha, rfl⟩)
                clear hf; intro a hf
                refine dr_takeP 8 (.bool q34.2.1) rfl (by kernel_rfl) (by kernel_rfl) (by kernel_rfl) rfl rfl hf (by decide) rfl (fun w => ?_) ?_
                · skip
                  refine st_move hf rfl rfl (by decide) ?_
                  clear hf; intro a ha hf
                  exact st_nil hf (th_n ⟨ha, rfl⟩)
                clear hf; intro a hf
                refine dr_takeP 9 (.bool q34.2.2) rfl (by kernel_rfl) (by kernel_rfl) (by kernel_rfl) rfl rfl hf (by decide) rfl (fun w => ?_) ?_
                · skip
                  refine st_move hf rfl rfl (by decide) ?_
                  clear hf; intro a ha hf
                  exact st_nil hf (th_n ⟨ha, rfl⟩)
                clear hf; intro a hf
                refine dr_one 10 rfl (by kernel_rfl) ?_
                refine st_build (E := Ek.bool) (xs := [q34.2.1, q34.2.2]) hf (by decide) elt4 Try.underlying25 hp (vals := #[(0, .bool q34.2.1), (1, .bool q34.2.2)]) (cells := #[.bool q34.2.1, .bool q34.2.2]) rfl (by simp [hf.ev (x := (Operand.tmp 75)) rfl, hf.ev (x := (Operand.tmp 76)) rfl]) (by decide) (by decide) (z := .bool false) (by kernel_rfl) (by kernel_rfl) rfl (reps_cons (cs := [.bool q34.2.1]) rfl (reps_cons (cs := [.bool q34.2.2]) rfl (reps_nil _))) ?_
                clear hf; intro a w v46 hf hp0; clear hp; have hp := hp0; clear hp0
                replace hp : Hp _ _ _ (Res.sl Ek.bool 4 v46 ([q34.2.1, q34.2.2]) :: Res.obj 34 v1 [.int .i64 c0_Length, .int .u32 c0_One, .int .u32 c0_Two] :: Res.sl Ek.bool 4 v29 ([false, true]) :: ow) := hp
                refine st_nil hf (th_n ⟨fun _ _ => ⟨_, hp⟩, ?_⟩)
                refine dr_one 11 rfl (by kernel_rfl) ?_
                obtain ⟨S50, hp51, rd52, up53, bk54⟩ := Hp.lendS hp (i := 0) rfl
                refine st_call hf (by decide) Try.func41 rfl rfl rfl rfl rfl (f_trellis_Code_Free_1_c hp51 _ _ rd52 hcall49) ?_
                rintro _ w ⟨rfl, hp0⟩
                have hp0 := bk54 _ _ hp0
                clear hp; have hp := hp0; clear hp0
                replace hp : Hp _ _ _ (Res.sl Ek.bool 4 v46 ([q34.2.1, q34.2.2]) :: Res.obj 34 v1 [.int .i64 c0_Length, .int .u32 c0_One, .int .u32 c0_Two] :: Res.sl Ek.bool 4 v29 ([false, true]) :: ow) := hp
                refine ⟨_, rfl, ?_⟩
                clear hf; intro a hf
                refine st_nil hf (th_n ⟨fun _ _ => ⟨_, hp⟩, ?_⟩)
                refine dr_takeP 12 (.int .i64 (IntKind.i64.wrap ((gt least7 s12) + q48))) rfl (by kernel_rfl) (by kernel_rfl) (by kernel_rfl) rfl rfl hf (by decide) rfl (fun w => ?_) ?_
                · skip
                  refine st_iadd hf (by decide) rfl rfl rfl ?_
                  clear hf; intro a ha hf
                  exact st_nil hf (th_n ⟨ha, rfl⟩)
                clear hf; intro a hf
                refine dr_takeP 13 (.int .i64 (imin (gt least7 q34.1) (IntKind.i64.wrap ((gt least7 s12) + q48)))) rfl (by kernel_rfl) (by kernel_rfl) (by kernel_rfl) rfl rfl hf (by decide) rfl (fun w => ?_) ?_
                · skip
                  refine st_imin hf (by decide) rfl rfl rfl ?_
                  clear hf; intro a ha hf
                  exact st_nil hf (th_n ⟨ha, rfl⟩)
                clear hf; intro a hf
                refine dr_takeP 14 (eptr (aslv v5 64) q34.1 1) rfl (by kernel_rfl) (by kernel_rfl) (by kernel_rfl) rfl rfl hf (by decide) rfl (fun w => ?_) ?_
                · skip
                  refine st_iaA (E := (Ek.int .i64)) (N := 64) hf (by decide) Try.underlying72 (by kernel_rfl) rfl rfl rfl rl41.any rfl hc55.1 hc55.2 ?_
                  clear hf; intro a ha hf
                  exact st_nil hf (th_n ⟨ha, rfl⟩)
                clear hf; intro a hf
                have hp := bk40 _ _ hp
                refine dr_one 15 rfl (by kernel_rfl) ?_
                refine st_store (E := (Ek.int .i64)) hf elt3 hp (i := 0) rfl rfl rfl rfl rfl hc56.1 hc56.2 ?_
                clear hf; intro a w hf hp0; clear hp; have hp := hp0; clear hp0
                replace hp : Hp _ _ _ (Res.sl (Ek.int .i64) 72 (aslv v5 64) (least7.set (q34.1).toNat (imin (gt least7 q34.1) (IntKind.i64.wrap ((gt least7 s12) + q48)))) :: Res.sl Ek.bool 4 v46 ([q34.2.1, q34.2.2]) :: Res.obj 34 v1 [.int .i64 c0_Length, .int .u32 c0_One, .int .u32 c0_Two] :: Res.sl Ek.bool 4 v29 ([false, true]) :: ow) := hp
                refine st_nil hf (th_n ⟨fun hn => absurd hn (by decide), ?_⟩)
                refine dr_end (by kernel_rfl) ?_ _
                exact ⟨v46, hf.sub ⟨rfl, rfl, rfl, rfl, rfl, rfl, rfl, rfl, rfl, rfl, trivial⟩, hp⟩
              rintro a w ⟨v46, hf, hp⟩
              refine ib_n ?_
              refine th_n ?_
              refine wp_reg ?_
              refine st_iadd hf (by decide) rfl rfl rfl ?_
              clear hf; intro a ha hf; clear ha
              refine st_move hf rfl rfl (by decide) ?_
              clear hf; intro a ha hf; clear ha
              refine st_nil hf ?_
              obtain rfl := Option.some.inj h
              have hp : Hp _ _ _ (Res.sl (Ek.int .i64) 72 (aslv v5 64) (least7.set (q34.1).toNat (imin (gt least7 q34.1) (IntKind.i64.wrap ((gt least7 s12) + q48)))) :: Res.obj 34 v1 [.int .i64 c0_Length, .int .u32 c0_One, .int .u32 c0_Two] :: Res.sl Ek.bool 4 v29 ([false, true]) :: ow) := Hp.sel (pre := [Res.sl (Ek.int .i64) 72 (aslv v5 64) (least7.set (q34.1).toNat (imin (gt least7 q34.1) (IntKind.i64.wrap ((gt least7 s12) + q48)))), Res.sl Ek.bool 4 v46 ([q34.2.1, q34.2.2]), Res.obj 34 v1 [.int .i64 c0_Length, .int .u32 c0_One, .int .u32 c0_Two], Res.sl Ek.bool 4 v29 ([false, true])]) (tail := ow) (rs' := [Res.sl (Ek.int .i64) 72 (aslv v5 64) (least7.set (q34.1).toNat (imin (gt least7 q34.1) (IntKind.i64.wrap ((gt least7 s12) + q48)))), Res.obj 34 v1 [.int .i64 c0_Length, .int .u32 c0_One, .int .u32 c0_Two], Res.sl Ek.bool 4 v29 ([false, true])]) hp [0, 2, 3] (by decide) (by simp) rfl
              exact rnd_l ⟨hf.sub ⟨rfl, rfl, rfl, rfl, rfl, rfl, rfl, rfl, rfl, rfl, trivial⟩, hp⟩
            replace h := ifF h hb
            refine wp_exit ?_
            refine th_e ?_
            obtain rfl := Option.some.inj h
            have hp : Hp _ _ _ (Res.sl (Ek.int .i64) 72 (aslv v5 64) least7 :: Res.obj 34 v1 [.int .i64 c0_Length, .int .u32 c0_One, .int .u32 c0_Two] :: ow) := Hp.sel (pre := [Res.sl (Ek.int .i64) 72 (aslv v5 64) least7, Res.obj 34 v1 [.int .i64 c0_Length, .int .u32 c0_One, .int .u32 c0_Two], Res.sl Ek.bool 4 v29 ([false, true])]) (tail := ow) (rs' := [Res.sl (Ek.int .i64) 72 (aslv v5 64) least7, Res.obj 34 v1 [.int .i64 c0_Length, .int .u32 c0_One, .int .u32 c0_Two]]) hp [0, 1] (by decide) (by simp) rfl
            exact rnd_r (by simp) ⟨rfl, hf.sub ⟨rfl, rfl, rfl, rfl, rfl, rfl, rfl, trivial⟩, hp⟩
          clear hl hf hp
          intro e a w hne hO
          obtain ⟨rfl, hf, hp⟩ := hO
          refine ib_same ?_
          refine ib_n ?_
          refine th_n ?_
          refine wp_reg ?_
          refine st_move hf rfl rfl (by decide) ?_
          clear hf; intro a ha hf; clear ha
          refine st_iadd hf (by decide) rfl rfl rfl ?_
          clear hf; intro a ha hf; clear ha
          refine st_assign hf rfl rfl (by decide) ?_
          clear hf; intro a ha hf; clear ha
          refine st_nil hf ?_
          obtain rfl := Option.some.inj h
          exact rnd_l ⟨hf.sub ⟨rfl, rfl, rfl, rfl, rfl, rfl, rfl, trivial⟩, hp⟩
        replace h := ifF h hb
        refine wp_exit ?_
        refine th_e ?_
        obtain rfl := Option.some.inj h
        exact rnd_r (by simp) ⟨rfl, hf.sub ⟨rfl, rfl, rfl, rfl, rfl, rfl, trivial⟩, hp⟩
      clear hl hf hp
      intro e a w hne hO
      obtain ⟨rfl, hf, hp⟩ := hO
      refine ib_same ?_
      refine ib_n ?_
      refine th_n ?_
      refine wp_reg ?_
      refine st_iadd hf (by decide) rfl rfl rfl ?_
      clear hf; intro a ha hf; clear ha
      refine st_move hf rfl rfl (by decide) ?_
      clear hf; intro a ha hf; clear ha
      refine st_nil hf ?_
      obtain rfl := Option.some.inj h
      exact rnd_l ⟨hf.sub ⟨rfl, rfl, rfl, rfl, rfl, rfl, trivial⟩, hp⟩
    replace h := ifF h hb
    refine wp_exit ?_
    refine th_e ?_
    obtain rfl := Option.some.inj h
    have hp : Hp _ _ _ (Res.sl (Ek.int .i64) 72 (aslv v5 64) least7 :: ow) := Hp.sel (pre := [Res.sl (Ek.int .i64) 72 (aslv v5 64) least7, Res.obj 34 v1 [.int .i64 c0_Length, .int .u32 c0_One, .int .u32 c0_Two]]) (tail := ow) (rs' := [Res.sl (Ek.int .i64) 72 (aslv v5 64) least7]) hp [0] (by decide) (by simp) rfl
    exact rnd_r (by simp) ⟨rfl, hf.sub ⟨rfl, trivial⟩, hp⟩
  clear hl hf hp
  intro e a w hne hO
  obtain ⟨rfl, hf, hp⟩ := hO
  refine ib_same ?_
  refine th_n ?_
  refine wp_seq ?_
  refine wp_reg ?_
  have hc60 : 0 ≤ (0 : Int) ∧ (0 : Int) < (64 : Int) := by decide
  refine st_iaA (E := (Ek.int .i64)) (N := 64) hf (by decide) Try.underlying72 (by kernel_rfl) rfl rfl rfl (hp.sl (i := 0) rfl) rfl hc60.1 hc60.2 ?_
  clear hf; intro a ha hf; clear ha
  refine st_ldI hf (by decide) pl3 rfl rfl (hp.sl (i := 0) rfl) (aslv_ix (hp.sl (i := 0) rfl) hc60).1 (aslv_ix (hp.sl (i := 0) rfl) hc60).2 ?_
  clear hf; intro a ha hf; clear ha
  refine st_assign hf rfl rfl (by decide) ?_
  clear hf; intro a ha hf; clear ha
  refine st_assign hf rfl rfl (by decide) ?_
  clear hf; intro a ha hf; clear ha
  refine st_nil hf ?_
  refine th_n ?_
  refine wp_ret ?_
  obtain rfl := Option.some.inj h
  have hp : Hp _ _ _ (ow) := Hp.sel (pre := [Res.sl (Ek.int .i64) 72 (aslv v5 64) q59]) (tail := ow) (rs' := []) hp [] (by decide) (by simp) rfl
  exact ⟨rfl, ⟨hf.sub ⟨rfl, rfl, trivial⟩, hp⟩⟩

noncomputable def f_foghornref21_count.j1 (b1 : Bool) (n5 : Int) : Option Int := (if b1 = true then (some (IntKind.i64.wrap (n5 + (1 : Int)))) else (some n5))
noncomputable def f_foghornref21_count (a0 : Bool) (b1 : Bool) : Option Int := (if a0 = true then (f_foghornref21_count.j1 b1 (IntKind.i64.wrap ((0 : Int) + (1 : Int)))) else (f_foghornref21_count.j1 b1 (0 : Int)))
theorem f_foghornref21_count_c {S : Nat → Prop} {w0 w : World} {ow : List Res} (hp : Hp S w0 w ow) (a0 : Bool) (b1 : Bool) {r : Int} (h : f_foghornref21_count a0 b1 = some r) :
    Calls Try.prog 45 #[.bool a0, .bool b1] w (fun e w' => e = .returned (.int .i64 r) ∧ Hp S w0 w' (ow)) := by
  unfold f_foghornref21_count at h
  refine enter (n := 13) (args := [.bool a0, .bool b1]) Try.func45 rfl rfl (Nat.le_of_ble_eq_true rfl) fun a hf => ?_
  replace hf : Fr 13 a [(0, .bool a0), (1, .bool b1)] := hf
  refine wp_mono (Q := fun e a w => e = .ret ∧ Fr 13 a [(4, .int .i64 r)] ∧ Hp S w0 w (ow)) ?_ ?_
  rotate_left
  · rintro e a w ⟨rfl, hf, hp⟩
    exact ret1 hf rfl rfl ⟨rfl, hp⟩
  refine wp_seq ?_
  refine wp_reg ?_
  refine st_assign hf rfl rfl (by decide) ?_
  clear hf; intro a ha hf; clear ha
  refine st_nil hf ?_
  refine th_n ?_
  refine wp_seq ?_
  refine wp_reg ?_
  refine st_assign hf rfl rfl (by decide) ?_
  clear hf; intro a ha hf; clear ha
  refine st_nil hf ?_
  refine th_n ?_
  refine wp_seq_cut (fun a w => ∃ (n5 : Int), f_foghornref21_count.j1 b1 n5 = some r ∧ Fr 13 a [(1, .bool b1), (5, .int .i64 n5)] ∧ Hp S w0 w (ow)) ?_ ?_
  · skip
    refine wp_seq ?_
    refine wp_reg ?_
    refine st_move hf rfl rfl (by decide) ?_
    clear hf; intro a ha hf; clear ha
    refine st_nil hf ?_
    refine th_n ?_
    refine wp_if hf rfl (fun hb => ?_) (fun hb => ?_)
    · replace h := ifT h hb
      refine wp_reg ?_
      refine st_move hf rfl rfl (by decide) ?_
      clear hf; intro a ha hf; clear ha
      refine st_iadd hf (by decide) rfl rfl rfl ?_
      clear hf; intro a ha hf; clear ha
      refine st_assign hf rfl rfl (by decide) ?_
      clear hf; intro a ha hf; clear ha
      refine st_nil hf ?_
      refine th_n ?_
      exact ⟨_, h, hf.sub ⟨rfl, rfl, trivial⟩, hp⟩
    replace h := ifF h hb
    refine wp_skip ?_
    refine th_n ?_
    exact ⟨_, h, hf.sub ⟨rfl, rfl, trivial⟩, hp⟩
  rintro a w ⟨n5, h, hf, hp⟩
  unfold f_foghornref21_count.j1 at h
  refine wp_seq ?_
  refine wp_seq ?_
  refine wp_reg ?_
  refine st_move hf rfl rfl (by decide) ?_
  clear hf; intro a ha hf; clear ha
  refine st_nil hf ?_
  refine th_n ?_
  refine wp_if hf rfl (fun hb => ?_) (fun hb => ?_)
  · replace h := ifT h hb
    refine wp_reg ?_
    refine st_move hf rfl rfl (by decide) ?_
    clear hf; intro a ha hf; clear ha
    refine st_iadd hf (by decide) rfl rfl rfl ?_
    clear hf; intro a ha hf; clear ha
    refine st_assign hf rfl rfl (by decide) ?_
    clear hf; intro a ha hf; clear ha
    refine st_nil hf ?_
    refine th_n ?_
    refine wp_seq ?_
    refine wp_reg ?_
    refine st_move hf rfl rfl (by decide) ?_
    clear hf; intro a ha hf; clear ha
    refine st_assign hf rfl rfl (by decide) ?_
    clear hf; intro a ha hf; clear ha
    refine st_nil hf ?_
    refine th_n ?_
    refine wp_ret ?_
    obtain rfl := Option.some.inj h
    exact ⟨rfl, ⟨hf.sub ⟨rfl, trivial⟩, hp⟩⟩
  replace h := ifF h hb
  refine wp_skip ?_
  refine th_n ?_
  refine wp_seq ?_
  refine wp_reg ?_
  refine st_move hf rfl rfl (by decide) ?_
  clear hf; intro a ha hf; clear ha
  refine st_assign hf rfl rfl (by decide) ?_
  clear hf; intro a ha hf; clear ha
  refine st_nil hf ?_
  refine th_n ?_
  refine wp_ret ?_
  obtain rfl := Option.some.inj h
  exact ⟨rfl, ⟨hf.sub ⟨rfl, trivial⟩, hp⟩⟩

noncomputable def f_foghornref21_Free.s1c (q3 : (Int × Int)) (least6 : (List Int)) (i7 : Int) : Option (((List Int) × Int) ⊕ (List Int)) := (if (decide (i7 < q3.1)) = true then (if 0 ≤ i7 ∧ i7 < (least6.length : Int) then (some (Sum.inl ((least6.set (i7).toNat (1000000 : Int)), (IntKind.i64.wrap (i7 + (1 : Int)))))) else none) else (some (Sum.inr least6)))
noncomputable def f_foghornref21_Free.s1 (q3 : (Int × Int)) (s : ((List Int) × Int)) : Option (((List Int) × Int) ⊕ (List Int)) := f_foghornref21_Free.s1c q3 s.1 s.2
noncomputable def f_foghornref21_Free.s4c (c0_Length : Int) (c0_One : Int) (c0_Two : Int) (s12 : Int) (least6 : (List Int)) (less11 : Bool) (k13 : Int) : Option (((List Int) × Bool × Int) ⊕ ((List Int) × Bool)) := (if (decide (k13 < (2 : Int))) = true then ((f_foghornref21_Go c0_Length c0_One c0_Two s12 (k13 == (1 : Int))).bind fun q31 => (if 0 ≤ s12 ∧ s12 < (least6.length : Int) then ((f_foghornref21_count q31.2.1 q31.2.2).bind fun q40 => (if 0 ≤ q31.1 ∧ q31.1 < (least6.length : Int) then (if (decide ((IntKind.i64.wrap ((gt least6 s12) + q40)) < (gt least6 q31.1))) = true then (if 0 ≤ q31.1 ∧ q31.1 < (least6.length : Int) then (some (Sum.inl ((least6.set (q31.1).toNat (IntKind.i64.wrap ((gt least6 s12) + q40))), true, (IntKind.i64.wrap (k13 + (1 : Int)))))) else none) else (some (Sum.inl (least6, less11, (IntKind.i64.wrap (k13 + (1 : Int))))))) else none)) else none)) else (some (Sum.inr (least6, less11))))
noncomputable def f_foghornref21_Free.s4 (c0_Length : Int) (c0_One : Int) (c0_Two : Int) (s12 : Int) (s : ((List Int) × Bool × Int)) : Option (((List Int) × Bool × Int) ⊕ ((List Int) × Bool)) := f_foghornref21_Free.s4c c0_Length c0_One c0_Two s12 s.1 s.2.1 s.2.2
noncomputable def f_foghornref21_Free.s3c (c0_Length : Int) (c0_One : Int) (c0_Two : Int) (q3 : (Int × Int)) (least6 : (List Int)) (less11 : Bool) (s12 : Int) : Option (((List Int) × Bool × Int) ⊕ ((List Int) × Bool)) := (if (decide (s12 < q3.1)) = true then ((loop (f_foghornref21_Free.s4 c0_Length c0_One c0_Two s12) (least6, less11, (0 : Int))).bind (fun q44 => (some (Sum.inl (q44.1, q44.2, (IntKind.i64.wrap (s12 + (1 : Int)))))))) else (some (Sum.inr (least6, less11))))
noncomputable def f_foghornref21_Free.s3 (c0_Length : Int) (c0_One : Int) (c0_Two : Int) (q3 : (Int × Int)) (s : ((List Int) × Bool × Int)) : Option (((List Int) × Bool × Int) ⊕ ((List Int) × Bool)) := f_foghornref21_Free.s3c c0_Length c0_One c0_Two q3 s.1 s.2.1 s.2.2
noncomputable def f_foghornref21_Free.s2c (c0_Length : Int) (c0_One : Int) (c0_Two : Int) (q3 : (Int × Int)) (least6 : (List Int)) (less11 : Bool) : Option (((List Int) × Bool) ⊕ (List Int)) := (if less11 = true then ((loop (f_foghornref21_Free.s3 c0_Length c0_One c0_Two q3) (least6, false, (1 : Int))).bind (fun q45 => (some (Sum.inl (q45.1, q45.2))))) else (some (Sum.inr least6)))
noncomputable def f_foghornref21_Free.s2 (c0_Length : Int) (c0_One : Int) (c0_Two : Int) (q3 : (Int × Int)) (s : ((List Int) × Bool)) : Option (((List Int) × Bool) ⊕ (List Int)) := f_foghornref21_Free.s2c c0_Length c0_One c0_Two q3 s.1 s.2
noncomputable def f_foghornref21_Free (c0_Length : Int) (c0_One : Int) (c0_Two : Int) : Option (Int × Int) := ((f_foghornref21_States c0_Length c0_One c0_Two).bind fun q3 => (if (q3.2 != (0 : Int)) = true then (some ((0 : Int), q3.2)) else (if 0 ≤ q3.1 ∧ q3.1 ≤ q3.1 ∧ q3.1 * 8 ≤ 281474976710656 then ((loop (f_foghornref21_Free.s1 q3) ((List.replicate (q3.1).toNat (0 : Int)), (0 : Int))).bind (fun q13 => ((f_foghornref21_Go c0_Length c0_One c0_Two (0 : Int) true).bind fun q14 => ((f_foghornref21_count q14.2.1 q14.2.2).bind fun q16 => (if 0 ≤ q14.1 ∧ q14.1 < (q13.length : Int) then ((loop (f_foghornref21_Free.s2 c0_Length c0_One c0_Two q3) ((q13.set (q14.1).toNat q16), true)).bind (fun q46 => (if 0 ≤ (0 : Int) ∧ (0 : Int) < (q46.length : Int) then (some ((gt q46 (0 : Int)), (0 : Int))) else none))) else none))))) else none)))
theorem f_foghornref21_Free_c {S : Nat → Prop} {w0 w : World} {ow : List Res} (hp : Hp S w0 w ow) (c0_Length : Int) (c0_One : Int) (c0_Two : Int) {r : (Int × Int)} (h : f_foghornref21_Free c0_Length c0_One c0_Two = some r) :
    Calls Try.prog 27 #[.agg #[.int .i64 c0_Length, .int .u32 c0_One, .int .u32 c0_Two]] w (fun e w' => e = .returned (.tuple #[.int .i64 r.1, .int .i64 r.2]) ∧ Hp S w0 w' (ow)) := by
  unfold f_foghornref21_Free at h
  refine enter (n := 88) (args := [.agg #[.int .i64 c0_Length, .int .u32 c0_One, .int .u32 c0_Two]]) Try.func27 rfl rfl (Nat.le_of_ble_eq_true rfl) fun a hf => ?_
  replace hf : Fr 88 a [(0, .agg #[.int .i64 c0_Length, .int .u32 c0_One, .int .u32 c0_Two])] := hf
  refine wp_mono (Q := fun e a w => e = .ret ∧ Fr 88 a [(2, .int .i64 r.1), (3, .int .i64 r.2)] ∧ Hp S w0 w (ow)) ?_ ?_
  rotate_left
  · rintro e a w ⟨rfl, hf, hp⟩
    exact ret2 hf rfl rfl rfl ⟨rfl, hp⟩
  refine wp_seq ?_
  refine wp_reg ?_
  refine st_boxO (cs := [.int .i64 c0_Length, .int .u32 c0_One, .int .u32 c0_Two]) hf (by decide) hp rfl rfl rfl ?_
  clear hf; intro a w v1 hf hp0; clear hp; have hp := hp0; clear hp0
  replace hp : Hp _ _ _ (Res.obj 24 v1 [.int .i64 c0_Length, .int .u32 c0_One, .int .u32 c0_Two] :: ow) := hp
  refine st_assign hf rfl rfl (by decide) ?_
  clear hf; intro a ha hf; clear ha
  refine st_assign hf rfl rfl (by decide) ?_
  clear hf; intro a ha hf; clear ha
  refine st_nil hf ?_
  refine th_n ?_
  refine wp_seq ?_
  refine wp_reg ?_
  refine st_ldOA (m := 3) (us := [.int .i64 c0_Length, .int .u32 c0_One, .int .u32 c0_Two]) hf (by decide) (by kernel_rfl) rfl rfl (hp.ob (i := 0) rfl) rfl rfl ?_
  clear hf; intro a ha hf; clear ha
  obtain ⟨q3, hcall4, h⟩ := bnd h
  refine st_call hf (by decide) Try.func25 rfl rfl rfl rfl rfl (f_foghornref21_States_c hp _ _ _ hcall4) ?_
  rintro _ w ⟨rfl, hp0⟩
  clear hp; have hp := hp0; clear hp0
  replace hp : Hp _ _ _ (Res.obj 24 v1 [.int .i64 c0_Length, .int .u32 c0_One, .int .u32 c0_Two] :: ow) := hp
  refine ⟨_, rfl, ?_⟩
  clear hf; intro a hf
  refine st_move hf rfl rfl (by decide) ?_
  clear hf; intro a ha hf; clear ha
  refine st_extract hf (by decide) rfl rfl rfl ?_
  clear hf; intro a ha hf; clear ha
  refine st_extract hf (by decide) rfl rfl rfl ?_
  clear hf; intro a ha hf; clear ha
  refine st_assign hf rfl rfl (by decide) ?_
  clear hf; intro a ha hf; clear ha
  refine st_assign hf rfl rfl (by decide) ?_
  clear hf; intro a ha hf; clear ha
  refine st_nil hf ?_
  refine th_n ?_
  refine wp_seq ?_
  refine wp_seq ?_
  refine wp_reg ?_
  refine st_move hf rfl rfl (by decide) ?_
  clear hf; intro a ha hf; clear ha
  refine st_ineq hf (by decide) rfl rfl rfl ?_
  clear hf; intro a ha hf; clear ha
  refine st_nil hf ?_
  refine th_n ?_
  refine wp_if hf rfl (fun hb => ?_) (fun hb => ?_)
  · replace h := ifT h hb
    refine wp_seq ?_
    refine wp_reg ?_
    refine st_move hf rfl rfl (by decide) ?_
    clear hf; intro a ha hf; clear ha
    refine st_assign hf rfl rfl (by decide) ?_
    clear hf; intro a ha hf; clear ha
    refine st_assign hf rfl rfl (by decide) ?_
    clear hf; intro a ha hf; clear ha
    refine st_nil hf ?_
    refine th_n ?_
    refine wp_ret ?_
    refine th_r ?_
    obtain rfl := Option.some.inj h
    have hp : Hp _ _ _ (ow) := Hp.sel (pre := [Res.obj 24 v1 [.int .i64 c0_Length, .int .u32 c0_One, .int .u32 c0_Two]]) (tail := ow) (rs' := []) hp [] (by decide) (by simp) rfl
    exact ⟨rfl, ⟨hf.sub ⟨rfl, rfl, trivial⟩, hp⟩⟩
  replace h := ifF h hb
  refine wp_skip ?_
  refine th_n ?_
  refine wp_seq ?_
  refine wp_reg ?_
  refine st_move hf rfl rfl (by decide) ?_
  clear hf; intro a ha hf; clear ha
  obtain ⟨hc5, h⟩ := chk h
  refine st_make (E := (Ek.int .i64)) hf (by decide) elt3 Try.underlying39 (by decide) hp rfl rfl rfl hc5.1 hc5.2.1 hc5.2.2 ?_
  clear hf; intro a w v6 hf hp0; clear hp; have hp := hp0; clear hp0
  replace hp : Hp _ _ _ (Res.sl (Ek.int .i64) 3 v6 (List.replicate (q3.1).toNat (0 : Int)) :: Res.obj 24 v1 [.int .i64 c0_Length, .int .u32 c0_One, .int .u32 c0_Two] :: ow) := hp
  refine st_assign hf rfl rfl (by decide) ?_
  clear hf; intro a ha hf; clear ha
  refine st_nil hf ?_
  refine th_n ?_
  refine wp_seq ?_
  refine wp_seq ?_
  refine wp_reg ?_
  refine st_assign hf rfl rfl (by decide) ?_
  clear hf; intro a ha hf; clear ha
  refine st_nil hf ?_
  refine th_n ?_
  refine wp_block ?_
  obtain ⟨q13, hl, h⟩ := bnd h
  refine wp_loop_pure (f := (f_foghornref21_Free.s1 q3)) (s := ((List.replicate (q3.1).toNat (0 : Int)), (0 : Int))) (fun s a w => ∃ (v8 : Value), Fr 88 a [(1, optr v1 0), (4, .int .i64 q3.1), (6, v8), (7, .int .i64 s.2)] ∧ Hp S w0 w (Res.sl (Ek.int .i64) 3 v8 s.1 :: Res.obj 24 v1 [.int .i64 c0_Length, .int .u32 c0_One, .int .u32 c0_Two] :: ow)) (fun q e a w => e = .exit 0 ∧ ∃ (v10 : Value), Fr 88 a [(1, optr v1 0), (4, .int .i64 q3.1), (6, v10)] ∧ Hp S w0 w (Res.sl (Ek.int .i64) 3 v10 q :: Res.obj 24 v1 [.int .i64 c0_Length, .int .u32 c0_One, .int .u32 c0_Two] :: ow)) ?_ hl ⟨_, hf.sub ⟨rfl, rfl, rfl, rfl, trivial⟩, hp⟩ ?_
  · clear hl hf hp
    intro s x a w h hI
    obtain ⟨least6, i7⟩ := s
    obtain ⟨v8, hf, hp⟩ : ∃ (v8 : Value), Fr 88 a [(1, optr v1 0), (4, .int .i64 q3.1), (6, v8), (7, .int .i64 i7)] ∧ Hp S w0 w (Res.sl (Ek.int .i64) 3 v8 least6 :: Res.obj 24 v1 [.int .i64 c0_Length, .int .u32 c0_One, .int .u32 c0_Two] :: ow) := hI
    replace h : f_foghornref21_Free.s1c q3 least6 i7 = some x := h
    unfold f_foghornref21_Free.s1c at h
    refine wp_seq ?_
    refine wp_seq ?_
    refine wp_reg ?_
    refine st_move hf rfl rfl (by decide) ?_
    clear hf; intro a ha hf; clear ha
    refine st_move hf rfl rfl (by decide) ?_
    clear hf; intro a ha hf; clear ha
    refine st_ilss hf (by decide) rfl rfl rfl ?_
    clear hf; intro a ha hf; clear ha
    refine st_nil hf ?_
    refine th_n ?_
    refine wp_if hf rfl (fun hb => ?_) (fun hb => ?_)
    · replace h := ifT h hb
      refine wp_skip ?_
      refine th_n ?_
      refine wp_seq ?_
      refine wp_block ?_
      refine wp_reg ?_
      refine st_move hf rfl rfl (by decide) ?_
      clear hf; intro a ha hf; clear ha
      refine st_move hf rfl rfl (by decide) ?_
      clear hf; intro a ha hf; clear ha
      obtain ⟨hc12, h⟩ := chk h
      refine st_index (E := (Ek.int .i64)) hf (by decide) Try.underlying39 elt3 rfl rfl rfl (hp.sl (i := 0) rfl) hc12.1 hc12.2 ?_
      clear hf; intro a ha hf; clear ha
      refine st_store (E := (Ek.int .i64)) hf elt3 hp (i := 0) rfl rfl rfl rfl rfl hc12.1 hc12.2 ?_
      clear hf; intro a w hf hp0; clear hp; have hp := hp0; clear hp0
      replace hp : Hp _ _ _ (Res.sl (Ek.int .i64) 3 v8 (least6.set (i7).toNat (1000000 : Int)) :: Res.obj 24 v1 [.int .i64 c0_Length, .int .u32 c0_One, .int .u32 c0_Two] :: ow) := hp
      refine st_nil hf ?_
      refine ib_n ?_
      refine th_n ?_
      refine wp_reg ?_
      refine st_move hf rfl rfl (by decide) ?_
      clear hf; intro a ha hf; clear ha
      refine st_iadd hf (by decide) rfl rfl rfl ?_
      clear hf; intro a ha hf; clear ha
      refine st_assign hf rfl rfl (by decide) ?_
      clear hf; intro a ha hf; clear ha
      refine st_nil hf ?_
      obtain rfl := Option.some.inj h
      exact rnd_l ⟨_, hf.sub ⟨rfl, rfl, rfl, rfl, trivial⟩, hp⟩
    replace h := ifF h hb
    refine wp_exit ?_
    refine th_e ?_
    obtain rfl := Option.some.inj h
    exact rnd_r (by simp) ⟨rfl, _, hf.sub ⟨rfl, rfl, rfl, trivial⟩, hp⟩
  clear hl hf hp
  intro e a w hne hO
  obtain ⟨rfl, v10, hf, hp⟩ := hO
  refine ib_same ?_
  refine th_n ?_
  refine wp_seq ?_
  refine wp_reg ?_
  refine st_ldOA (m := 3) (us := [.int .i64 c0_Length, .int .u32 c0_One, .int .u32 c0_Two]) hf (by decide) (by kernel_rfl) rfl rfl (hp.ob (i := 1) rfl) rfl rfl ?_
  clear hf; intro a ha hf; clear ha
  obtain ⟨q14, hcall15, h⟩ := bnd h
  refine st_call hf (by decide) Try.func42 rfl rfl rfl rfl rfl (f_foghornref21_Go_c hp _ _ _ _ _ hcall15) ?_
  rintro _ w ⟨rfl, hp0⟩
  clear hp; have hp := hp0; clear hp0
  replace hp : Hp _ _ _ (Res.sl (Ek.int .i64) 3 v10 q13 :: Res.obj 24 v1 [.int .i64 c0_Length, .int .u32 c0_One, .int .u32 c0_Two] :: ow) := hp
  refine ⟨_, rfl, ?_⟩
  clear hf; intro a hf
  refine st_move hf rfl rfl (by decide) ?_
  clear hf; intro a ha hf; clear ha
  refine st_extract hf (by decide) rfl rfl rfl ?_
  clear hf; intro a ha hf; clear ha
  refine st_extract hf (by decide) rfl rfl rfl ?_
  clear hf; intro a ha hf; clear ha
  refine st_extract hf (by decide) rfl rfl rfl ?_
  clear hf; intro a ha hf; clear ha
  refine st_assign hf rfl rfl (by decide) ?_
  clear hf; intro a ha hf; clear ha
  refine st_assign hf rfl rfl (by decide) ?_
  clear hf; intro a ha hf; clear ha
  refine st_assign hf rfl rfl (by decide) ?_
  clear hf; intro a ha hf; clear ha
  refine st_nil hf ?_
  refine th_n ?_
  refine wp_seq ?_
  refine wp_reg ?_
  refine st_move hf rfl rfl (by decide) ?_
  clear hf; intro a ha hf; clear ha
  refine st_move hf rfl rfl (by decide) ?_
  clear hf; intro a ha hf; clear ha
  refine st_move hf rfl rfl (by decide) ?_
  clear hf; intro a ha hf; clear ha
  refine st_move hf rfl rfl (by decide) ?_
  clear hf; intro a ha hf; clear ha
  obtain ⟨q16, hcall17, h⟩ := bnd h
  refine st_call hf (by decide) Try.func45 rfl rfl rfl rfl rfl (f_foghornref21_count_c hp _ _ hcall17) ?_
  rintro _ w ⟨rfl, hp0⟩
  clear hp; have hp := hp0; clear hp0
  replace hp : Hp _ _ _ (Res.sl (Ek.int .i64) 3 v10 q13 :: Res.obj 24 v1 [.int .i64 c0_Length, .int .u32 c0_One, .int .u32 c0_Two] :: ow) := hp
  refine ⟨_, rfl, ?_⟩
  clear hf; intro a hf
  obtain ⟨hc18, h⟩ := chk h
  refine st_index (E := (Ek.int .i64)) hf (by decide) Try.underlying39 elt3 rfl rfl rfl (hp.sl (i := 0) rfl) hc18.1 hc18.2 ?_
  clear hf; intro a ha hf; clear ha
  refine st_store (E := (Ek.int .i64)) hf elt3 hp (i := 0) rfl rfl rfl rfl rfl hc18.1 hc18.2 ?_
  clear hf; intro a w hf hp0; clear hp; have hp := hp0; clear hp0
  replace hp : Hp _ _ _ (Res.sl (Ek.int .i64) 3 v10 (q13.set (q14.1).toNat q16) :: Res.obj 24 v1 [.int .i64 c0_Length, .int .u32 c0_One, .int .u32 c0_Two] :: ow) := hp
  refine st_nil hf ?_
  refine th_n ?_
  refine wp_seq ?_
  refine wp_seq ?_
  refine wp_reg ?_
  refine st_assign hf rfl rfl (by decide) ?_
  clear hf; intro a ha hf; clear ha
  refine st_nil hf ?_
  refine th_n ?_
  refine wp_block ?_
  obtain ⟨q46, hl, h⟩ := bnd h
  refine wp_loop_pure (f := (f_foghornref21_Free.s2 c0_Length c0_One c0_Two q3)) (s := ((q13.set (q14.1).toNat q16), true)) (fun s a w => ∃ (v19 : Value), Fr 88 a [(1, optr v1 0), (4, .int .i64 q3.1), (6, v19), (11, .bool s.2)] ∧ Hp S w0 w (Res.sl (Ek.int .i64) 3 v19 s.1 :: Res.obj 24 v1 [.int .i64 c0_Length, .int .u32 c0_One, .int .u32 c0_Two] :: ow)) (fun q e a w => e = .exit 2 ∧ ∃ (v21 : Value), Fr 88 a [(6, v21)] ∧ Hp S w0 w (Res.sl (Ek.int .i64) 3 v21 q :: ow)) ?_ hl ⟨_, hf.sub ⟨rfl, rfl, rfl, rfl, trivial⟩, hp⟩ ?_
  · clear hl hf hp
    intro s x a w h hI
    obtain ⟨least6, less11⟩ := s
    obtain ⟨v19, hf, hp⟩ : ∃ (v19 : Value), Fr 88 a [(1, optr v1 0), (4, .int .i64 q3.1), (6, v19), (11, .bool less11)] ∧ Hp S w0 w (Res.sl (Ek.int .i64) 3 v19 least6 :: Res.obj 24 v1 [.int .i64 c0_Length, .int .u32 c0_One, .int .u32 c0_Two] :: ow) := hI
    replace h : f_foghornref21_Free.s2c c0_Length c0_One c0_Two q3 least6 less11 = some x := h
    unfold f_foghornref21_Free.s2c at h
    refine wp_seq ?_
    refine wp_seq ?_
    refine wp_reg ?_
    refine st_move hf rfl rfl (by decide) ?_
    clear hf; intro a ha hf; clear ha
    refine st_nil hf ?_
    refine th_n ?_
    refine wp_if hf rfl (fun hb => ?_) (fun hb => ?_)
    · replace h := ifT h hb
      refine wp_skip ?_
      refine th_n ?_
      refine wp_block ?_
      refine wp_seq ?_
      refine wp_reg ?_
      refine st_assign hf rfl rfl (by decide) ?_
      clear hf; intro a ha hf; clear ha
      refine st_nil hf ?_
      refine th_n ?_
      refine wp_seq ?_
      refine wp_reg ?_
      refine st_assign hf rfl rfl (by decide) ?_
      clear hf; intro a ha hf; clear ha
      refine st_nil hf ?_
      refine th_n ?_
      refine wp_block ?_
      obtain ⟨q45, hl, h⟩ := bnd h
      refine wp_loop_pure (f := (f_foghornref21_Free.s3 c0_Length c0_One c0_Two q3)) (s := (least6, false, (1 : Int))) (fun s a w => ∃ (v23 : Value), Fr 88 a [(1, optr v1 0), (4, .int .i64 q3.1), (6, v23), (11, .bool s.2.1), (12, .int .i64 s.2.2)] ∧ Hp S w0 w (Res.sl (Ek.int .i64) 3 v23 s.1 :: Res.obj 24 v1 [.int .i64 c0_Length, .int .u32 c0_One, .int .u32 c0_Two] :: ow)) (fun q e a w => e = .exit 4 ∧ ∃ (v25 : Value), Fr 88 a [(1, optr v1 0), (4, .int .i64 q3.1), (6, v25), (11, .bool q.2)] ∧ Hp S w0 w (Res.sl (Ek.int .i64) 3 v25 q.1 :: Res.obj 24 v1 [.int .i64 c0_Length, .int .u32 c0_One, .int .u32 c0_Two] :: ow)) ?_ hl ⟨_, hf.sub ⟨rfl, rfl, rfl, rfl, rfl, trivial⟩, hp⟩ ?_
      · clear hl hf hp
        intro s x a w h hI
        obtain ⟨least6, less11, s12⟩ := s
        obtain ⟨v23, hf, hp⟩ : ∃ (v23 : Value), Fr 88 a [(1, optr v1 0), (4, .int .i64 q3.1), (6, v23), (11, .bool less11), (12, .int .i64 s12)] ∧ Hp S w0 w (Res.sl (Ek.int .i64) 3 v23 least6 :: Res.obj 24 v1 [.int .i64 c0_Length, .int .u32 c0_One, .int .u32 c0_Two] :: ow) := hI
        replace h : f_foghornref21_Free.s3c c0_Length c0_One c0_Two q3 least6 less11 s12 = some x := h
        unfold f_foghornref21_Free.s3c at h
        refine wp_seq ?_
        refine wp_seq ?_
        refine wp_reg ?_
        refine st_move hf rfl rfl (by decide) ?_
        clear hf; intro a ha hf; clear ha
        refine st_move hf rfl rfl (by decide) ?_
        clear hf; intro a ha hf; clear ha
        refine st_ilss hf (by decide) rfl rfl rfl ?_
        clear hf; intro a ha hf; clear ha
        refine st_nil hf ?_
        refine th_n ?_
        refine wp_if hf rfl (fun hb => ?_) (fun hb => ?_)
        · replace h := ifT h hb
          refine wp_skip ?_
          refine th_n ?_
          refine wp_seq ?_
          refine wp_block ?_
          refine wp_seq ?_
          refine wp_reg ?_
          refine st_assign hf rfl rfl (by decide) ?_
          clear hf; intro a ha hf; clear ha
          refine st_nil hf ?_
          refine th_n ?_
          refine wp_block ?_
          obtain ⟨q44, hl, h⟩ := bnd h
          refine wp_loop_pure (f := (f_foghornref21_Free.s4 c0_Length c0_One c0_Two s12)) (s := (least6, less11, (0 : Int))) (fun s a w => ∃ (v27 : Value), Fr 88 a [(1, optr v1 0), (4, .int .i64 q3.1), (6, v27), (11, .bool s.2.1), (12, .int .i64 s12), (13, .int .i64 s.2.2)] ∧ Hp S w0 w (Res.sl (Ek.int .i64) 3 v27 s.1 :: Res.obj 24 v1 [.int .i64 c0_Length, .int .u32 c0_One, .int .u32 c0_Two] :: ow)) (fun q e a w => e = .exit 6 ∧ ∃ (v29 : Value), Fr 88 a [(1, optr v1 0), (4, .int .i64 q3.1), (6, v29), (11, .bool q.2), (12, .int .i64 s12)] ∧ Hp S w0 w (Res.sl (Ek.int .i64) 3 v29 q.1 :: Res.obj 24 v1 [.int .i64 c0_Length, .int .u32 c0_One, .int .u32 c0_Two] :: ow)) ?_ hl ⟨_, hf.sub ⟨rfl, rfl, rfl, rfl, rfl, rfl, trivial⟩, hp⟩ ?_
          · clear hl hf hp
            intro s x a w h hI
            obtain ⟨least6, less11, k13⟩ := s
            obtain ⟨v27, hf, hp⟩ : ∃ (v27 : Value), Fr 88 a [(1, optr v1 0), (4, .int .i64 q3.1), (6, v27), (11, .bool less11), (12, .int .i64 s12), (13, .int .i64 k13)] ∧ Hp S w0 w (Res.sl (Ek.int .i64) 3 v27 least6 :: Res.obj 24 v1 [.int .i64 c0_Length, .int .u32 c0_One, .int .u32 c0_Two] :: ow) := hI
            replace h : f_foghornref21_Free.s4c c0_Length c0_One c0_Two s12 least6 less11 k13 = some x := h
            unfold f_foghornref21_Free.s4c at h
            refine wp_seq ?_
            refine wp_seq ?_
            refine wp_reg ?_
            refine st_move hf rfl rfl (by decide) ?_
            clear hf; intro a ha hf; clear ha
            refine st_ilss hf (by decide) rfl rfl rfl ?_
            clear hf; intro a ha hf; clear ha
            refine st_nil hf ?_
            refine th_n ?_
            refine wp_if hf rfl (fun hb => ?_) (fun hb => ?_)
            · replace h := ifT h hb
              refine wp_skip ?_
              refine th_n ?_
              refine wp_seq ?_
              refine wp_block ?_
              refine wp_seq ?_
              refine wp_reg ?_
              refine st_ldOA (m := 3) (us := [.int .i64 c0_Length, .int .u32 c0_One, .int .u32 c0_Two]) hf (by decide) (by kernel_rfl) rfl rfl (hp.ob (i := 1) rfl) rfl rfl ?_
              clear hf; intro a ha hf; clear ha
              refine st_move hf rfl rfl (by decide) ?_
              clear hf; intro a ha hf; clear ha
              refine st_move hf rfl rfl (by decide) ?_
              clear hf; intro a ha hf; clear ha
              refine st_ieql hf (by decide) rfl rfl rfl ?_
              clear hf; intro a ha hf; clear ha
              obtain ⟨q31, hcall32, h⟩ := bnd h
              refine st_call hf (by decide) Try.func42 rfl rfl rfl rfl rfl (f_foghornref21_Go_c hp _ _ _ _ _ hcall32) ?_
              rintro _ w ⟨rfl, hp0⟩
              clear hp; have hp := hp0; clear hp0
              replace hp : Hp _ _ _ (Res.sl (Ek.int .i64) 3 v27 least6 :: Res.obj 24 v1 [.int .i64 c0_Length, .int .u32 c0_One, .int .u32 c0_Two] :: ow) := hp
              refine ⟨_, rfl, ?_⟩
              clear hf; intro a hf
              refine st_move hf rfl rfl (by decide) ?_
              clear hf; intro a ha hf; clear ha
              refine st_extract hf (by decide) rfl rfl rfl ?_
              clear hf; intro a ha hf; clear ha
              refine st_extract hf (by decide) rfl rfl rfl ?_
              clear hf; intro a ha hf; clear ha
              refine st_extract hf (by decide) rfl rfl rfl ?_
              clear hf; intro a ha hf; clear ha
              refine st_assign hf rfl rfl (by decide) ?_
              clear hf; intro a ha hf; clear ha
              refine st_assign hf rfl rfl (by decide) ?_
              clear hf; intro a ha hf; clear ha
              refine st_assign hf rfl rfl (by decide) ?_
              clear hf; intro a ha hf; clear ha
              refine st_nil hf ?_
              refine th_n ?_
              refine wp_seq ?_
              obtain ⟨S33, hp34, rd35, up36, bk37⟩ := Hp.lendS hp (i := 0) rfl
              have rl38 := rd35
              obtain ⟨hc39, h⟩ := chk h
              obtain ⟨q40, hcall41, h⟩ := bnd h
              refine wp_cutN (fun a w => Fr 88 a [(1, optr v1 0), (4, .int .i64 q3.1), (6, v27), (11, .bool less11), (12, .int .i64 s12), (13, .int .i64 k13), (14, .int .i64 q31.1), (17, .int .i64 (IntKind.i64.wrap ((gt least6 s12) + q40)))] ∧ Hp S w0 w (Res.sl (Ek.int .i64) 3 v27 least6 :: Res.obj 24 v1 [.int .i64 c0_Length, .int .u32 c0_One, .int .u32 c0_Two] :: ow)) ?_ ?_
              · have hp := hp34.same (Same.drew w)
                refine dr_begin' (fun a w => Fr 88 a [(1, optr v1 0), (4, .int .i64 q3.1), (6, v27), (11, .bool less11), (12, .int .i64 s12), (13, .int .i64 k13), (14, .int .i64 q31.1), (17, .int .i64 (IntKind.i64.wrap ((gt least6 s12) + q40)))] ∧ Hp S w0 w (Res.sl (Ek.int .i64) 3 v27 least6 :: Res.obj 24 v1 [.int .i64 c0_Length, .int .u32 c0_One, .int .u32 c0_Two] :: ow)) (fun w' => ∃ l, Hp S33 w w' l) [] (by kernel_rfl) ?_
                refine dr_take 0 (v27) rfl (by kernel_rfl) (by kernel_rfl) (by kernel_rfl) (by kernel_rfl) rfl rfl hf (by decide) rfl (fun w hp => ?_) ⟨_, hp⟩ ?_
                · obtain ⟨_, hp⟩ := hp
                  refine st_move hf rfl rfl (by decide) ?_
                  clear hf; intro a ha hf
                  exact st_nil hf (th_n ⟨ha, rfl⟩)
                clear hf; intro a hf
                refine dr_take 1 (.int .i64 s12) rfl (by kernel_rfl) (by kernel_rfl) (by kernel_rfl) (by kernel_rfl) rfl rfl hf (by decide) rfl (fun w hp => ?_) ⟨_, hp⟩ ?_
                · obtain ⟨_, hp⟩ := hp
                  refine st_move hf rfl rfl (by decide) ?_
                  clear hf; intro a ha hf
                  exact st_nil hf (th_n ⟨ha, rfl⟩)
                clear hf; intro a hf
                refine dr_take 2 (eptr v27 s12 1) rfl (by kernel_rfl) (by kernel_rfl) (by kernel_rfl) (by kernel_rfl) rfl rfl hf (by decide) rfl (fun w hp => ?_) ⟨_, hp⟩ ?_
                · obtain ⟨_, hp⟩ := hp
                  refine st_index (E := (Ek.int .i64)) hf (by decide) Try.underlying39 elt3 rfl rfl rfl (rl38.sl hp) hc39.1 hc39.2 ?_
                  clear hf; intro a ha hf
                  exact st_nil hf (th_n ⟨ha, rfl⟩)
                clear hf; intro a hf
                refine dr_take 3 (.int .i64 (gt least6 s12)) rfl (by kernel_rfl) (by kernel_rfl) (by kernel_rfl) (by kernel_rfl) rfl rfl hf (by decide) rfl (fun w hp => ?_) ⟨_, hp⟩ ?_
                · obtain ⟨_, hp⟩ := hp
                  refine st_ldI hf (by decide) pl3 rfl rfl (rl38.sl hp) hc39.1 hc39.2 ?_
                  clear hf; intro a ha hf
                  exact st_nil hf (th_n ⟨ha, rfl⟩)
                clear hf; intro a hf
                refine dr_take 4 (.bool q31.2.1) rfl (by kernel_rfl) (by kernel_rfl) (by kernel_rfl) (by kernel_rfl) rfl rfl hf (by decide) rfl (fun w hp => ?_) ⟨_, hp⟩ ?_
                · obtain ⟨_, hp⟩ := hp
                  refine st_move hf rfl rfl (by decide) ?_
                  clear hf; intro a ha hf
                  exact st_nil hf (th_n ⟨ha, rfl⟩)
                clear hf; intro a hf
                refine dr_take 5 (.bool q31.2.2) rfl (by kernel_rfl) (by kernel_rfl) (by kernel_rfl) (by kernel_rfl) rfl rfl hf (by decide) rfl (fun w hp => ?_) ⟨_, hp⟩ ?_
                · obtain ⟨_, hp⟩ := hp
                  refine st_move hf rfl rfl (by decide) ?_
                  clear hf; intro a ha hf
                  exact st_nil hf (th_n ⟨ha, rfl⟩)
                clear hf; intro a hf
                refine dr_one 6 rfl (by kernel_rfl) ?_
                refine st_call hf (by decide) Try.func45 rfl rfl rfl rfl rfl (f_foghornref21_count_c hp _ _ hcall41) ?_
                rintro _ w ⟨rfl, hp0⟩
                clear hp; have hp := hp0; clear hp0
                replace hp : Hp _ _ _ (Res.obj 24 v1 [.int .i64 c0_Length, .int .u32 c0_One, .int .u32 c0_Two] :: ow) := hp
                refine ⟨_, rfl, ?_⟩
                clear hf; intro a hf
                refine st_nil hf (th_n ⟨fun _ _ => ⟨_, hp⟩, ?_⟩)
                refine dr_take 7 (.int .i64 (IntKind.i64.wrap ((gt least6 s12) + q40))) rfl (by kernel_rfl) (by kernel_rfl) (by kernel_rfl) (by kernel_rfl) rfl rfl hf (by decide) rfl (fun w hp => ?_) ⟨_, hp⟩ ?_
                · obtain ⟨_, hp⟩ := hp
                  refine st_iadd hf (by decide) rfl rfl rfl ?_
                  clear hf; intro a ha hf
                  exact st_nil hf (th_n ⟨ha, rfl⟩)
                clear hf; intro a hf
                refine dr_take 8 (.int .i64 (IntKind.i64.wrap ((gt least6 s12) + q40))) rfl (by kernel_rfl) (by kernel_rfl) (by kernel_rfl) (by kernel_rfl) rfl rfl hf (by decide) rfl (fun w hp => ?_) ⟨_, hp⟩ ?_
                · obtain ⟨_, hp⟩ := hp
                  refine st_assign hf rfl rfl (by decide) ?_
                  clear hf; intro a ha hf
                  exact st_nil hf (th_n ⟨ha, rfl⟩)
                clear hf; intro a hf
                refine dr_end (by kernel_rfl) ?_ _
                have hp := bk37 _ _ hp
                exact ⟨hf.sub ⟨rfl, rfl, rfl, rfl, rfl, rfl, rfl, rfl, trivial⟩, hp⟩
              rintro a w ⟨hf, hp⟩
              refine th_n ?_
              refine wp_seq ?_
              refine wp_reg ?_
              refine st_move hf rfl rfl (by decide) ?_
              clear hf; intro a ha hf; clear ha
              refine st_move hf rfl rfl (by decide) ?_
              clear hf; intro a ha hf; clear ha
              refine st_move hf rfl rfl (by decide) ?_
              clear hf; intro a ha hf; clear ha
              obtain ⟨hc42, h⟩ := chk h
              refine st_index (E := (Ek.int .i64)) hf (by decide) Try.underlying39 elt3 rfl rfl rfl (hp.sl (i := 0) rfl) hc42.1 hc42.2 ?_
              clear hf; intro a ha hf; clear ha
              refine st_ldI hf (by decide) pl3 rfl rfl (hp.sl (i := 0) rfl) hc42.1 hc42.2 ?_
              clear hf; intro a ha hf; clear ha
              refine st_ilss hf (by decide) rfl rfl rfl ?_
              clear hf; intro a ha hf; clear ha
              refine st_nil hf ?_
              refine th_n ?_
              refine wp_if hf rfl (fun hb => ?_) (fun hb => ?_)
              · replace h := ifT h hb
                refine wp_seq ?_
                refine wp_reg ?_
                refine st_move hf rfl rfl (by decide) ?_
                clear hf; intro a ha hf; clear ha
                refine st_move hf rfl rfl (by decide) ?_
                clear hf; intro a ha hf; clear ha
                refine st_move hf rfl rfl (by decide) ?_
                clear hf; intro a ha hf; clear ha
                obtain ⟨hc43, h⟩ := chk h
                refine st_index (E := (Ek.int .i64)) hf (by decide) Try.underlying39 elt3 rfl rfl rfl (hp.sl (i := 0) rfl) hc43.1 hc43.2 ?_
                clear hf; intro a ha hf; clear ha
                refine st_store (E := (Ek.int .i64)) hf elt3 hp (i := 0) rfl rfl rfl rfl rfl hc43.1 hc43.2 ?_
                clear hf; intro a w hf hp0; clear hp; have hp := hp0; clear hp0
                replace hp : Hp _ _ _ (Res.sl (Ek.int .i64) 3 v27 (least6.set (q31.1).toNat (IntKind.i64.wrap ((gt least6 s12) + q40))) :: Res.obj 24 v1 [.int .i64 c0_Length, .int .u32 c0_One, .int .u32 c0_Two] :: ow) := hp
                refine st_nil hf ?_
                refine th_n ?_
                refine wp_reg ?_
                refine st_assign hf rfl rfl (by decide) ?_
                clear hf; intro a ha hf; clear ha
                refine st_nil hf ?_
                refine ib_n ?_
                refine th_n ?_
                refine wp_reg ?_
                refine st_move hf rfl rfl (by decide) ?_
                clear hf; intro a ha hf; clear ha
                refine st_iadd hf (by decide) rfl rfl rfl ?_
                clear hf; intro a ha hf; clear ha
                refine st_assign hf rfl rfl (by decide) ?_
                clear hf; intro a ha hf; clear ha
                refine st_nil hf ?_
                obtain rfl := Option.some.inj h
                exact rnd_l ⟨_, hf.sub ⟨rfl, rfl, rfl, rfl, rfl, rfl, trivial⟩, hp⟩
              replace h := ifF h hb
              refine wp_skip ?_
              refine ib_n ?_
              refine th_n ?_
              refine wp_reg ?_
              refine st_move hf rfl rfl (by decide) ?_
              clear hf; intro a ha hf; clear ha
              refine st_iadd hf (by decide) rfl rfl rfl ?_
              clear hf; intro a ha hf; clear ha
              refine st_assign hf rfl rfl (by decide) ?_
              clear hf; intro a ha hf; clear ha
              refine st_nil hf ?_
              obtain rfl := Option.some.inj h
              exact rnd_l ⟨_, hf.sub ⟨rfl, rfl, rfl, rfl, rfl, rfl, trivial⟩, hp⟩
            replace h := ifF h hb
            refine wp_exit ?_
            refine th_e ?_
            obtain rfl := Option.some.inj h
            exact rnd_r (by simp) ⟨rfl, _, hf.sub ⟨rfl, rfl, rfl, rfl, rfl, trivial⟩, hp⟩
          clear hl hf hp
          intro e a w hne hO
          obtain ⟨rfl, v29, hf, hp⟩ := hO
          refine ib_same ?_
          refine ib_n ?_
          refine th_n ?_
          refine wp_reg ?_
          refine st_move hf rfl rfl (by decide) ?_
          clear hf; intro a ha hf; clear ha
          refine st_iadd hf (by decide) rfl rfl rfl ?_
          clear hf; intro a ha hf; clear ha
          refine st_assign hf rfl rfl (by decide) ?_
          clear hf; intro a ha hf; clear ha
          refine st_nil hf ?_
          obtain rfl := Option.some.inj h
          exact rnd_l ⟨_, hf.sub ⟨rfl, rfl, rfl, rfl, rfl, trivial⟩, hp⟩
        replace h := ifF h hb
        refine wp_exit ?_
        refine th_e ?_
        obtain rfl := Option.some.inj h
        exact rnd_r (by simp) ⟨rfl, _, hf.sub ⟨rfl, rfl, rfl, rfl, trivial⟩, hp⟩
      clear hl hf hp
      intro e a w hne hO
      obtain ⟨rfl, v25, hf, hp⟩ := hO
      refine ib_same ?_
      refine ib_n ?_
      obtain rfl := Option.some.inj h
      exact rnd_l ⟨_, hf.sub ⟨rfl, rfl, rfl, rfl, trivial⟩, hp⟩
    replace h := ifF h hb
    refine wp_exit ?_
    refine th_e ?_
    obtain rfl := Option.some.inj h
    have hp : Hp _ _ _ (Res.sl (Ek.int .i64) 3 v19 least6 :: ow) := Hp.sel (pre := [Res.sl (Ek.int .i64) 3 v19 least6, Res.obj 24 v1 [.int .i64 c0_Length, .int .u32 c0_One, .int .u32 c0_Two]]) (tail := ow) (rs' := [Res.sl (Ek.int .i64) 3 v19 least6]) hp [0] (by decide) (by simp) rfl
    exact rnd_r (by simp) ⟨rfl, _, hf.sub ⟨rfl, trivial⟩, hp⟩
  clear hl hf hp
  intro e a w hne hO
  obtain ⟨rfl, v21, hf, hp⟩ := hO
  refine ib_same ?_
  refine th_n ?_
  refine wp_seq ?_
  refine wp_reg ?_
  refine st_move hf rfl rfl (by decide) ?_
  clear hf; intro a ha hf; clear ha
  obtain ⟨hc47, h⟩ := chk h
  refine st_index (E := (Ek.int .i64)) hf (by decide) Try.underlying39 elt3 rfl rfl rfl (hp.sl (i := 0) rfl) hc47.1 hc47.2 ?_
  clear hf; intro a ha hf; clear ha
  refine st_ldI hf (by decide) pl3 rfl rfl (hp.sl (i := 0) rfl) hc47.1 hc47.2 ?_
  clear hf; intro a ha hf; clear ha
  refine st_assign hf rfl rfl (by decide) ?_
  clear hf; intro a ha hf; clear ha
  refine st_assign hf rfl rfl (by decide) ?_
  clear hf; intro a ha hf; clear ha
  refine st_nil hf ?_
  refine th_n ?_
  refine wp_ret ?_
  obtain rfl := Option.some.inj h
  have hp : Hp _ _ _ (ow) := Hp.sel (pre := [Res.sl (Ek.int .i64) 3 v21 q46]) (tail := ow) (rs' := []) hp [] (by decide) (by simp) rfl
  exact ⟨rfl, ⟨hf.sub ⟨rfl, rfl, trivial⟩, hp⟩⟩

noncomputable def f_trellis_Code_Slips.s2c (b6 : Int) (a5 : Int) : Option (Int ⊕ Int) := ((f_math_bits_Len32 a5).bind fun q11 => ((f_math_bits_Len32 b6).bind fun q13 => (if (decide (q13 ≤ q11)) = true then ((f_math_bits_Len32 a5).bind fun q15 => ((f_math_bits_Len32 b6).bind fun q17 => (if 0 ≤ (IntKind.i64.wrap (q15 - q17)) then (some (Sum.inl (ixor .u32 a5 (ishl .u32 b6 (IntKind.i64.wrap (q15 - q17)))))) else none))) else (some (Sum.inr a5)))))
noncomputable def f_trellis_Code_Slips.s2 (b6 : Int) (s : Int) : Option (Int ⊕ Int) := f_trellis_Code_Slips.s2c b6 s
noncomputable def f_trellis_Code_Slips.s1c (a5 : Int) (b6 : Int) : Option ((Int × Int) ⊕ Int) := (if (decide ((0 : Int) < b6)) = true then ((loop (f_trellis_Code_Slips.s2 b6) a5).bind (fun q20 => (some (Sum.inl (b6, q20))))) else (some (Sum.inr a5)))
noncomputable def f_trellis_Code_Slips.s1  (s : (Int × Int)) : Option ((Int × Int) ⊕ Int) := f_trellis_Code_Slips.s1c s.1 s.2
noncomputable def f_trellis_Code_Slips (c0_Length : Int) (c0_One : Int) (c0_Two : Int) : Option (Bool × Int) := ((f_trellis_Code_Check c0_Length c0_One c0_Two).bind fun q3 => (if (q3 != (0 : Int)) = true then (some (false, q3)) else ((loop f_trellis_Code_Slips.s1 (c0_One, c0_Two)).bind (fun q21 => ((f_math_bits_OnesCount32 q21).bind fun q22 => (some ((decide ((1 : Int) < q22)), (0 : Int))))))))
theorem f_trellis_Code_Slips_c {S : Nat → Prop} {w0 w : World} {ow : List Res} (hp : Hp S w0 w ow) (c0_Length : Int) (c0_One : Int) (c0_Two : Int) {r : (Bool × Int)} (h : f_trellis_Code_Slips c0_Length c0_One c0_Two = some r) :
    Calls Try.prog 28 #[.agg #[.int .i64 c0_Length, .int .u32 c0_One, .int .u32 c0_Two]] w (fun e w' => e = .returned (.tuple #[.bool r.1, .int .i64 r.2]) ∧ Hp S w0 w' (ow)) := by
  unfold f_trellis_Code_Slips at h
  refine enter (n := 37) (args := [.agg #[.int .i64 c0_Length, .int .u32 c0_One, .int .u32 c0_Two]]) Try.func28 rfl rfl (Nat.le_of_ble_eq_true rfl) fun a hf => ?_
  replace hf : Fr 37 a [(0, .agg #[.int .i64 c0_Length, .int .u32 c0_One, .int .u32 c0_Two])] := hf
  refine wp_mono (Q := fun e a w => e = .ret ∧ Fr 37 a [(2, .bool r.1), (3, .int .i64 r.2)] ∧ Hp S w0 w (ow)) ?_ ?_
  rotate_left
  · rintro e a w ⟨rfl, hf, hp⟩
    exact ret2 hf rfl rfl rfl ⟨rfl, hp⟩
  refine wp_seq ?_
  refine wp_reg ?_
  refine st_boxO (cs := [.int .i64 c0_Length, .int .u32 c0_One, .int .u32 c0_Two]) hf (by decide) hp rfl rfl rfl ?_
  clear hf; intro a w v1 hf hp0; clear hp; have hp := hp0; clear hp0
  replace hp : Hp _ _ _ (Res.obj 34 v1 [.int .i64 c0_Length, .int .u32 c0_One, .int .u32 c0_Two] :: ow) := hp
  refine st_assign hf rfl rfl (by decide) ?_
  clear hf; intro a ha hf; clear ha
  refine st_assign hf rfl rfl (by decide) ?_
  clear hf; intro a ha hf; clear ha
  refine st_nil hf ?_
  refine th_n ?_
  refine wp_seq ?_
  refine wp_seq ?_
  refine wp_reg ?_
  refine st_ldOA (m := 3) (us := [.int .i64 c0_Length, .int .u32 c0_One, .int .u32 c0_Two]) hf (by decide) (by kernel_rfl) rfl rfl (hp.ob (i := 0) rfl) rfl rfl ?_
  clear hf; intro a ha hf; clear ha
  obtain ⟨q3, hcall4, h⟩ := bnd h
  refine st_call hf (by decide) Try.func26 rfl rfl rfl rfl rfl (f_trellis_Code_Check_c hp _ _ _ hcall4) ?_
  rintro _ w ⟨rfl, hp0⟩
  clear hp; have hp := hp0; clear hp0
  replace hp : Hp _ _ _ (Res.obj 34 v1 [.int .i64 c0_Length, .int .u32 c0_One, .int .u32 c0_Two] :: ow) := hp
  refine ⟨_, rfl, ?_⟩
  clear hf; intro a hf
  refine st_assign hf rfl rfl (by decide) ?_
  clear hf; intro a ha hf; clear ha
  refine st_nil hf ?_
  refine th_n ?_
  refine wp_seq ?_
  refine wp_reg ?_
  refine st_move hf rfl rfl (by decide) ?_
  clear hf; intro a ha hf; clear ha
  refine st_ineq hf (by decide) rfl rfl rfl ?_
  clear hf; intro a ha hf; clear ha
  refine st_nil hf ?_
  refine th_n ?_
  refine wp_if hf rfl (fun hb => ?_) (fun hb => ?_)
  · replace h := ifT h hb
    refine wp_seq ?_
    refine wp_reg ?_
    refine st_move hf rfl rfl (by decide) ?_
    clear hf; intro a ha hf; clear ha
    refine st_assign hf rfl rfl (by decide) ?_
    clear hf; intro a ha hf; clear ha
    refine st_assign hf rfl rfl (by decide) ?_
    clear hf; intro a ha hf; clear ha
    refine st_nil hf ?_
    refine th_n ?_
    refine wp_ret ?_
    refine th_r ?_
    obtain rfl := Option.some.inj h
    have hp : Hp _ _ _ (ow) := Hp.sel (pre := [Res.obj 34 v1 [.int .i64 c0_Length, .int .u32 c0_One, .int .u32 c0_Two]]) (tail := ow) (rs' := []) hp [] (by decide) (by simp) rfl
    exact ⟨rfl, ⟨hf.sub ⟨rfl, rfl, trivial⟩, hp⟩⟩
  replace h := ifF h hb
  refine wp_skip ?_
  refine th_n ?_
  refine wp_seq ?_
  obtain ⟨S5, hp6, rd7, up8, bk9⟩ := Hp.lendO hp (i := 0) rfl
  have rl10 := rd7
  refine wp_cutN (fun a w => Fr 37 a [(5, .int .u32 c0_One), (6, .int .u32 c0_Two)] ∧ Hp S w0 w (Res.obj 34 v1 [.int .i64 c0_Length, .int .u32 c0_One, .int .u32 c0_Two] :: ow)) ?_ ?_
  · have hp := hp6.same (Same.drew w)
    refine dr_begin' (fun a w => Fr 37 a [(5, .int .u32 c0_One), (6, .int .u32 c0_Two)] ∧ Hp S w0 w (Res.obj 34 v1 [.int .i64 c0_Length, .int .u32 c0_One, .int .u32 c0_Two] :: ow)) (fun w' => ∃ l, Hp S5 w w' l) [] (by kernel_rfl) ?_
    refine dr_take 0 (optr v1 1) rfl (by kernel_rfl) (by kernel_rfl) (by kernel_rfl) (by kernel_rfl) rfl rfl hf (by decide) rfl (fun w hp => ?_) ⟨_, hp⟩ ?_
    · obtain ⟨_, hp⟩ := hp
      refine st_fa (o' := 1) hf (by decide) (off := 1) (sz := 1) (by kernel_rfl) (by decide) rfl rfl (rl10.ob hp) rfl ?_
      clear hf; intro a ha hf
      exact st_nil hf (th_n ⟨ha, rfl⟩)
    clear hf; intro a hf
    refine dr_take 1 (.int .u32 c0_One) rfl (by kernel_rfl) (by kernel_rfl) (by kernel_rfl) (by kernel_rfl) rfl rfl hf (by decide) rfl (fun w hp => ?_) ⟨_, hp⟩ ?_
    · obtain ⟨_, hp⟩ := hp
      refine st_ldO (u := .int .u32 c0_One) hf (by decide) pl22 rfl rfl (rl10.ob hp) rfl ?_
      clear hf; intro a ha hf
      exact st_nil hf (th_n ⟨ha, rfl⟩)
    clear hf; intro a hf
    refine dr_take 2 (optr v1 2) rfl (by kernel_rfl) (by kernel_rfl) (by kernel_rfl) (by kernel_rfl) rfl rfl hf (by decide) rfl (fun w hp => ?_) ⟨_, hp⟩ ?_
    · obtain ⟨_, hp⟩ := hp
      refine st_fa (o' := 2) hf (by decide) (off := 2) (sz := 1) (by kernel_rfl) (by decide) rfl rfl (rl10.ob hp) rfl ?_
      clear hf; intro a ha hf
      exact st_nil hf (th_n ⟨ha, rfl⟩)
    clear hf; intro a hf
    refine dr_take 3 (.int .u32 c0_Two) rfl (by kernel_rfl) (by kernel_rfl) (by kernel_rfl) (by kernel_rfl) rfl rfl hf (by decide) rfl (fun w hp => ?_) ⟨_, hp⟩ ?_
    · obtain ⟨_, hp⟩ := hp
      refine st_ldO (u := .int .u32 c0_Two) hf (by decide) pl22 rfl rfl (rl10.ob hp) rfl ?_
      clear hf; intro a ha hf
      exact st_nil hf (th_n ⟨ha, rfl⟩)
    clear hf; intro a hf
    refine dr_take 4 (.int .u32 c0_One) rfl (by kernel_rfl) (by kernel_rfl) (by kernel_rfl) (by kernel_rfl) rfl rfl hf (by decide) rfl (fun w hp => ?_) ⟨_, hp⟩ ?_
    · obtain ⟨_, hp⟩ := hp
      refine st_assign hf rfl rfl (by decide) ?_
      clear hf; intro a ha hf
      exact st_nil hf (th_n ⟨ha, rfl⟩)
    clear hf; intro a hf
    refine dr_take 5 (.int .u32 c0_Two) rfl (by kernel_rfl) (by kernel_rfl) (by kernel_rfl) (by kernel_rfl) rfl rfl hf (by decide) rfl (fun w hp => ?_) ⟨_, hp⟩ ?_
    · obtain ⟨_, hp⟩ := hp
      refine st_assign hf rfl rfl (by decide) ?_
      clear hf; intro a ha hf
      exact st_nil hf (th_n ⟨ha, rfl⟩)
    clear hf; intro a hf
    refine dr_end (by kernel_rfl) ?_ _
    have hp := bk9 _ _ hp
    exact ⟨hf.sub ⟨rfl, rfl, trivial⟩, hp⟩
  rintro a w ⟨hf, hp⟩
  refine th_n ?_
  refine wp_seq ?_
  refine wp_block ?_
  obtain ⟨q21, hl, h⟩ := bnd h
  have hp : Hp _ _ _ (ow) := Hp.sel (pre := [Res.obj 34 v1 [.int .i64 c0_Length, .int .u32 c0_One, .int .u32 c0_Two]]) (tail := ow) (rs' := []) hp [] (by decide) (by simp) rfl
  refine wp_loop_pure (f := f_trellis_Code_Slips.s1) (s := (c0_One, c0_Two)) (fun s a w => Fr 37 a [(5, .int .u32 s.1), (6, .int .u32 s.2)] ∧ Hp S w0 w (ow)) (fun q e a w => e = .exit 0 ∧ Fr 37 a [(5, .int .u32 q)] ∧ Hp S w0 w (ow)) ?_ hl ⟨hf.sub ⟨rfl, rfl, trivial⟩, hp⟩ ?_
  · clear hl hf hp
    intro s x a w h hI
    obtain ⟨a5, b6⟩ := s
    obtain ⟨hf, hp⟩ : Fr 37 a [(5, .int .u32 a5), (6, .int .u32 b6)] ∧ Hp S w0 w (ow) := hI
    replace h : f_trellis_Code_Slips.s1c a5 b6 = some x := h
    unfold f_trellis_Code_Slips.s1c at h
    refine wp_seq ?_
    refine wp_seq ?_
    refine wp_reg ?_
    refine st_move hf rfl rfl (by decide) ?_
    clear hf; intro a ha hf; clear ha
    refine st_igtr hf (by decide) rfl rfl rfl ?_
    clear hf; intro a ha hf; clear ha
    refine st_nil hf ?_
    refine th_n ?_
    refine wp_if hf rfl (fun hb => ?_) (fun hb => ?_)
    · replace h := ifT h hb
      refine wp_skip ?_
      refine th_n ?_
      refine wp_block ?_
      refine wp_seq ?_
      refine wp_block ?_
      obtain ⟨q20, hl, h⟩ := bnd h
      refine wp_loop_pure (f := (f_trellis_Code_Slips.s2 b6)) (s := a5) (fun s a w => Fr 37 a [(5, .int .u32 s), (6, .int .u32 b6)] ∧ Hp S w0 w (ow)) (fun q e a w => e = .exit 2 ∧ Fr 37 a [(5, .int .u32 q), (6, .int .u32 b6)] ∧ Hp S w0 w (ow)) ?_ hl ⟨hf.sub ⟨rfl, rfl, trivial⟩, hp⟩ ?_
      · clear hl hf hp
        intro s x a w h hI
        obtain ⟨a5, hs⟩ : ∃ z, z = s := ⟨s, rfl⟩; subst hs
        obtain ⟨hf, hp⟩ : Fr 37 a [(5, .int .u32 a5), (6, .int .u32 b6)] ∧ Hp S w0 w (ow) := hI
        replace h : f_trellis_Code_Slips.s2c b6 a5 = some x := h
        unfold f_trellis_Code_Slips.s2c at h
        refine wp_seq ?_
        refine wp_seq ?_
        refine wp_reg ?_
        refine st_move hf rfl rfl (by decide) ?_
        clear hf; intro a ha hf; clear ha
        obtain ⟨q11, hcall12, h⟩ := bnd h
        refine st_call hf (by decide) Try.func44 rfl rfl rfl rfl rfl (f_math_bits_Len32_c hp _ hcall12) ?_
        rintro _ w ⟨rfl, hp0⟩
        clear hp; have hp := hp0; clear hp0
        replace hp : Hp _ _ _ (ow) := hp
        refine ⟨_, rfl, ?_⟩
        clear hf; intro a hf
        refine st_move hf rfl rfl (by decide) ?_
        clear hf; intro a ha hf; clear ha
        obtain ⟨q13, hcall14, h⟩ := bnd h
        refine st_call hf (by decide) Try.func44 rfl rfl rfl rfl rfl (f_math_bits_Len32_c hp _ hcall14) ?_
        rintro _ w ⟨rfl, hp0⟩
        clear hp; have hp := hp0; clear hp0
        replace hp : Hp _ _ _ (ow) := hp
        refine ⟨_, rfl, ?_⟩
        clear hf; intro a hf
        refine st_igeq hf (by decide) rfl rfl rfl ?_
        clear hf; intro a ha hf; clear ha
        refine st_nil hf ?_
        refine th_n ?_
        refine wp_if hf rfl (fun hb => ?_) (fun hb => ?_)
        · replace h := ifT h hb
          refine wp_skip ?_
          refine th_n ?_
          refine wp_block ?_
          refine wp_reg ?_
          refine st_move hf rfl rfl (by decide) ?_
          clear hf; intro a ha hf; clear ha
          refine st_move hf rfl rfl (by decide) ?_
          clear hf; intro a ha hf; clear ha
          refine st_move hf rfl rfl (by decide) ?_
          clear hf; intro a ha hf; clear ha
          obtain ⟨q15, hcall16, h⟩ := bnd h
          refine st_call hf (by decide) Try.func44 rfl rfl rfl rfl rfl (f_math_bits_Len32_c hp _ hcall16) ?_
          rintro _ w ⟨rfl, hp0⟩
          clear hp; have hp := hp0; clear hp0
          replace hp : Hp _ _ _ (ow) := hp
          refine ⟨_, rfl, ?_⟩
          clear hf; intro a hf
          refine st_move hf rfl rfl (by decide) ?_
          clear hf; intro a ha hf; clear ha
          obtain ⟨q17, hcall18, h⟩ := bnd h
          refine st_call hf (by decide) Try.func44 rfl rfl rfl rfl rfl (f_math_bits_Len32_c hp _ hcall18) ?_
          rintro _ w ⟨rfl, hp0⟩
          clear hp; have hp := hp0; clear hp0
          replace hp : Hp _ _ _ (ow) := hp
          refine ⟨_, rfl, ?_⟩
          clear hf; intro a hf
          refine st_isub hf (by decide) rfl rfl rfl ?_
          clear hf; intro a ha hf; clear ha
          obtain ⟨hc19, h⟩ := chk h
          refine st_ishl hf (by decide) rfl rfl rfl hc19 ?_
          clear hf; intro a ha hf; clear ha
          refine st_ixor hf (by decide) rfl rfl rfl ?_
          clear hf; intro a ha hf; clear ha
          refine st_assign hf rfl rfl (by decide) ?_
          clear hf; intro a ha hf; clear ha
          refine st_nil hf ?_
          refine ib_n ?_
          obtain rfl := Option.some.inj h
          exact rnd_l ⟨hf.sub ⟨rfl, rfl, trivial⟩, hp⟩
        replace h := ifF h hb
        refine wp_exit ?_
        refine th_e ?_
        obtain rfl := Option.some.inj h
        exact rnd_r (by simp) ⟨rfl, hf.sub ⟨rfl, rfl, trivial⟩, hp⟩
      clear hl hf hp
      intro e a w hne hO
      obtain ⟨rfl, hf, hp⟩ := hO
      refine ib_same ?_
      refine th_n ?_
      refine wp_reg ?_
      refine st_move hf rfl rfl (by decide) ?_
      clear hf; intro a ha hf; clear ha
      refine st_move hf rfl rfl (by decide) ?_
      clear hf; intro a ha hf; clear ha
      refine st_assign hf rfl rfl (by decide) ?_
      clear hf; intro a ha hf; clear ha
      refine st_assign hf rfl rfl (by decide) ?_
      clear hf; intro a ha hf; clear ha
      refine st_nil hf ?_
      refine ib_n ?_
      obtain rfl := Option.some.inj h
      exact rnd_l ⟨hf.sub ⟨rfl, rfl, trivial⟩, hp⟩
    replace h := ifF h hb
    refine wp_exit ?_
    refine th_e ?_
    obtain rfl := Option.some.inj h
    exact rnd_r (by simp) ⟨rfl, hf.sub ⟨rfl, trivial⟩, hp⟩
  clear hl hf hp
  intro e a w hne hO
  obtain ⟨rfl, hf, hp⟩ := hO
  refine ib_same ?_
  refine th_n ?_
  refine wp_seq ?_
  refine wp_reg ?_
  refine st_move hf rfl rfl (by decide) ?_
  clear hf; intro a ha hf; clear ha
  obtain ⟨q22, hcall23, h⟩ := bnd h
  refine st_call hf (by decide) Try.func46 rfl rfl rfl rfl rfl (f_math_bits_OnesCount32_c hp _ hcall23) ?_
  rintro _ w ⟨rfl, hp0⟩
  clear hp; have hp := hp0; clear hp0
  replace hp : Hp _ _ _ (ow) := hp
  refine ⟨_, rfl, ?_⟩
  clear hf; intro a hf
  refine st_igtr hf (by decide) rfl rfl rfl ?_
  clear hf; intro a ha hf; clear ha
  refine st_assign hf rfl rfl (by decide) ?_
  clear hf; intro a ha hf; clear ha
  refine st_assign hf rfl rfl (by decide) ?_
  clear hf; intro a ha hf; clear ha
  refine st_nil hf ?_
  refine th_n ?_
  refine wp_ret ?_
  obtain rfl := Option.some.inj h
  exact ⟨rfl, ⟨hf.sub ⟨rfl, rfl, trivial⟩, hp⟩⟩

noncomputable def f_foghornref21_top.s1c (d0 : Int) (n3 : Int) (i4 : Int) : Option ((Int × Int) ⊕ Int) := (if (decide (i4 < (32 : Int))) = true then (if 0 ≤ i4 then (if ((iand .u32 (ishr .u32 d0 i4) (1 : Int)) == (1 : Int)) = true then (some (Sum.inl (i4, (IntKind.i64.wrap (i4 + (1 : Int)))))) else (some (Sum.inl (n3, (IntKind.i64.wrap (i4 + (1 : Int))))))) else none) else (some (Sum.inr n3)))
noncomputable def f_foghornref21_top.s1 (d0 : Int) (s : (Int × Int)) : Option ((Int × Int) ⊕ Int) := f_foghornref21_top.s1c d0 s.1 s.2
noncomputable def f_foghornref21_top (d0 : Int) : Option Int := ((loop (f_foghornref21_top.s1 d0) ((0 : Int), (0 : Int))).bind (fun q2 => (some q2)))
theorem f_foghornref21_top_c {S : Nat → Prop} {w0 w : World} {ow : List Res} (hp : Hp S w0 w ow) (d0 : Int) {r : Int} (h : f_foghornref21_top d0 = some r) :
    Calls Try.prog 51 #[.int .u32 d0] w (fun e w' => e = .returned (.int .i64 r) ∧ Hp S w0 w' (ow)) := by
  unfold f_foghornref21_top at h
  refine enter (n := 16) (args := [.int .u32 d0]) Try.func51 rfl rfl (Nat.le_of_ble_eq_true rfl) fun a hf => ?_
  replace hf : Fr 16 a [(0, .int .u32 d0)] := hf
  refine wp_mono (Q := fun e a w => e = .ret ∧ Fr 16 a [(2, .int .i64 r)] ∧ Hp S w0 w (ow)) ?_ ?_
  rotate_left
  · rintro e a w ⟨rfl, hf, hp⟩
    exact ret1 hf rfl rfl ⟨rfl, hp⟩
  refine wp_seq ?_
  refine wp_reg ?_
  refine st_assign hf rfl rfl (by decide) ?_
  clear hf; intro a ha hf; clear ha
  refine st_nil hf ?_
  refine th_n ?_
  refine wp_seq ?_
  refine wp_reg ?_
  refine st_assign hf rfl rfl (by decide) ?_
  clear hf; intro a ha hf; clear ha
  refine st_nil hf ?_
  refine th_n ?_
  refine wp_seq ?_
  refine wp_seq ?_
  refine wp_reg ?_
  refine st_assign hf rfl rfl (by decide) ?_
  clear hf; intro a ha hf; clear ha
  refine st_nil hf ?_
  refine th_n ?_
  refine wp_block ?_
  obtain ⟨q2, hl, h⟩ := bnd h
  refine wp_loop_pure (f := (f_foghornref21_top.s1 d0)) (s := ((0 : Int), (0 : Int))) (fun s a w => Fr 16 a [(0, .int .u32 d0), (3, .int .i64 s.1), (4, .int .i64 s.2)] ∧ Hp S w0 w (ow)) (fun q e a w => e = .exit 0 ∧ Fr 16 a [(3, .int .i64 q)] ∧ Hp S w0 w (ow)) ?_ hl ⟨hf.sub ⟨rfl, rfl, rfl, trivial⟩, hp⟩ ?_
  · clear hl hf hp
    intro s x a w h hI
    obtain ⟨n3, i4⟩ := s
    obtain ⟨hf, hp⟩ : Fr 16 a [(0, .int .u32 d0), (3, .int .i64 n3), (4, .int .i64 i4)] ∧ Hp S w0 w (ow) := hI
    replace h : f_foghornref21_top.s1c d0 n3 i4 = some x := h
    unfold f_foghornref21_top.s1c at h
    refine wp_seq ?_
    refine wp_seq ?_
    refine wp_reg ?_
    refine st_move hf rfl rfl (by decide) ?_
    clear hf; intro a ha hf; clear ha
    refine st_ilss hf (by decide) rfl rfl rfl ?_
    clear hf; intro a ha hf; clear ha
    refine st_nil hf ?_
    refine th_n ?_
    refine wp_if hf rfl (fun hb => ?_) (fun hb => ?_)
    · replace h := ifT h hb
      refine wp_skip ?_
      refine th_n ?_
      refine wp_seq ?_
      refine wp_block ?_
      refine wp_seq ?_
      refine wp_reg ?_
      refine st_move hf rfl rfl (by decide) ?_
      clear hf; intro a ha hf; clear ha
      refine st_move hf rfl rfl (by decide) ?_
      clear hf; intro a ha hf; clear ha
      obtain ⟨hc1, h⟩ := chk h
      refine st_ishr hf (by decide) rfl rfl rfl hc1 ?_
      clear hf; intro a ha hf; clear ha
      refine st_iand hf (by decide) rfl rfl rfl ?_
      clear hf; intro a ha hf; clear ha
      refine st_ieql hf (by decide) rfl rfl rfl ?_
      clear hf; intro a ha hf; clear ha
      refine st_nil hf ?_
      refine th_n ?_
      refine wp_if hf rfl (fun hb => ?_) (fun hb => ?_)
      · replace h := ifT h hb
        refine wp_reg ?_
        refine st_move hf rfl rfl (by decide) ?_
        clear hf; intro a ha hf; clear ha
        refine st_assign hf rfl rfl (by decide) ?_
        clear hf; intro a ha hf; clear ha
        refine st_nil hf ?_
        refine ib_n ?_
        refine th_n ?_
        refine wp_reg ?_
        refine st_move hf rfl rfl (by decide) ?_
        clear hf; intro a ha hf; clear ha
        refine st_iadd hf (by decide) rfl rfl rfl ?_
        clear hf; intro a ha hf; clear ha
        refine st_assign hf rfl rfl (by decide) ?_
        clear hf; intro a ha hf; clear ha
        refine st_nil hf ?_
        obtain rfl := Option.some.inj h
        exact rnd_l ⟨hf.sub ⟨rfl, rfl, rfl, trivial⟩, hp⟩
      replace h := ifF h hb
      refine wp_skip ?_
      refine ib_n ?_
      refine th_n ?_
      refine wp_reg ?_
      refine st_move hf rfl rfl (by decide) ?_
      clear hf; intro a ha hf; clear ha
      refine st_iadd hf (by decide) rfl rfl rfl ?_
      clear hf; intro a ha hf; clear ha
      refine st_assign hf rfl rfl (by decide) ?_
      clear hf; intro a ha hf; clear ha
      refine st_nil hf ?_
      obtain rfl := Option.some.inj h
      exact rnd_l ⟨hf.sub ⟨rfl, rfl, rfl, trivial⟩, hp⟩
    replace h := ifF h hb
    refine wp_exit ?_
    refine th_e ?_
    obtain rfl := Option.some.inj h
    exact rnd_r (by simp) ⟨rfl, hf.sub ⟨rfl, trivial⟩, hp⟩
  clear hl hf hp
  intro e a w hne hO
  obtain ⟨rfl, hf, hp⟩ := hO
  refine ib_same ?_
  refine th_n ?_
  refine wp_seq ?_
  refine wp_reg ?_
  refine st_move hf rfl rfl (by decide) ?_
  clear hf; intro a ha hf; clear ha
  refine st_assign hf rfl rfl (by decide) ?_
  clear hf; intro a ha hf; clear ha
  refine st_nil hf ?_
  refine th_n ?_
  refine wp_ret ?_
  obtain rfl := Option.some.inj h
  exact ⟨rfl, ⟨hf.sub ⟨rfl, trivial⟩, hp⟩⟩

noncomputable def f_foghornref21_divides.s1c (d0 : Int) (p1 : Int) (i5 : Int) : Option ((Int × Int) ⊕ Int) := (if (decide ((0 : Int) ≤ i5)) = true then ((f_foghornref21_top d0).bind fun q1 => ((if (decide (q1 ≤ i5)) = true then (if 0 ≤ i5 then (some ((iand .u32 (ishr .u32 p1 i5) (1 : Int)) == (1 : Int))) else none) else (some false)).bind fun z5 => (if z5 = true then ((f_foghornref21_top d0).bind fun q7 => (if 0 ≤ (IntKind.i64.wrap (i5 - q7)) then (some (Sum.inl ((ixor .u32 p1 (ishl .u32 d0 (IntKind.i64.wrap (i5 - q7)))), (IntKind.i64.wrap (i5 - (1 : Int)))))) else none)) else (some (Sum.inl (p1, (IntKind.i64.wrap (i5 - (1 : Int))))))))) else (some (Sum.inr p1)))
noncomputable def f_foghornref21_divides.s1 (d0 : Int) (s : (Int × Int)) : Option ((Int × Int) ⊕ Int) := f_foghornref21_divides.s1c d0 s.1 s.2
noncomputable def f_foghornref21_divides (d0 : Int) (p1 : Int) : Option Bool := ((loop (f_foghornref21_divides.s1 d0) (p1, (31 : Int))).bind (fun q10 => (some (q10 == (0 : Int)))))
theorem f_foghornref21_divides_c {S : Nat → Prop} {w0 w : World} {ow : List Res} (hp : Hp S w0 w ow) (d0 : Int) (p1 : Int) {r : Bool} (h : f_foghornref21_divides d0 p1 = some r) :
    Calls Try.prog 47 #[.int .u32 d0, .int .u32 p1] w (fun e w' => e = .returned (.bool r) ∧ Hp S w0 w' (ow)) := by
  unfold f_foghornref21_divides at h
  refine enter (n := 31) (args := [.int .u32 d0, .int .u32 p1]) Try.func47 rfl rfl (Nat.le_of_ble_eq_true rfl) fun a hf => ?_
  replace hf : Fr 31 a [(0, .int .u32 d0), (1, .int .u32 p1)] := hf
  refine wp_mono (Q := fun e a w => e = .ret ∧ Fr 31 a [(4, .bool r)] ∧ Hp S w0 w (ow)) ?_ ?_
  rotate_left
  · rintro e a w ⟨rfl, hf, hp⟩
    exact ret1 hf rfl rfl ⟨rfl, hp⟩
  refine wp_seq ?_
  refine wp_reg ?_
  refine st_assign hf rfl rfl (by decide) ?_
  clear hf; intro a ha hf; clear ha
  refine st_nil hf ?_
  refine th_n ?_
  refine wp_seq ?_
  refine wp_seq ?_
  refine wp_reg ?_
  refine st_assign hf rfl rfl (by decide) ?_
  clear hf; intro a ha hf; clear ha
  refine st_nil hf ?_
  refine th_n ?_
  refine wp_block ?_
  obtain ⟨q10, hl, h⟩ := bnd h
  refine wp_loop_pure (f := (f_foghornref21_divides.s1 d0)) (s := (p1, (31 : Int))) (fun s a w => Fr 31 a [(0, .int .u32 d0), (1, .int .u32 s.1), (5, .int .i64 s.2)] ∧ Hp S w0 w (ow)) (fun q e a w => e = .exit 0 ∧ Fr 31 a [(1, .int .u32 q)] ∧ Hp S w0 w (ow)) ?_ hl ⟨hf.sub ⟨rfl, rfl, rfl, trivial⟩, hp⟩ ?_
  · clear hl hf hp
    intro s x a w h hI
    obtain ⟨p1, i5⟩ := s
    obtain ⟨hf, hp⟩ : Fr 31 a [(0, .int .u32 d0), (1, .int .u32 p1), (5, .int .i64 i5)] ∧ Hp S w0 w (ow) := hI
    replace h : f_foghornref21_divides.s1c d0 p1 i5 = some x := h
    unfold f_foghornref21_divides.s1c at h
    refine wp_seq ?_
    refine wp_seq ?_
    refine wp_reg ?_
    refine st_move hf rfl rfl (by decide) ?_
    clear hf; intro a ha hf; clear ha
    refine st_igeq hf (by decide) rfl rfl rfl ?_
    clear hf; intro a ha hf; clear ha
    refine st_nil hf ?_
    refine th_n ?_
    refine wp_if hf rfl (fun hb => ?_) (fun hb => ?_)
    · replace h := ifT h hb
      refine wp_skip ?_
      refine th_n ?_
      refine wp_seq ?_
      refine wp_block ?_
      refine wp_seq ?_
      refine wp_reg ?_
      refine st_move hf rfl rfl (by decide) ?_
      clear hf; intro a ha hf; clear ha
      refine st_move hf rfl rfl (by decide) ?_
      clear hf; intro a ha hf; clear ha
      obtain ⟨q1, hcall2, h⟩ := bnd h
      refine st_call hf (by decide) Try.func51 rfl rfl rfl rfl rfl (f_foghornref21_top_c hp _ hcall2) ?_
      rintro _ w ⟨rfl, hp0⟩
      clear hp; have hp := hp0; clear hp0
      replace hp : Hp _ _ _ (ow) := hp
      refine ⟨_, rfl, ?_⟩
      clear hf; intro a hf
      refine st_igeq hf (by decide) rfl rfl rfl ?_
      clear hf; intro a ha hf; clear ha
      refine st_move hf rfl rfl (by decide) ?_
      clear hf; intro a ha hf; clear ha
      obtain ⟨z5, hz3, h⟩ := bnd h
      refine wpList_cut 6 (fun a w => Fr 31 a [(0, .int .u32 d0), (1, .int .u32 p1), (5, .int .i64 i5), (20, .bool z5)] ∧ Hp S w0 w (ow)) ?_ ?_
      · rcases Bool.eq_false_or_eq_true (decide (q1 ≤ i5)) with hb4 | hb4
        · skip
          replace hz3 := ifT hz3 hb4
          refine st_move hf (wantY hf rfl rfl hb4) rfl (by decide) ?_
          clear hf; intro a ha hf; clear ha
          refine st_move hf (wantY hf rfl rfl hb4) rfl (by decide) ?_
          clear hf; intro a ha hf; clear ha
          obtain ⟨hc6, hz3⟩ := chk hz3
          refine st_ishr hf (by decide) (wantY hf rfl rfl hb4) rfl rfl hc6 ?_
          clear hf; intro a ha hf; clear ha
          refine st_iand hf (by decide) (wantY hf rfl rfl hb4) rfl rfl ?_
          clear hf; intro a ha hf; clear ha
          refine st_ieql hf (by decide) (wantY hf rfl rfl hb4) rfl rfl ?_
          clear hf; intro a ha hf; clear ha
          obtain rfl := Option.some.inj hz3
          refine st_pick (v := .bool ((iand .u32 (ishr .u32 p1 i5) (1 : Int)) == (1 : Int))) hf rfl rfl (fun hb' => ?_) (fun hb' => ?_) (by decide) ?_
          · rfl
          · exact absurd (hb4.symm.trans hb') (by decide)
          clear hf; intro a ha hf; clear ha
          refine st_nil hf (th_n ?_)
          exact ⟨hf.sub ⟨rfl, rfl, rfl, rfl, trivial⟩, hp⟩
        replace hz3 := ifF hz3 hb4
        refine st_skip hf (wantN hf rfl rfl hb4) rfl (by decide) ?_ rfl
        clear hf; intro a hf
        refine st_skip hf (wantN hf rfl rfl hb4) rfl (by decide) ?_ rfl
        clear hf; intro a hf
        refine st_skip hf (wantN hf rfl rfl hb4) rfl (by decide) ?_ rfl
        clear hf; intro a hf
        refine st_skip hf (wantN hf rfl rfl hb4) rfl (by decide) ?_ rfl
        clear hf; intro a hf
        refine st_skip hf (wantN hf rfl rfl hb4) rfl (by decide) ?_ rfl
        clear hf; intro a hf
        obtain rfl := Option.some.inj hz3
        refine st_pick (v := .bool false) hf rfl rfl (fun hb' => ?_) (fun hb' => ?_) (by decide) ?_
        · exact absurd (hb4.symm.trans hb') (by decide)
        · rfl
        clear hf; intro a ha hf; clear ha
        refine st_nil hf (th_n ?_)
        exact ⟨hf.sub ⟨rfl, rfl, rfl, rfl, trivial⟩, hp⟩
      rintro a w ⟨hf, hp⟩
      refine st_nil hf ?_
      refine th_n ?_
      refine wp_if hf rfl (fun hb => ?_) (fun hb => ?_)
      · replace h := ifT h hb
        refine wp_reg ?_
        refine st_move hf rfl rfl (by decide) ?_
        clear hf; intro a ha hf; clear ha
        refine st_move hf rfl rfl (by decide) ?_
        clear hf; intro a ha hf; clear ha
        refine st_move hf rfl rfl (by decide) ?_
        clear hf; intro a ha hf; clear ha
        refine st_move hf rfl rfl (by decide) ?_
        clear hf; intro a ha hf; clear ha
        obtain ⟨q7, hcall8, h⟩ := bnd h
        refine st_call hf (by decide) Try.func51 rfl rfl rfl rfl rfl (f_foghornref21_top_c hp _ hcall8) ?_
        rintro _ w ⟨rfl, hp0⟩
        clear hp; have hp := hp0; clear hp0
        replace hp : Hp _ _ _ (ow) := hp
        refine ⟨_, rfl, ?_⟩
        clear hf; intro a hf
        refine st_isub hf (by decide) rfl rfl rfl ?_
        clear hf; intro a ha hf; clear ha
        obtain ⟨hc9, h⟩ := chk h
        refine st_ishl hf (by decide) rfl rfl rfl hc9 ?_
        clear hf; intro a ha hf; clear ha
        refine st_ixor hf (by decide) rfl rfl rfl ?_
        clear hf; intro a ha hf; clear ha
        refine st_assign hf rfl rfl (by decide) ?_
        clear hf; intro a ha hf; clear ha
        refine st_nil hf ?_
        refine ib_n ?_
        refine th_n ?_
        refine wp_reg ?_
        refine st_move hf rfl rfl (by decide) ?_
        clear hf; intro a ha hf; clear ha
        refine st_isub hf (by decide) rfl rfl rfl ?_
        clear hf; intro a ha hf; clear ha
        refine st_assign hf rfl rfl (by decide) ?_
        clear hf; intro a ha hf; clear ha
        refine st_nil hf ?_
        obtain rfl := Option.some.inj h
        exact rnd_l ⟨hf.sub ⟨rfl, rfl, rfl, trivial⟩, hp⟩
      replace h := ifF h hb
      refine wp_skip ?_
      refine ib_n ?_
      refine th_n ?_
      refine wp_reg ?_
      refine st_move hf rfl rfl (by decide) ?_
      clear hf; intro a ha hf; clear ha
      refine st_isub hf (by decide) rfl rfl rfl ?_
      clear hf; intro a ha hf; clear ha
      refine st_assign hf rfl rfl (by decide) ?_
      clear hf; intro a ha hf; clear ha
      refine st_nil hf ?_
      obtain rfl := Option.some.inj h
      exact rnd_l ⟨hf.sub ⟨rfl, rfl, rfl, trivial⟩, hp⟩
    replace h := ifF h hb
    refine wp_exit ?_
    refine th_e ?_
    obtain rfl := Option.some.inj h
    exact rnd_r (by simp) ⟨rfl, hf.sub ⟨rfl, trivial⟩, hp⟩
  clear hl hf hp
  intro e a w hne hO
  obtain ⟨rfl, hf, hp⟩ := hO
  refine ib_same ?_
  refine th_n ?_
  refine wp_seq ?_
  refine wp_reg ?_
  refine st_move hf rfl rfl (by decide) ?_
  clear hf; intro a ha hf; clear ha
  refine st_ieql hf (by decide) rfl rfl rfl ?_
  clear hf; intro a ha hf; clear ha
  refine st_assign hf rfl rfl (by decide) ?_
  clear hf; intro a ha hf; clear ha
  refine st_nil hf ?_
  refine th_n ?_
  refine wp_ret ?_
  obtain rfl := Option.some.inj h
  exact ⟨rfl, ⟨hf.sub ⟨rfl, trivial⟩, hp⟩⟩

noncomputable def f_foghornref21_Slips.s1c (c0_Length : Int) (c0_One : Int) (c0_Two : Int) (d4 : Int) : Option (Int ⊕ (Unit ⊕ (Bool × Int))) := (if 0 ≤ c0_Length then (if (decide (d4 < (ishl .u32 (1 : Int) c0_Length))) = true then ((if (!((iand .u32 d4 (IntKind.u32.wrap (d4 - (1 : Int)))) == (0 : Int))) = true then ((f_foghornref21_divides d4 c0_One).bind fun q9 => (some q9)) else (some false)).bind fun z8 => ((if z8 = true then ((f_foghornref21_divides d4 c0_Two).bind fun q14 => (some q14)) else (some false)).bind fun z13 => (if z13 = true then (some (Sum.inr (Sum.inr (true, (0 : Int))))) else (some (Sum.inl (IntKind.u32.wrap (d4 + (1 : Int)))))))) else (some (Sum.inr (Sum.inl ())))) else none)
noncomputable def f_foghornref21_Slips.s1 (c0_Length : Int) (c0_One : Int) (c0_Two : Int) (s : Int) : Option (Int ⊕ (Unit ⊕ (Bool × Int))) := f_foghornref21_Slips.s1c c0_Length c0_One c0_Two s
noncomputable def f_foghornref21_Slips (c0_Length : Int) (c0_One : Int) (c0_Two : Int) : Option (Bool × Int) := ((f_foghornref21_May c0_Length c0_One c0_Two).bind fun q3 => (if (!q3) = true then (some (false, (1 : Int))) else ((loop (f_foghornref21_Slips.s1 c0_Length c0_One c0_Two) (2 : Int)).bind (fun q16 => sm q16 (fun q17 => (some (false, (0 : Int)))) (fun q18 => (some (q18.1, q18.2)))))))
theorem f_foghornref21_Slips_c {S : Nat → Prop} {w0 w : World} {ow : List Res} (hp : Hp S w0 w ow) (c0_Length : Int) (c0_One : Int) (c0_Two : Int) {r : (Bool × Int)} (h : f_foghornref21_Slips c0_Length c0_One c0_Two = some r) :
    Calls Try.prog 29 #[.agg #[.int .i64 c0_Length, .int .u32 c0_One, .int .u32 c0_Two]] w (fun e w' => e = .returned (.tuple #[.bool r.1, .int .i64 r.2]) ∧ Hp S w0 w' (ow)) := by
  unfold f_foghornref21_Slips at h
  refine enter (n := 35) (args := [.agg #[.int .i64 c0_Length, .int .u32 c0_One, .int .u32 c0_Two]]) Try.func29 rfl rfl (Nat.le_of_ble_eq_true rfl) fun a hf => ?_
  replace hf : Fr 35 a [(0, .agg #[.int .i64 c0_Length, .int .u32 c0_One, .int .u32 c0_Two])] := hf
  refine wp_mono (Q := fun e a w => e = .ret ∧ Fr 35 a [(2, .bool r.1), (3, .int .i64 r.2)] ∧ Hp S w0 w (ow)) ?_ ?_
  rotate_left
  · rintro e a w ⟨rfl, hf, hp⟩
    exact ret2 hf rfl rfl rfl ⟨rfl, hp⟩
  refine wp_seq ?_
  refine wp_reg ?_
  refine st_boxO (cs := [.int .i64 c0_Length, .int .u32 c0_One, .int .u32 c0_Two]) hf (by decide) hp rfl rfl rfl ?_
  clear hf; intro a w v1 hf hp0; clear hp; have hp := hp0; clear hp0
  replace hp : Hp _ _ _ (Res.obj 24 v1 [.int .i64 c0_Length, .int .u32 c0_One, .int .u32 c0_Two] :: ow) := hp
  refine st_assign hf rfl rfl (by decide) ?_
  clear hf; intro a ha hf; clear ha
  refine st_assign hf rfl rfl (by decide) ?_
  clear hf; intro a ha hf; clear ha
  refine st_nil hf ?_
  refine th_n ?_
  refine wp_seq ?_
  refine wp_seq ?_
  refine wp_reg ?_
  refine st_ldOA (m := 3) (us := [.int .i64 c0_Length, .int .u32 c0_One, .int .u32 c0_Two]) hf (by decide) (by kernel_rfl) rfl rfl (hp.ob (i := 0) rfl) rfl rfl ?_
  clear hf; intro a ha hf; clear ha
  obtain ⟨q3, hcall4, h⟩ := bnd h
  refine st_call hf (by decide) Try.func43 rfl rfl rfl rfl rfl (f_foghornref21_May_c hp _ _ _ hcall4) ?_
  rintro _ w ⟨rfl, hp0⟩
  clear hp; have hp := hp0; clear hp0
  replace hp : Hp _ _ _ (Res.obj 24 v1 [.int .i64 c0_Length, .int .u32 c0_One, .int .u32 c0_Two] :: ow) := hp
  refine ⟨_, rfl, ?_⟩
  clear hf; intro a hf
  refine st_not hf (by decide) rfl rfl ?_
  clear hf; intro a ha hf; clear ha
  refine st_nil hf ?_
  refine th_n ?_
  refine wp_if hf rfl (fun hb => ?_) (fun hb => ?_)
  · replace h := ifT h hb
    refine wp_seq ?_
    refine wp_reg ?_
    refine st_assign hf rfl rfl (by decide) ?_
    clear hf; intro a ha hf; clear ha
    refine st_assign hf rfl rfl (by decide) ?_
    clear hf; intro a ha hf; clear ha
    refine st_nil hf ?_
    refine th_n ?_
    refine wp_ret ?_
    refine th_r ?_
    obtain rfl := Option.some.inj h
    have hp : Hp _ _ _ (ow) := Hp.sel (pre := [Res.obj 24 v1 [.int .i64 c0_Length, .int .u32 c0_One, .int .u32 c0_Two]]) (tail := ow) (rs' := []) hp [] (by decide) (by simp) rfl
    exact ⟨rfl, ⟨hf.sub ⟨rfl, rfl, trivial⟩, hp⟩⟩
  replace h := ifF h hb
  refine wp_skip ?_
  refine th_n ?_
  refine wp_seq ?_
  refine wp_seq ?_
  refine wp_reg ?_
  refine st_assign hf rfl rfl (by decide) ?_
  clear hf; intro a ha hf; clear ha
  refine st_nil hf ?_
  refine th_n ?_
  refine wp_block ?_
  obtain ⟨q16, hl, h⟩ := bnd h
  refine wp_loop_pure (f := (f_foghornref21_Slips.s1 c0_Length c0_One c0_Two)) (s := (2 : Int)) (fun s a w => Fr 35 a [(1, optr v1 0), (4, .int .u32 s)] ∧ Hp S w0 w (Res.obj 24 v1 [.int .i64 c0_Length, .int .u32 c0_One, .int .u32 c0_Two] :: ow)) (fun q e a w => match q with | (Sum.inl q) => e = .exit 0 ∧ Fr 35 a [] ∧ Hp S w0 w (ow) | (Sum.inr q) => e = .ret ∧ Fr 35 a [(2, .bool q.1), (3, .int .i64 q.2)] ∧ Hp S w0 w (ow)) ?_ hl ⟨hf.sub ⟨rfl, rfl, trivial⟩, hp⟩ ?_
  · clear hl hf hp
    intro s x a w h hI
    obtain ⟨d4, hs⟩ : ∃ z, z = s := ⟨s, rfl⟩; subst hs
    obtain ⟨hf, hp⟩ : Fr 35 a [(1, optr v1 0), (4, .int .u32 d4)] ∧ Hp S w0 w (Res.obj 24 v1 [.int .i64 c0_Length, .int .u32 c0_One, .int .u32 c0_Two] :: ow) := hI
    replace h : f_foghornref21_Slips.s1c c0_Length c0_One c0_Two d4 = some x := h
    unfold f_foghornref21_Slips.s1c at h
    refine wp_seq ?_
    refine wp_seq ?_
    refine wp_reg ?_
    refine st_move hf rfl rfl (by decide) ?_
    clear hf; intro a ha hf; clear ha
    refine st_fa (o' := 0) hf (by decide) (off := 0) (sz := 1) (by kernel_rfl) (by decide) rfl rfl (hp.ob (i := 0) rfl) rfl ?_
    clear hf; intro a ha hf; clear ha
    refine st_ldO (u := .int .i64 c0_Length) hf (by decide) pl3 rfl rfl (hp.ob (i := 0) rfl) rfl ?_
    clear hf; intro a ha hf; clear ha
    obtain ⟨hc5, h⟩ := chk h
    refine st_ishl hf (by decide) rfl rfl rfl hc5 ?_
    clear hf; intro a ha hf; clear ha
    refine st_ilss hf (by decide) rfl rfl rfl ?_
    clear hf; intro a ha hf; clear ha
    refine st_nil hf ?_
    refine th_n ?_
    refine wp_if hf rfl (fun hb => ?_) (fun hb => ?_)
    · replace h := ifT h hb
      refine wp_skip ?_
      refine th_n ?_
      refine wp_seq ?_
      refine wp_block ?_
      refine wp_seq ?_
      refine wp_reg ?_
      refine st_move hf rfl rfl (by decide) ?_
      clear hf; intro a ha hf; clear ha
      refine st_move hf rfl rfl (by decide) ?_
      clear hf; intro a ha hf; clear ha
      refine st_isub hf (by decide) rfl rfl rfl ?_
      clear hf; intro a ha hf; clear ha
      refine st_iand hf (by decide) rfl rfl rfl ?_
      clear hf; intro a ha hf; clear ha
      refine st_ieql hf (by decide) rfl rfl rfl ?_
      clear hf; intro a ha hf; clear ha
      refine st_assign hf rfl rfl (by decide) ?_
      clear hf; intro a ha hf; clear ha
      refine st_nil hf ?_
      refine th_n ?_
      refine wp_seq ?_
      refine wp_reg ?_
      refine st_move hf rfl rfl (by decide) ?_
      clear hf; intro a ha hf; clear ha
      refine st_not hf (by decide) rfl rfl ?_
      clear hf; intro a ha hf; clear ha
      refine st_move hf rfl rfl (by decide) ?_
      clear hf; intro a ha hf; clear ha
      obtain ⟨z8, hz6, h⟩ := bnd h
      refine wpList_cut 5 (fun a w => Fr 35 a [(1, optr v1 0), (4, .int .u32 d4), (28, .bool z8)] ∧ Hp S w0 w (Res.obj 24 v1 [.int .i64 c0_Length, .int .u32 c0_One, .int .u32 c0_Two] :: ow)) ?_ ?_
      · rcases Bool.eq_false_or_eq_true (!((iand .u32 d4 (IntKind.u32.wrap (d4 - (1 : Int)))) == (0 : Int))) with hb7 | hb7
        · skip
          replace hz6 := ifT hz6 hb7
          refine st_move hf (wantY hf rfl rfl hb7) rfl (by decide) ?_
          clear hf; intro a ha hf; clear ha
          refine st_fa (o' := 1) hf (by decide) (off := 1) (sz := 1) (by kernel_rfl) (by decide) (wantY hf rfl rfl hb7) rfl (hp.ob (i := 0) rfl) rfl ?_
          clear hf; intro a ha hf; clear ha
          refine st_ldO (u := .int .u32 c0_One) hf (by decide) pl22 (wantY hf rfl rfl hb7) rfl (hp.ob (i := 0) rfl) rfl ?_
          clear hf; intro a ha hf; clear ha
          obtain ⟨q9, hcall10, hz6⟩ := bnd hz6
          refine st_call hf (by decide) Try.func47 rfl rfl (wantY hf rfl rfl hb7) rfl rfl (f_foghornref21_divides_c hp _ _ hcall10) ?_
          rintro _ w ⟨rfl, hp0⟩
          clear hp; have hp := hp0; clear hp0
          replace hp : Hp _ _ _ (Res.obj 24 v1 [.int .i64 c0_Length, .int .u32 c0_One, .int .u32 c0_Two] :: ow) := hp
          refine ⟨_, rfl, ?_⟩
          clear hf; intro a hf
          obtain rfl := Option.some.inj hz6
          refine st_pick (v := .bool q9) hf rfl rfl (fun hb' => ?_) (fun hb' => ?_) (by decide) ?_
          · rfl
          · exact absurd (hb7.symm.trans hb') (by decide)
          clear hf; intro a ha hf; clear ha
          refine st_nil hf (th_n ?_)
          exact ⟨hf.sub ⟨rfl, rfl, rfl, trivial⟩, hp⟩
        replace hz6 := ifF hz6 hb7
        refine st_skip hf (wantN hf rfl rfl hb7) rfl (by decide) ?_ rfl
        clear hf; intro a hf
        refine st_skip hf (wantN hf rfl rfl hb7) rfl (by decide) ?_ rfl
        clear hf; intro a hf
        refine st_skip hf (wantN hf rfl rfl hb7) rfl (by decide) ?_ rfl
        clear hf; intro a hf
        refine st_skip hf (wantN hf rfl rfl hb7) rfl (by decide) ?_ rfl
        clear hf; intro a hf
        obtain rfl := Option.some.inj hz6
        refine st_pick (v := .bool false) hf rfl rfl (fun hb' => ?_) (fun hb' => ?_) (by decide) ?_
        · exact absurd (hb7.symm.trans hb') (by decide)
        · rfl
        clear hf; intro a ha hf; clear ha
        refine st_nil hf (th_n ?_)
        exact ⟨hf.sub ⟨rfl, rfl, rfl, trivial⟩, hp⟩
      rintro a w ⟨hf, hp⟩
      refine st_move hf rfl rfl (by decide) ?_
      clear hf; intro a ha hf; clear ha
      obtain ⟨z13, hz11, h⟩ := bnd h
      refine wpList_cut 5 (fun a w => Fr 35 a [(1, optr v1 0), (4, .int .u32 d4), (34, .bool z13)] ∧ Hp S w0 w (Res.obj 24 v1 [.int .i64 c0_Length, .int .u32 c0_One, .int .u32 c0_Two] :: ow)) ?_ ?_
      · rcases Bool.eq_false_or_eq_true z8 with hb12 | hb12
        · skip
          replace hz11 := ifT hz11 hb12
          refine st_move hf (wantY hf rfl rfl hb12) rfl (by decide) ?_
          clear hf; intro a ha hf; clear ha
          refine st_fa (o' := 2) hf (by decide) (off := 2) (sz := 1) (by kernel_rfl) (by decide) (wantY hf rfl rfl hb12) rfl (hp.ob (i := 0) rfl) rfl ?_
          clear hf; intro a ha hf; clear ha
          refine st_ldO (u := .int .u32 c0_Two) hf (by decide) pl22 (wantY hf rfl rfl hb12) rfl (hp.ob (i := 0) rfl) rfl ?_
          clear hf; intro a ha hf; clear ha
          obtain ⟨q14, hcall15, hz11⟩ := bnd hz11
          refine st_call hf (by decide) Try.func47 rfl rfl (wantY hf rfl rfl hb12) rfl rfl (f_foghornref21_divides_c hp _ _ hcall15) ?_
          rintro _ w ⟨rfl, hp0⟩
          clear hp; have hp := hp0; clear hp0
          replace hp : Hp _ _ _ (Res.obj 24 v1 [.int .i64 c0_Length, .int .u32 c0_One, .int .u32 c0_Two] :: ow) := hp
          refine ⟨_, rfl, ?_⟩
          clear hf; intro a hf
          obtain rfl := Option.some.inj hz11
          refine st_pick (v := .bool q14) hf rfl rfl (fun hb' => ?_) (fun hb' => ?_) (by decide) ?_
          · rfl
          · exact absurd (hb12.symm.trans hb') (by decide)
          clear hf; intro a ha hf; clear ha
          refine st_nil hf (th_n ?_)
          exact ⟨hf.sub ⟨rfl, rfl, rfl, trivial⟩, hp⟩
        replace hz11 := ifF hz11 hb12
        refine st_skip hf (wantN hf rfl rfl hb12) rfl (by decide) ?_ rfl
        clear hf; intro a hf
        refine st_skip hf (wantN hf rfl rfl hb12) rfl (by decide) ?_ rfl
        clear hf; intro a hf
        refine st_skip hf (wantN hf rfl rfl hb12) rfl (by decide) ?_ rfl
        clear hf; intro a hf
        refine st_skip hf (wantN hf rfl rfl hb12) rfl (by decide) ?_ rfl
        clear hf; intro a hf
        obtain rfl := Option.some.inj hz11
        refine st_pick (v := .bool false) hf rfl rfl (fun hb' => ?_) (fun hb' => ?_) (by decide) ?_
        · exact absurd (hb12.symm.trans hb') (by decide)
        · rfl
        clear hf; intro a ha hf; clear ha
        refine st_nil hf (th_n ?_)
        exact ⟨hf.sub ⟨rfl, rfl, rfl, trivial⟩, hp⟩
      rintro a w ⟨hf, hp⟩
      refine st_nil hf ?_
      refine th_n ?_
      refine wp_if hf rfl (fun hb => ?_) (fun hb => ?_)
      · replace h := ifT h hb
        refine wp_seq ?_
        refine wp_reg ?_
        refine st_assign hf rfl rfl (by decide) ?_
        clear hf; intro a ha hf; clear ha
        refine st_assign hf rfl rfl (by decide) ?_
        clear hf; intro a ha hf; clear ha
        refine st_nil hf ?_
        refine th_n ?_
        refine wp_ret ?_
        refine ib_r ?_
        refine th_r ?_
        obtain rfl := Option.some.inj h
        have hp : Hp _ _ _ (ow) := Hp.sel (pre := [Res.obj 24 v1 [.int .i64 c0_Length, .int .u32 c0_One, .int .u32 c0_Two]]) (tail := ow) (rs' := []) hp [] (by decide) (by simp) rfl
        exact rnd_r (by simp) ⟨rfl, ⟨hf.sub ⟨rfl, rfl, trivial⟩, hp⟩⟩
      replace h := ifF h hb
      refine wp_skip ?_
      refine ib_n ?_
      refine th_n ?_
      refine wp_reg ?_
      refine st_move hf rfl rfl (by decide) ?_
      clear hf; intro a ha hf; clear ha
      refine st_iadd hf (by decide) rfl rfl rfl ?_
      clear hf; intro a ha hf; clear ha
      refine st_assign hf rfl rfl (by decide) ?_
      clear hf; intro a ha hf; clear ha
      refine st_nil hf ?_
      obtain rfl := Option.some.inj h
      exact rnd_l ⟨hf.sub ⟨rfl, rfl, trivial⟩, hp⟩
    replace h := ifF h hb
    refine wp_exit ?_
    refine th_e ?_
    obtain rfl := Option.some.inj h
    have hp : Hp _ _ _ (ow) := Hp.sel (pre := [Res.obj 24 v1 [.int .i64 c0_Length, .int .u32 c0_One, .int .u32 c0_Two]]) (tail := ow) (rs' := []) hp [] (by decide) (by simp) rfl
    exact rnd_r (by simp) ⟨rfl, hf.sub trivial, hp⟩
  clear hl hf hp
  intro e a w hne hO
  rcases q16 with q17 | q18
  · replace h := smL h
    obtain ⟨rfl, hf, hp⟩ := hO
    refine ib_same ?_
    refine th_n ?_
    refine wp_seq ?_
    refine wp_reg ?_
    refine st_assign hf rfl rfl (by decide) ?_
    clear hf; intro a ha hf; clear ha
    refine st_assign hf rfl rfl (by decide) ?_
    clear hf; intro a ha hf; clear ha
    refine st_nil hf ?_
    refine th_n ?_
    refine wp_ret ?_
    obtain rfl := Option.some.inj h
    exact ⟨rfl, ⟨hf.sub ⟨rfl, rfl, trivial⟩, hp⟩⟩
  replace h := smR h
  obtain ⟨rfl, hf, hp⟩ := hO
  refine ib_r ?_
  refine th_r ?_
  obtain rfl := Option.some.inj h
  exact ⟨rfl, ⟨hf.sub ⟨rfl, rfl, trivial⟩, hp⟩⟩

noncomputable def f_trellis_Code_Encode_1 (t0 : Int) (one1 : Bool) (two2 : Bool) (t3 : (List Bool)) : Option (List Bool) := (if (t3.length + ([one1, two2]).length) * 1 ≤ 140737488355328 then (some (t3 ++ [one1, two2])) else none)
theorem f_trellis_Code_Encode_1_c {S : Nat → Prop} {w0 w : World} {ow : List Res} (t0 : Int) (one1 : Bool) (two2 : Bool) (vt3 : Value) (t3 : (List Bool)) (ot3 : Value) (hp : Hp S w0 w (Res.sl Ek.bool 4 vt3 t3 :: Res.obj 25 ot3 [vt3] :: ow)) {r : (List Bool)} (h : f_trellis_Code_Encode_1 t0 one1 two2 t3 = some r) :
    Calls Try.prog 38 #[.int .i64 t0, .bool one1, .bool two2, optr ot3 0] w (fun e w' => ∃ (u0 : Value), e = .returned (.tuple #[]) ∧ Hp S w0 w' (Res.sl Ek.bool 4 u0 r :: Res.obj 25 ot3 [u0] :: ow)) := by
  unfold f_trellis_Code_Encode_1 at h
  refine enter (n := 12) (args := [.int .i64 t0, .bool one1, .bool two2, optr ot3 0]) Try.func38 rfl rfl (Nat.le_of_ble_eq_true rfl) fun a hf => ?_
  replace hf : Fr 12 a [(0, .int .i64 t0), (1, .bool one1), (2, .bool two2), (3, optr ot3 0)] := hf
  refine wp_mono (Q := fun e a w => (e = .ret ∨ e = .normal) ∧ ∃ (u0 : Value), Fr 12 a [] ∧ Hp S w0 w (Res.sl Ek.bool 4 u0 r :: Res.obj 25 ot3 [u0] :: ow)) ?_ ?_
  rotate_left
  · rintro e a w ⟨rfl | rfl, x0, hf, hp⟩
    · exact ret0 hf rfl ⟨x0, rfl, hp⟩
    · exact ret0n hf rfl ⟨x0, rfl, hp⟩
  refine wp_reg ?_
  refine st_ldO (u := vt3) hf (by decide) pl25 rfl rfl (hp.ob (i := 1) rfl) rfl ?_
  clear hf; intro a ha hf; clear ha
  refine st_move hf rfl rfl (by decide) ?_
  clear hf; intro a ha hf; clear ha
  refine st_move hf rfl rfl (by decide) ?_
  clear hf; intro a ha hf; clear ha
  refine st_build (E := Ek.bool) (xs := [one1, two2]) hf (by decide) elt4 Try.underlying25 hp (vals := #[(0, .bool one1), (1, .bool two2)]) (cells := #[.bool one1, .bool two2]) rfl (by simp [hf.ev (x := (Operand.tmp 8)) rfl, hf.ev (x := (Operand.tmp 9)) rfl]) (by decide) (by decide) (z := .bool false) (by kernel_rfl) (by kernel_rfl) rfl (reps_cons (cs := [.bool one1]) rfl (reps_cons (cs := [.bool two2]) rfl (reps_nil _))) ?_
  clear hf; intro a w v3 hf hp0; clear hp; have hp := hp0; clear hp0
  replace hp : Hp _ _ _ (Res.sl Ek.bool 4 v3 ([one1, two2]) :: Res.sl Ek.bool 4 vt3 t3 :: Res.obj 25 ot3 [vt3] :: ow) := hp
  obtain ⟨hc5, h⟩ := chk h
  refine st_append (E := Ek.bool) hf (by decide) elt4 Try.underlying25 (by decide) hp (i := 1) rfl rfl rfl rfl (hp.sl (i := 0) rfl) hc5 ?_
  clear hf; intro a w v6 hf hp0; clear hp; have hp := hp0; clear hp0
  replace hp : Hp _ _ _ (Res.sl Ek.bool 4 v3 ([one1, two2]) :: Res.sl Ek.bool 4 v6 (t3 ++ [one1, two2]) :: Res.obj 25 ot3 [vt3] :: ow) := hp
  refine st_stO (us := [v6]) hf hp (i := 2) rfl rfl rfl rfl (cells_sh (hp.sl (i := 1) rfl).shapeV) (ones_sh (hp.sl (i := 1) rfl).shapeV) (by kernel_rfl) (Nat.le_of_ble_eq_true rfl) ?_
  clear hf; intro a w hf hp0; clear hp; have hp := hp0; clear hp0
  replace hp : Hp _ _ _ (Res.sl Ek.bool 4 v3 ([one1, two2]) :: Res.sl Ek.bool 4 v6 (t3 ++ [one1, two2]) :: Res.obj 25 ot3 [v6] :: ow) := hp
  refine st_nil hf ?_
  obtain rfl := Option.some.inj h
  have hp : Hp _ _ _ (Res.sl Ek.bool 4 v6 (t3 ++ [one1, two2]) :: Res.obj 25 ot3 [v6] :: ow) := Hp.sel (pre := [Res.sl Ek.bool 4 v3 ([one1, two2]), Res.sl Ek.bool 4 v6 (t3 ++ [one1, two2]), Res.obj 25 ot3 [v6]]) (tail := ow) (rs' := [Res.sl Ek.bool 4 v6 (t3 ++ [one1, two2]), Res.obj 25 ot3 [v6]]) hp [1, 2] (by decide) (by simp) rfl
  exact ⟨(.inr rfl), ⟨_, hf.sub trivial, hp⟩⟩

noncomputable def f_trellis_Code_through.s1c (c0_Length : Int) (l1 : (List Bool)) (t6000_Length : Int) (t6000_One : Int) (t6000_Two : Int) (tell3_0c : (List Bool)) (state10 : Int) (t33 : Int) : Option (((List Bool) × Int × Int) ⊕ (List Bool)) := (if (decide (t33 < (IntKind.i64.wrap ((IntKind.i64.wrap ((l1.length : Int) + c0_Length)) - (1 : Int))))) = true then ((if (decide (t33 < (l1.length : Int))) = true then (if 0 ≤ t33 ∧ t33 < (l1.length : Int) then (some (gt l1 t33)) else none) else (some false)).bind fun z15 => ((f_trellis_Code_step t6000_Length t6000_One t6000_Two state10 z15).bind fun q17 => ((f_trellis_Code_Encode_1 q17.1 q17.2.1 q17.2.2 tell3_0c).bind fun q19 => (some (Sum.inl (q19, q17.1, (IntKind.i64.wrap (t33 + (1 : Int))))))))) else (some (Sum.inr tell3_0c)))
noncomputable def f_trellis_Code_through.s1 (c0_Length : Int) (l1 : (List Bool)) (t6000_Length : Int) (t6000_One : Int) (t6000_Two : Int) (s : ((List Bool) × Int × Int)) : Option (((List Bool) × Int × Int) ⊕ (List Bool)) := f_trellis_Code_through.s1c c0_Length l1 t6000_Length t6000_One t6000_Two s.1 s.2.1 s.2.2
noncomputable def f_trellis_Code_through (c0_Length : Int) (c0_One : Int) (c0_Two : Int) (l1 : (List Bool)) (t6000_Length : Int) (t6000_One : Int) (t6000_Two : Int) (t4000 : (List Bool)) : Option (Int × (List Bool)) := ((f_trellis_Code_Check c0_Length c0_One c0_Two).bind fun q5 => (if (q5 != (0 : Int)) = true then (some (q5, t4000)) else (if (decide ((16384 : Int) < (IntKind.i64.wrap ((IntKind.i64.wrap ((l1.length : Int) + c0_Length)) - (1 : Int))))) = true then (some ((1 : Int), t4000)) else ((loop (f_trellis_Code_through.s1 c0_Length l1 t6000_Length t6000_One t6000_Two) (t4000, (0 : Int), (0 : Int))).bind (fun q24 => (some ((0 : Int), q24)))))))
theorem f_trellis_Code_through_c {S : Nat → Prop} {w0 w : World} {ow : List Res} (c0_Length : Int) (c0_One : Int) (c0_Two : Int) (vl1 : Value) (l1 : (List Bool)) (hl1 : RdS Ek.bool S w0 vl1 l1) (t6000_Length : Int) (t6000_One : Int) (t6000_Two : Int) (vt4000 : Value) (t4000 : (List Bool)) (ot4000 : Value) (hp : Hp S w0 w (Res.sl Ek.bool 4 vt4000 t4000 :: Res.obj 25 ot4000 [vt4000] :: ow)) {r : (Int × (List Bool))} (h : f_trellis_Code_through c0_Length c0_One c0_Two l1 t6000_Length t6000_One t6000_Two t4000 = some r) :
    Calls Try.prog 36 #[.agg #[.int .i64 c0_Length, .int .u32 c0_One, .int .u32 c0_Two], vl1, .func (.func 37) #[.agg #[.int .i64 t6000_Length, .int .u32 t6000_One, .int .u32 t6000_Two]] #[], .func (.func 38) #[] #[optr ot4000 0]] w (fun e w' => ∃ (u0 : Value), e = .returned (.int .i64 r.1) ∧ Hp S w0 w' (Res.sl Ek.bool 4 u0 r.2 :: Res.obj 25 ot4000 [u0] :: ow)) := by
  unfold f_trellis_Code_through at h
  refine enter (n := 60) (args := [.agg #[.int .i64 c0_Length, .int .u32 c0_One, .int .u32 c0_Two], vl1, .func (.func 37) #[.agg #[.int .i64 t6000_Length, .int .u32 t6000_One, .int .u32 t6000_Two]] #[], .func (.func 38) #[] #[optr ot4000 0]]) Try.func36 rfl rfl (Nat.le_of_ble_eq_true rfl) fun a hf => ?_
  replace hf : Fr 60 a [(0, .agg #[.int .i64 c0_Length, .int .u32 c0_One, .int .u32 c0_Two]), (1, vl1), (2, .func (.func 37) #[.agg #[.int .i64 t6000_Length, .int .u32 t6000_One, .int .u32 t6000_Two]] #[]), (3, .func (.func 38) #[] #[optr ot4000 0])] := hf
  refine wp_mono (Q := fun e a w => e = .ret ∧ ∃ (u0 : Value), Fr 60 a [(8, .int .i64 r.1)] ∧ Hp S w0 w (Res.sl Ek.bool 4 u0 r.2 :: Res.obj 25 ot4000 [u0] :: ow)) ?_ ?_
  rotate_left
  · rintro e a w ⟨rfl, x0, hf, hp⟩
    exact ret1 hf rfl rfl ⟨x0, rfl, hp⟩
  refine wp_seq ?_
  refine wp_reg ?_
  refine st_boxO (cs := [.int .i64 c0_Length, .int .u32 c0_One, .int .u32 c0_Two]) hf (by decide) hp rfl rfl rfl ?_
  clear hf; intro a w v3 hf hp0; clear hp; have hp := hp0; clear hp0
  replace hp : Hp _ _ _ (Res.obj 34 v3 [.int .i64 c0_Length, .int .u32 c0_One, .int .u32 c0_Two] :: Res.sl Ek.bool 4 vt4000 t4000 :: Res.obj 25 ot4000 [vt4000] :: ow) := hp
  refine st_assign hf rfl rfl (by decide) ?_
  clear hf; intro a ha hf; clear ha
  refine st_nil hf ?_
  refine th_n ?_
  refine wp_seq ?_
  refine wp_seq ?_
  refine wp_reg ?_
  refine st_ldOA (m := 3) (us := [.int .i64 c0_Length, .int .u32 c0_One, .int .u32 c0_Two]) hf (by decide) (by kernel_rfl) rfl rfl (hp.ob (i := 0) rfl) rfl rfl ?_
  clear hf; intro a ha hf; clear ha
  obtain ⟨q5, hcall6, h⟩ := bnd h
  refine st_call hf (by decide) Try.func26 rfl rfl rfl rfl rfl (f_trellis_Code_Check_c hp _ _ _ hcall6) ?_
  rintro _ w ⟨rfl, hp0⟩
  clear hp; have hp := hp0; clear hp0
  replace hp : Hp _ _ _ (Res.obj 34 v3 [.int .i64 c0_Length, .int .u32 c0_One, .int .u32 c0_Two] :: Res.sl Ek.bool 4 vt4000 t4000 :: Res.obj 25 ot4000 [vt4000] :: ow) := hp
  refine ⟨_, rfl, ?_⟩
  clear hf; intro a hf
  refine st_assign hf rfl rfl (by decide) ?_
  clear hf; intro a ha hf; clear ha
  refine st_nil hf ?_
  refine th_n ?_
  refine wp_seq ?_
  refine wp_reg ?_
  refine st_move hf rfl rfl (by decide) ?_
  clear hf; intro a ha hf; clear ha
  refine st_ineq hf (by decide) rfl rfl rfl ?_
  clear hf; intro a ha hf; clear ha
  refine st_nil hf ?_
  refine th_n ?_
  refine wp_if hf rfl (fun hb => ?_) (fun hb => ?_)
  · replace h := ifT h hb
    refine wp_seq ?_
    refine wp_reg ?_
    refine st_move hf rfl rfl (by decide) ?_
    clear hf; intro a ha hf; clear ha
    refine st_assign hf rfl rfl (by decide) ?_
    clear hf; intro a ha hf; clear ha
    refine st_nil hf ?_
    refine th_n ?_
    refine wp_ret ?_
    refine th_r ?_
    obtain rfl := Option.some.inj h
    have hp : Hp _ _ _ (Res.sl Ek.bool 4 vt4000 t4000 :: Res.obj 25 ot4000 [vt4000] :: ow) := Hp.sel (pre := [Res.obj 34 v3 [.int .i64 c0_Length, .int .u32 c0_One, .int .u32 c0_Two], Res.sl Ek.bool 4 vt4000 t4000, Res.obj 25 ot4000 [vt4000]]) (tail := ow) (rs' := [Res.sl Ek.bool 4 vt4000 t4000, Res.obj 25 ot4000 [vt4000]]) hp [1, 2] (by decide) (by simp) rfl
    exact ⟨rfl, ⟨_, hf.sub ⟨rfl, trivial⟩, hp⟩⟩
  replace h := ifF h hb
  refine wp_skip ?_
  refine th_n ?_
  refine wp_seq ?_
  refine wp_seq ?_
  refine wp_reg ?_
  refine st_move hf rfl rfl (by decide) ?_
  clear hf; intro a ha hf; clear ha
  refine st_len (E := Ek.bool) hf (by decide) Try.underlying25 rfl rfl (hl1.sl hp) ?_
  clear hf; intro a ha hf; clear ha
  refine st_fa (o' := 0) hf (by decide) (off := 0) (sz := 1) (by kernel_rfl) (by decide) rfl rfl (hp.ob (i := 0) rfl) rfl ?_
  clear hf; intro a ha hf; clear ha
  refine st_ldO (u := .int .i64 c0_Length) hf (by decide) pl3 rfl rfl (hp.ob (i := 0) rfl) rfl ?_
  clear hf; intro a ha hf; clear ha
  refine st_iadd hf (by decide) rfl rfl rfl ?_
  clear hf; intro a ha hf; clear ha
  refine st_isub hf (by decide) rfl rfl rfl ?_
  clear hf; intro a ha hf; clear ha
  refine st_igtr hf (by decide) rfl rfl rfl ?_
  clear hf; intro a ha hf; clear ha
  refine st_nil hf ?_
  refine th_n ?_
  refine wp_if hf rfl (fun hb => ?_) (fun hb => ?_)
  · replace h := ifT h hb
    refine wp_seq ?_
    refine wp_reg ?_
    refine st_assign hf rfl rfl (by decide) ?_
    clear hf; intro a ha hf; clear ha
    refine st_nil hf ?_
    refine th_n ?_
    refine wp_ret ?_
    refine th_r ?_
    obtain rfl := Option.some.inj h
    have hp : Hp _ _ _ (Res.sl Ek.bool 4 vt4000 t4000 :: Res.obj 25 ot4000 [vt4000] :: ow) := Hp.sel (pre := [Res.obj 34 v3 [.int .i64 c0_Length, .int .u32 c0_One, .int .u32 c0_Two], Res.sl Ek.bool 4 vt4000 t4000, Res.obj 25 ot4000 [vt4000]]) (tail := ow) (rs' := [Res.sl Ek.bool 4 vt4000 t4000, Res.obj 25 ot4000 [vt4000]]) hp [1, 2] (by decide) (by simp) rfl
    exact ⟨rfl, ⟨_, hf.sub ⟨rfl, trivial⟩, hp⟩⟩
  replace h := ifF h hb
  refine wp_skip ?_
  refine th_n ?_
  refine wp_seq ?_
  refine wp_reg ?_
  refine st_assign hf rfl rfl (by decide) ?_
  clear hf; intro a ha hf; clear ha
  refine st_nil hf ?_
  refine th_n ?_
  refine wp_seq ?_
  refine wp_seq ?_
  refine wp_reg ?_
  refine st_move hf rfl rfl (by decide) ?_
  clear hf; intro a ha hf; clear ha
  refine st_len (E := Ek.bool) hf (by decide) Try.underlying25 rfl rfl (hl1.sl hp) ?_
  clear hf; intro a ha hf; clear ha
  refine st_fa (o' := 0) hf (by decide) (off := 0) (sz := 1) (by kernel_rfl) (by decide) rfl rfl (hp.ob (i := 0) rfl) rfl ?_
  clear hf; intro a ha hf; clear ha
  refine st_ldO (u := .int .i64 c0_Length) hf (by decide) pl3 rfl rfl (hp.ob (i := 0) rfl) rfl ?_
  clear hf; intro a ha hf; clear ha
  refine st_iadd hf (by decide) rfl rfl rfl ?_
  clear hf; intro a ha hf; clear ha
  refine st_isub hf (by decide) rfl rfl rfl ?_
  clear hf; intro a ha hf; clear ha
  refine st_move hf rfl rfl (by decide) ?_
  clear hf; intro a ha hf; clear ha
  refine st_nil hf ?_
  refine th_n ?_
  refine wp_block ?_
  obtain ⟨q24, hl, h⟩ := bnd h
  have hp : Hp _ _ _ (Res.sl Ek.bool 4 vt4000 t4000 :: Res.obj 25 ot4000 [vt4000] :: ow) := Hp.sel (pre := [Res.obj 34 v3 [.int .i64 c0_Length, .int .u32 c0_One, .int .u32 c0_Two], Res.sl Ek.bool 4 vt4000 t4000, Res.obj 25 ot4000 [vt4000]]) (tail := ow) (rs' := [Res.sl Ek.bool 4 vt4000 t4000, Res.obj 25 ot4000 [vt4000]]) hp [1, 2] (by decide) (by simp) rfl
  refine wp_loop_pure (f := (f_trellis_Code_through.s1 c0_Length l1 t6000_Length t6000_One t6000_Two)) (s := (t4000, (0 : Int), (0 : Int))) (fun s a w => ∃ (v7 : Value), Fr 60 a [(1, vl1), (2, .func (.func 37) #[.agg #[.int .i64 t6000_Length, .int .u32 t6000_One, .int .u32 t6000_Two]] #[]), (3, .func (.func 38) #[] #[optr ot4000 0]), (10, .int .i64 s.2.1), (32, .int .i64 (IntKind.i64.wrap ((IntKind.i64.wrap ((l1.length : Int) + c0_Length)) - (1 : Int)))), (33, .int .i64 s.2.2)] ∧ Hp S w0 w (Res.sl Ek.bool 4 v7 s.1 :: Res.obj 25 ot4000 [v7] :: ow)) (fun q e a w => e = .exit 0 ∧ ∃ (v10 : Value), Fr 60 a [(3, .func (.func 38) #[] #[optr ot4000 0])] ∧ Hp S w0 w (Res.sl Ek.bool 4 v10 q :: Res.obj 25 ot4000 [v10] :: ow)) ?_ hl ⟨_, hf.sub ⟨rfl, rfl, rfl, rfl, rfl, rfl, trivial⟩, hp⟩ ?_
  · clear hl hf hp
    intro s x a w h hI
    obtain ⟨tell3_0c, state10, t33⟩ := s
    obtain ⟨v7, hf, hp⟩ : ∃ (v7 : Value), Fr 60 a [(1, vl1), (2, .func (.func 37) #[.agg #[.int .i64 t6000_Length, .int .u32 t6000_One, .int .u32 t6000_Two]] #[]), (3, .func (.func 38) #[] #[optr ot4000 0]), (10, .int .i64 state10), (32, .int .i64 (IntKind.i64.wrap ((IntKind.i64.wrap ((l1.length : Int) + c0_Length)) - (1 : Int)))), (33, .int .i64 t33)] ∧ Hp S w0 w (Res.sl Ek.bool 4 v7 tell3_0c :: Res.obj 25 ot4000 [v7] :: ow) := hI
    replace h : f_trellis_Code_through.s1c c0_Length l1 t6000_Length t6000_One t6000_Two tell3_0c state10 t33 = some x := h
    unfold f_trellis_Code_through.s1c at h
    refine wp_seq ?_
    refine wp_reg ?_
    refine st_ilss hf (by decide) rfl rfl rfl ?_
    clear hf; intro a ha hf; clear ha
    refine st_nil hf ?_
    refine th_n ?_
    refine wp_seq ?_
    refine wp_if hf rfl (fun hb => ?_) (fun hb => ?_)
    · replace h := ifT h hb
      refine wp_skip ?_
      refine th_n ?_
      refine wp_seq ?_
      refine wp_block ?_
      refine wp_seq ?_
      refine wp_reg ?_
      refine st_move hf rfl rfl (by decide) ?_
      clear hf; intro a ha hf; clear ha
      refine st_assign hf rfl rfl (by decide) ?_
      clear hf; intro a ha hf; clear ha
      refine st_nil hf ?_
      refine th_n ?_
      refine wp_seq ?_
      refine wp_reg ?_
      refine st_move hf rfl rfl (by decide) ?_
      clear hf; intro a ha hf; clear ha
      refine st_move hf rfl rfl (by decide) ?_
      clear hf; intro a ha hf; clear ha
      refine st_move hf rfl rfl (by decide) ?_
      clear hf; intro a ha hf; clear ha
      refine st_move hf rfl rfl (by decide) ?_
      clear hf; intro a ha hf; clear ha
      refine st_len (E := Ek.bool) hf (by decide) Try.underlying25 rfl rfl (hl1.sl hp) ?_
      clear hf; intro a ha hf; clear ha
      refine st_ilss hf (by decide) rfl rfl rfl ?_
      clear hf; intro a ha hf; clear ha
      refine st_move hf rfl rfl (by decide) ?_
      clear hf; intro a ha hf; clear ha
      obtain ⟨z15, hz13, h⟩ := bnd h
      refine wpList_cut 5 (fun a w => Fr 60 a [(1, vl1), (2, .func (.func 37) #[.agg #[.int .i64 t6000_Length, .int .u32 t6000_One, .int .u32 t6000_Two]] #[]), (3, .func (.func 38) #[] #[optr ot4000 0]), (32, .int .i64 (IntKind.i64.wrap ((IntKind.i64.wrap ((l1.length : Int) + c0_Length)) - (1 : Int)))), (33, .int .i64 t33), (37, .func (.func 37) #[.agg #[.int .i64 t6000_Length, .int .u32 t6000_One, .int .u32 t6000_Two]] #[]), (38, .int .i64 state10), (48, .bool z15)] ∧ Hp S w0 w (Res.sl Ek.bool 4 v7 tell3_0c :: Res.obj 25 ot4000 [v7] :: ow)) ?_ ?_
      · rcases Bool.eq_false_or_eq_true (decide (t33 < (l1.length : Int))) with hb14 | hb14
        · skip
          replace hz13 := ifT hz13 hb14
          refine st_move hf (wantY hf rfl rfl hb14) rfl (by decide) ?_
          clear hf; intro a ha hf; clear ha
          refine st_move hf (wantY hf rfl rfl hb14) rfl (by decide) ?_
          clear hf; intro a ha hf; clear ha
          obtain ⟨hc16, hz13⟩ := chk hz13
          refine st_index (E := Ek.bool) hf (by decide) Try.underlying25 elt4 (wantY hf rfl rfl hb14) rfl rfl (hl1.sl hp) hc16.1 hc16.2 ?_
          clear hf; intro a ha hf; clear ha
          refine st_ldB hf (by decide) pl4 (wantY hf rfl rfl hb14) rfl (hl1.sl hp) hc16.1 hc16.2 ?_
          clear hf; intro a ha hf; clear ha
          obtain rfl := Option.some.inj hz13
          refine st_pick (v := .bool (gt l1 t33)) hf rfl rfl (fun hb' => ?_) (fun hb' => ?_) (by decide) ?_
          · rfl
          · exact absurd (hb14.symm.trans hb') (by decide)
          clear hf; intro a ha hf; clear ha
          refine st_nil hf (th_n ?_)
          exact ⟨hf.sub ⟨rfl, rfl, rfl, rfl, rfl, rfl, rfl, rfl, trivial⟩, hp⟩
        replace hz13 := ifF hz13 hb14
        refine st_skip hf (wantN hf rfl rfl hb14) rfl (by decide) ?_ rfl
        clear hf; intro a hf
        refine st_skip hf (wantN hf rfl rfl hb14) rfl (by decide) ?_ rfl
        clear hf; intro a hf
        refine st_skip hf (wantN hf rfl rfl hb14) rfl (by decide) ?_ rfl
        clear hf; intro a hf
        refine st_skip hf (wantN hf rfl rfl hb14) rfl (by decide) ?_ rfl
        clear hf; intro a hf
        obtain rfl := Option.some.inj hz13
        refine st_pick (v := .bool false) hf rfl rfl (fun hb' => ?_) (fun hb' => ?_) (by decide) ?_
        · exact absurd (hb14.symm.trans hb') (by decide)
        · rfl
        clear hf; intro a ha hf; clear ha
        refine st_nil hf (th_n ?_)
        exact ⟨hf.sub ⟨rfl, rfl, rfl, rfl, rfl, rfl, rfl, rfl, trivial⟩, hp⟩
      rintro a w ⟨hf, hp⟩
      obtain ⟨q17, hcall18, h⟩ := bnd h
      refine st_callM hf (by decide) Try.func37 rfl rfl rfl rfl rfl (f_trellis_Code_step_c hp _ _ _ _ _ hcall18) ?_
      rintro _ w ⟨rfl, hp0⟩
      clear hp; have hp := hp0; clear hp0
      replace hp : Hp _ _ _ (Res.sl Ek.bool 4 v7 tell3_0c :: Res.obj 25 ot4000 [v7] :: ow) := hp
      refine ⟨_, rfl, ?_⟩
      clear hf; intro a hf
      refine st_move hf rfl rfl (by decide) ?_
      clear hf; intro a ha hf; clear ha
      refine st_extract hf (by decide) rfl rfl rfl ?_
      clear hf; intro a ha hf; clear ha
      refine st_extract hf (by decide) rfl rfl rfl ?_
      clear hf; intro a ha hf; clear ha
      refine st_extract hf (by decide) rfl rfl rfl ?_
      clear hf; intro a ha hf; clear ha
      refine st_assign hf rfl rfl (by decide) ?_
      clear hf; intro a ha hf; clear ha
      refine st_assign hf rfl rfl (by decide) ?_
      clear hf; intro a ha hf; clear ha
      refine st_assign hf rfl rfl (by decide) ?_
      clear hf; intro a ha hf; clear ha
      refine st_nil hf ?_
      refine th_n ?_
      refine wp_seq ?_
      refine wp_reg ?_
      refine st_move hf rfl rfl (by decide) ?_
      clear hf; intro a ha hf; clear ha
      refine st_move hf rfl rfl (by decide) ?_
      clear hf; intro a ha hf; clear ha
      refine st_move hf rfl rfl (by decide) ?_
      clear hf; intro a ha hf; clear ha
      refine st_move hf rfl rfl (by decide) ?_
      clear hf; intro a ha hf; clear ha
      obtain ⟨q19, hcall20, h⟩ := bnd h
      have hp21 : Hp _ _ _ (Res.sl Ek.bool 4 v7 tell3_0c :: Res.obj 25 ot4000 [v7] :: ow) := Hp.sel (pre := [Res.sl Ek.bool 4 v7 tell3_0c, Res.obj 25 ot4000 [v7]]) (tail := ow) (rs' := [Res.sl Ek.bool 4 v7 tell3_0c, Res.obj 25 ot4000 [v7]]) hp [0, 1] (by decide) (by simp) rfl
      refine st_call hf (by decide) Try.func38 rfl rfl rfl rfl rfl (f_trellis_Code_Encode_1_c _ _ _ _ _ _ hp21 hcall20) ?_
      rintro _ w ⟨v22, rfl, hp0⟩
      clear hp; have hp := hp0; clear hp0
      replace hp : Hp _ _ _ (Res.sl Ek.bool 4 v22 q19 :: Res.obj 25 ot4000 [v22] :: ow) := hp
      refine ⟨_, rfl, ?_⟩
      clear hf; intro a hf
      refine st_nil hf ?_
      refine th_n ?_
      refine wp_reg ?_
      refine st_move hf rfl rfl (by decide) ?_
      clear hf; intro a ha hf; clear ha
      refine st_assign hf rfl rfl (by decide) ?_
      clear hf; intro a ha hf; clear ha
      refine st_nil hf ?_
      refine ib_n ?_
      refine th_n ?_
      refine wp_reg ?_
      refine st_iadd hf (by decide) rfl rfl rfl ?_
      clear hf; intro a ha hf; clear ha
      refine st_move hf rfl rfl (by decide) ?_
      clear hf; intro a ha hf; clear ha
      refine st_nil hf ?_
      obtain rfl := Option.some.inj h
      exact rnd_l ⟨_, hf.sub ⟨rfl, rfl, rfl, rfl, rfl, rfl, trivial⟩, hp⟩
    replace h := ifF h hb
    refine wp_exit ?_
    refine th_e ?_
    obtain rfl := Option.some.inj h
    exact rnd_r (by simp) ⟨rfl, _, hf.sub ⟨rfl, trivial⟩, hp⟩
  clear hl hf hp
  intro e a w hne hO
  obtain ⟨rfl, v10, hf, hp⟩ := hO
  refine ib_same ?_
  refine th_n ?_
  refine wp_seq ?_
  refine wp_reg ?_
  refine st_assign hf rfl rfl (by decide) ?_
  clear hf; intro a ha hf; clear ha
  refine st_nil hf ?_
  refine th_n ?_
  refine wp_ret ?_
  obtain rfl := Option.some.inj h
  exact ⟨rfl, ⟨_, hf.sub ⟨rfl, trivial⟩, hp⟩⟩

noncomputable def f_trellis_Code_Encode (c0_Length : Int) (c0_One : Int) (c0_Two : Int) (bits1 : (List Bool)) : Option ((List Bool) × Int) := ((f_trellis_Code_through c0_Length c0_One c0_Two bits1 c0_Length c0_One c0_Two ([])).bind fun q5 => (some (q5.2, q5.1)))
theorem f_trellis_Code_Encode_c {S : Nat → Prop} {w0 w : World} {ow : List Res} (hp : Hp S w0 w ow) (c0_Length : Int) (c0_One : Int) (c0_Two : Int) (vbits1 : Value) (bits1 : (List Bool)) (hbits1 : RdS Ek.bool S w0 vbits1 bits1) {r : ((List Bool) × Int)} (h : f_trellis_Code_Encode c0_Length c0_One c0_Two bits1 = some r) :
    Calls Try.prog 13 #[.agg #[.int .i64 c0_Length, .int .u32 c0_One, .int .u32 c0_Two], vbits1] w (fun e w' => ∃ (u0 : Value), e = .returned (.tuple #[u0, .int .i64 r.2]) ∧ Hp S w0 w' (Res.sl Ek.bool 4 u0 r.1 :: ow)) := by
  unfold f_trellis_Code_Encode at h
  refine enter (n := 16) (args := [.agg #[.int .i64 c0_Length, .int .u32 c0_One, .int .u32 c0_Two], vbits1]) Try.func13 rfl rfl (Nat.le_of_ble_eq_true rfl) fun a hf => ?_
  replace hf : Fr 16 a [(0, .agg #[.int .i64 c0_Length, .int .u32 c0_One, .int .u32 c0_Two]), (1, vbits1)] := hf
  refine wp_mono (Q := fun e a w => e = .ret ∧ ∃ (u0 : Value), Fr 16 a [(4, u0), (5, .int .i64 r.2)] ∧ Hp S w0 w (Res.sl Ek.bool 4 u0 r.1 :: ow)) ?_ ?_
  rotate_left
  · rintro e a w ⟨rfl, x0, hf, hp⟩
    exact ret2 hf rfl rfl rfl ⟨x0, rfl, hp⟩
  refine wp_seq ?_
  refine wp_reg ?_
  refine st_boxO (cs := [.int .i64 c0_Length, .int .u32 c0_One, .int .u32 c0_Two]) hf (by decide) hp rfl rfl rfl ?_
  clear hf; intro a w v1 hf hp0; clear hp; have hp := hp0; clear hp0
  replace hp : Hp _ _ _ (Res.obj 34 v1 [.int .i64 c0_Length, .int .u32 c0_One, .int .u32 c0_Two] :: ow) := hp
  refine st_assign hf rfl rfl (by decide) ?_
  clear hf; intro a ha hf; clear ha
  refine st_assign hf rfl rfl (by decide) ?_
  clear hf; intro a ha hf; clear ha
  refine st_nil hf ?_
  refine th_n ?_
  refine wp_seq ?_
  refine wp_reg ?_
  refine st_alloc (cs := [.slice none 0 0]) (zv := .slice none 0 0) hf (by decide) (by kernel_rfl) rfl hp rfl ?_
  clear hf; intro a w v3 hf hp0; clear hp; have hp := hp0; clear hp0
  replace hp : Hp _ _ _ (Res.obj 25 v3 [.slice none 0 0] :: Res.obj 34 v1 [.int .i64 c0_Length, .int .u32 c0_One, .int .u32 c0_Two] :: ow) := hp
  refine st_nil hf ?_
  refine th_n ?_
  refine wp_seq ?_
  refine wp_reg ?_
  refine st_ldOA (m := 3) (us := [.int .i64 c0_Length, .int .u32 c0_One, .int .u32 c0_Two]) hf (by decide) (by kernel_rfl) rfl rfl (hp.ob (i := 1) rfl) rfl rfl ?_
  clear hf; intro a ha hf; clear ha
  refine st_move hf rfl rfl (by decide) ?_
  clear hf; intro a ha hf; clear ha
  refine st_ldOA (m := 3) (us := [.int .i64 c0_Length, .int .u32 c0_One, .int .u32 c0_Two]) hf (by decide) (by kernel_rfl) rfl rfl (hp.ob (i := 1) rfl) rfl rfl ?_
  clear hf; intro a ha hf; clear ha
  refine st_makeFuncM hf (by decide) rfl rfl ?_
  clear hf; intro a ha hf; clear ha
  refine st_makeFunc1 hf (by decide) rfl rfl ?_
  clear hf; intro a ha hf; clear ha
  obtain ⟨q5, hcall6, h⟩ := bnd h
  have hp := hp.nil Ek.bool 4
  have hp8 : Hp _ _ _ (Res.sl Ek.bool 4 (.slice none 0 0) ([] : List Bool) :: Res.obj 25 v3 [.slice none 0 0] :: Res.obj 34 v1 [.int .i64 c0_Length, .int .u32 c0_One, .int .u32 c0_Two] :: ow) := Hp.sel (pre := [Res.sl Ek.bool 4 (.slice none 0 0) ([] : List Bool), Res.obj 25 v3 [.slice none 0 0], Res.obj 34 v1 [.int .i64 c0_Length, .int .u32 c0_One, .int .u32 c0_Two]]) (tail := ow) (rs' := [Res.sl Ek.bool 4 (.slice none 0 0) ([] : List Bool), Res.obj 25 v3 [.slice none 0 0], Res.obj 34 v1 [.int .i64 c0_Length, .int .u32 c0_One, .int .u32 c0_Two]]) hp [0, 1, 2] (by decide) (by simp) rfl
  refine st_call hf (by decide) Try.func36 rfl rfl rfl rfl rfl (f_trellis_Code_through_c _ _ _ _ _ hbits1 _ _ _ _ _ _ hp8 hcall6) ?_
  rintro _ w ⟨v9, rfl, hp0⟩
  clear hp; have hp := hp0; clear hp0
  replace hp : Hp _ _ _ (Res.sl Ek.bool 4 v9 q5.2 :: Res.obj 25 v3 [v9] :: Res.obj 34 v1 [.int .i64 c0_Length, .int .u32 c0_One, .int .u32 c0_Two] :: ow) := hp
  refine ⟨_, rfl, ?_⟩
  clear hf; intro a hf
  refine st_assign hf rfl rfl (by decide) ?_
  clear hf; intro a ha hf; clear ha
  refine st_nil hf ?_
  refine th_n ?_
  refine wp_seq ?_
  refine wp_reg ?_
  refine st_ldO (u := v9) hf (by decide) pl25 rfl rfl (hp.ob (i := 1) rfl) rfl ?_
  clear hf; intro a ha hf; clear ha
  refine st_move hf rfl rfl (by decide) ?_
  clear hf; intro a ha hf; clear ha
  refine st_assign hf rfl rfl (by decide) ?_
  clear hf; intro a ha hf; clear ha
  refine st_assign hf rfl rfl (by decide) ?_
  clear hf; intro a ha hf; clear ha
  refine st_nil hf ?_
  refine th_n ?_
  refine wp_ret ?_
  obtain rfl := Option.some.inj h
  have hp : Hp _ _ _ (Res.sl Ek.bool 4 v9 q5.2 :: ow) := Hp.sel (pre := [Res.sl Ek.bool 4 v9 q5.2, Res.obj 25 v3 [v9], Res.obj 34 v1 [.int .i64 c0_Length, .int .u32 c0_One, .int .u32 c0_Two]]) (tail := ow) (rs' := [Res.sl Ek.bool 4 v9 q5.2]) hp [0] (by decide) (by simp) rfl
  exact ⟨rfl, ⟨_, hf.sub ⟨rfl, rfl, trivial⟩, hp⟩⟩

noncomputable def f_foghornref21_Same.s1c (a0 : (List Bool)) (b1 : (List Bool)) (i5 : Int) : Option (Int ⊕ (Unit ⊕ Bool)) := (if (decide (i5 < (a0.length : Int))) = true then (if 0 ≤ i5 ∧ i5 < (a0.length : Int) then (if 0 ≤ i5 ∧ i5 < (b1.length : Int) then (if ((gt a0 i5) != (gt b1 i5)) = true then (some (Sum.inr (Sum.inr false))) else (some (Sum.inl (IntKind.i64.wrap (i5 + (1 : Int)))))) else none) else none) else (some (Sum.inr (Sum.inl ()))))
noncomputable def f_foghornref21_Same.s1 (a0 : (List Bool)) (b1 : (List Bool)) (s : Int) : Option (Int ⊕ (Unit ⊕ Bool)) := f_foghornref21_Same.s1c a0 b1 s
noncomputable def f_foghornref21_Same (a0 : (List Bool)) (b1 : (List Bool)) : Option Bool := (if ((a0.length : Int) != (b1.length : Int)) = true then (some false) else ((loop (f_foghornref21_Same.s1 a0 b1) (0 : Int)).bind (fun q3 => sm q3 (fun q4 => (some true)) (fun q5 => (some q5)))))
theorem f_foghornref21_Same_c {S : Nat → Prop} {w0 w : World} {ow : List Res} (hp : Hp S w0 w ow) (va0 : Value) (a0 : (List Bool)) (ha0 : RdS Ek.bool S w0 va0 a0) (vb1 : Value) (b1 : (List Bool)) (hb1 : RdS Ek.bool S w0 vb1 b1) {r : Bool} (h : f_foghornref21_Same a0 b1 = some r) :
    Calls Try.prog 33 #[va0, vb1] w (fun e w' => e = .returned (.bool r) ∧ Hp S w0 w' (ow)) := by
  unfold f_foghornref21_Same at h
  refine enter (n := 26) (args := [va0, vb1]) Try.func33 rfl rfl (Nat.le_of_ble_eq_true rfl) fun a hf => ?_
  replace hf : Fr 26 a [(0, va0), (1, vb1)] := hf
  refine wp_mono (Q := fun e a w => e = .ret ∧ Fr 26 a [(4, .bool r)] ∧ Hp S w0 w (ow)) ?_ ?_
  rotate_left
  · rintro e a w ⟨rfl, hf, hp⟩
    exact ret1 hf rfl rfl ⟨rfl, hp⟩
  refine wp_seq ?_
  refine wp_reg ?_
  refine st_assign hf rfl rfl (by decide) ?_
  clear hf; intro a ha hf; clear ha
  refine st_nil hf ?_
  refine th_n ?_
  refine wp_seq ?_
  refine wp_seq ?_
  refine wp_reg ?_
  refine st_move hf rfl rfl (by decide) ?_
  clear hf; intro a ha hf; clear ha
  refine st_len (E := Ek.bool) hf (by decide) Try.underlying25 rfl rfl (ha0.sl hp) ?_
  clear hf; intro a ha hf; clear ha
  refine st_move hf rfl rfl (by decide) ?_
  clear hf; intro a ha hf; clear ha
  refine st_len (E := Ek.bool) hf (by decide) Try.underlying25 rfl rfl (hb1.sl hp) ?_
  clear hf; intro a ha hf; clear ha
  refine st_ineq hf (by decide) rfl rfl rfl ?_
  clear hf; intro a ha hf; clear ha
  refine st_nil hf ?_
  refine th_n ?_
  refine wp_if hf rfl (fun hb => ?_) (fun hb => ?_)
  · replace h := ifT h hb
    refine wp_seq ?_
    refine wp_reg ?_
    refine st_assign hf rfl rfl (by decide) ?_
    clear hf; intro a ha hf; clear ha
    refine st_nil hf ?_
    refine th_n ?_
    refine wp_ret ?_
    refine th_r ?_
    obtain rfl := Option.some.inj h
    exact ⟨rfl, ⟨hf.sub ⟨rfl, trivial⟩, hp⟩⟩
  replace h := ifF h hb
  refine wp_skip ?_
  refine th_n ?_
  refine wp_seq ?_
  refine wp_seq ?_
  refine wp_reg ?_
  refine st_assign hf rfl rfl (by decide) ?_
  clear hf; intro a ha hf; clear ha
  refine st_nil hf ?_
  refine th_n ?_
  refine wp_block ?_
  obtain ⟨q3, hl, h⟩ := bnd h
  refine wp_loop_pure (f := (f_foghornref21_Same.s1 a0 b1)) (s := (0 : Int)) (fun s a w => Fr 26 a [(0, va0), (1, vb1), (5, .int .i64 s)] ∧ Hp S w0 w (ow)) (fun q e a w => match q with | (Sum.inl q) => e = .exit 0 ∧ Fr 26 a [] ∧ Hp S w0 w (ow) | (Sum.inr q) => e = .ret ∧ Fr 26 a [(4, .bool q)] ∧ Hp S w0 w (ow)) ?_ hl ⟨hf.sub ⟨rfl, rfl, rfl, trivial⟩, hp⟩ ?_
  · clear hl hf hp
    intro s x a w h hI
    obtain ⟨i5, hs⟩ : ∃ z, z = s := ⟨s, rfl⟩; subst hs
    obtain ⟨hf, hp⟩ : Fr 26 a [(0, va0), (1, vb1), (5, .int .i64 i5)] ∧ Hp S w0 w (ow) := hI
    replace h : f_foghornref21_Same.s1c a0 b1 i5 = some x := h
    unfold f_foghornref21_Same.s1c at h
    refine wp_seq ?_
    refine wp_seq ?_
    refine wp_reg ?_
    refine st_move hf rfl rfl (by decide) ?_
    clear hf; intro a ha hf; clear ha
    refine st_move hf rfl rfl (by decide) ?_
    clear hf; intro a ha hf; clear ha
    refine st_len (E := Ek.bool) hf (by decide) Try.underlying25 rfl rfl (ha0.sl hp) ?_
    clear hf; intro a ha hf; clear ha
    refine st_ilss hf (by decide) rfl rfl rfl ?_
    clear hf; intro a ha hf; clear ha
    refine st_nil hf ?_
    refine th_n ?_
    refine wp_if hf rfl (fun hb => ?_) (fun hb => ?_)
    · replace h := ifT h hb
      refine wp_skip ?_
      refine th_n ?_
      refine wp_seq ?_
      refine wp_block ?_
      refine wp_seq ?_
      obtain ⟨hc1, h⟩ := chk h
      obtain ⟨hc2, h⟩ := chk h
      refine wp_cutN (fun a w => Fr 26 a [(0, va0), (1, vb1), (5, .int .i64 i5), (25, .bool ((gt a0 i5) != (gt b1 i5)))] ∧ Hp S w0 w (ow)) ?_ ?_
      · have hp := hp.same (Same.drew w)
        refine dr_begin' (fun a w => Fr 26 a [(0, va0), (1, vb1), (5, .int .i64 i5), (25, .bool ((gt a0 i5) != (gt b1 i5)))] ∧ Hp S w0 w (ow)) (fun w' => ∃ l, Hp S w0 w' l) [] (by kernel_rfl) ?_
        refine dr_take 0 (va0) rfl (by kernel_rfl) (by kernel_rfl) (by kernel_rfl) (by kernel_rfl) rfl rfl hf (by decide) rfl (fun w hp => ?_) ⟨_, hp⟩ ?_
        · obtain ⟨_, hp⟩ := hp
          refine st_move hf rfl rfl (by decide) ?_
          clear hf; intro a ha hf
          exact st_nil hf (th_n ⟨ha, rfl⟩)
        clear hf; intro a hf
        refine dr_take 1 (.int .i64 i5) rfl (by kernel_rfl) (by kernel_rfl) (by kernel_rfl) (by kernel_rfl) rfl rfl hf (by decide) rfl (fun w hp => ?_) ⟨_, hp⟩ ?_
        · obtain ⟨_, hp⟩ := hp
          refine st_move hf rfl rfl (by decide) ?_
          clear hf; intro a ha hf
          exact st_nil hf (th_n ⟨ha, rfl⟩)
        clear hf; intro a hf
        refine dr_take 2 (eptr va0 i5 1) rfl (by kernel_rfl) (by kernel_rfl) (by kernel_rfl) (by kernel_rfl) rfl rfl hf (by decide) rfl (fun w hp => ?_) ⟨_, hp⟩ ?_
        · obtain ⟨_, hp⟩ := hp
          refine st_index (E := Ek.bool) hf (by decide) Try.underlying25 elt4 rfl rfl rfl (ha0.sl hp) hc1.1 hc1.2 ?_
          clear hf; intro a ha hf
          exact st_nil hf (th_n ⟨ha, rfl⟩)
        clear hf; intro a hf
        refine dr_take 3 (.bool (gt a0 i5)) rfl (by kernel_rfl) (by kernel_rfl) (by kernel_rfl) (by kernel_rfl) rfl rfl hf (by decide) rfl (fun w hp => ?_) ⟨_, hp⟩ ?_
        · obtain ⟨_, hp⟩ := hp
          refine st_ldB hf (by decide) pl4 rfl rfl (ha0.sl hp) hc1.1 hc1.2 ?_
          clear hf; intro a ha hf
          exact st_nil hf (th_n ⟨ha, rfl⟩)
        clear hf; intro a hf
        refine dr_take 4 (vb1) rfl (by kernel_rfl) (by kernel_rfl) (by kernel_rfl) (by kernel_rfl) rfl rfl hf (by decide) rfl (fun w hp => ?_) ⟨_, hp⟩ ?_
        · obtain ⟨_, hp⟩ := hp
          refine st_move hf rfl rfl (by decide) ?_
          clear hf; intro a ha hf
          exact st_nil hf (th_n ⟨ha, rfl⟩)
        clear hf; intro a hf
        refine dr_take 5 (.int .i64 i5) rfl (by kernel_rfl) (by kernel_rfl) (by kernel_rfl) (by kernel_rfl) rfl rfl hf (by decide) rfl (fun w hp => ?_) ⟨_, hp⟩ ?_
        · obtain ⟨_, hp⟩ := hp
          refine st_move hf rfl rfl (by decide) ?_
          clear hf; intro a ha hf
          exact st_nil hf (th_n ⟨ha, rfl⟩)
        clear hf; intro a hf
        refine dr_take 6 (eptr vb1 i5 1) rfl (by kernel_rfl) (by kernel_rfl) (by kernel_rfl) (by kernel_rfl) rfl rfl hf (by decide) rfl (fun w hp => ?_) ⟨_, hp⟩ ?_
        · obtain ⟨_, hp⟩ := hp
          refine st_index (E := Ek.bool) hf (by decide) Try.underlying25 elt4 rfl rfl rfl (hb1.sl hp) hc2.1 hc2.2 ?_
          clear hf; intro a ha hf
          exact st_nil hf (th_n ⟨ha, rfl⟩)
        clear hf; intro a hf
        refine dr_take 7 (.bool (gt b1 i5)) rfl (by kernel_rfl) (by kernel_rfl) (by kernel_rfl) (by kernel_rfl) rfl rfl hf (by decide) rfl (fun w hp => ?_) ⟨_, hp⟩ ?_
        · obtain ⟨_, hp⟩ := hp
          refine st_ldB hf (by decide) pl4 rfl rfl (hb1.sl hp) hc2.1 hc2.2 ?_
          clear hf; intro a ha hf
          exact st_nil hf (th_n ⟨ha, rfl⟩)
        clear hf; intro a hf
        refine dr_take 8 (.bool ((gt a0 i5) != (gt b1 i5))) rfl (by kernel_rfl) (by kernel_rfl) (by kernel_rfl) (by kernel_rfl) rfl rfl hf (by decide) rfl (fun w hp => ?_) ⟨_, hp⟩ ?_
        · obtain ⟨_, hp⟩ := hp
          refine st_bneq hf (by decide) Try.underlying4 rfl rfl rfl ?_
          clear hf; intro a ha hf
          exact st_nil hf (th_n ⟨ha, rfl⟩)
        clear hf; intro a hf
        refine dr_end (by kernel_rfl) ?_ _
        exact ⟨hf.sub ⟨rfl, rfl, rfl, rfl, trivial⟩, hp⟩
      rintro a w ⟨hf, hp⟩
      refine th_n ?_
      refine wp_if hf rfl (fun hb => ?_) (fun hb => ?_)
      · replace h := ifT h hb
        refine wp_seq ?_
        refine wp_reg ?_
        refine st_assign hf rfl rfl (by decide) ?_
        clear hf; intro a ha hf; clear ha
        refine st_nil hf ?_
        refine th_n ?_
        refine wp_ret ?_
        refine ib_r ?_
        refine th_r ?_
        obtain rfl := Option.some.inj h
        exact rnd_r (by simp) ⟨rfl, ⟨hf.sub ⟨rfl, trivial⟩, hp⟩⟩
      replace h := ifF h hb
      refine wp_skip ?_
      refine ib_n ?_
      refine th_n ?_
      refine wp_reg ?_
      refine st_move hf rfl rfl (by decide) ?_
      clear hf; intro a ha hf; clear ha
      refine st_iadd hf (by decide) rfl rfl rfl ?_
      clear hf; intro a ha hf; clear ha
      refine st_assign hf rfl rfl (by decide) ?_
      clear hf; intro a ha hf; clear ha
      refine st_nil hf ?_
      obtain rfl := Option.some.inj h
      exact rnd_l ⟨hf.sub ⟨rfl, rfl, rfl, trivial⟩, hp⟩
    replace h := ifF h hb
    refine wp_exit ?_
    refine th_e ?_
    obtain rfl := Option.some.inj h
    exact rnd_r (by simp) ⟨rfl, hf.sub trivial, hp⟩
  clear hl hf hp
  intro e a w hne hO
  rcases q3 with q4 | q5
  · replace h := smL h
    obtain ⟨rfl, hf, hp⟩ := hO
    refine ib_same ?_
    refine th_n ?_
    refine wp_seq ?_
    refine wp_reg ?_
    refine st_assign hf rfl rfl (by decide) ?_
    clear hf; intro a ha hf; clear ha
    refine st_nil hf ?_
    refine th_n ?_
    refine wp_ret ?_
    obtain rfl := Option.some.inj h
    exact ⟨rfl, ⟨hf.sub ⟨rfl, trivial⟩, hp⟩⟩
  replace h := smR h
  obtain ⟨rfl, hf, hp⟩ := hO
  refine ib_r ?_
  refine th_r ?_
  obtain rfl := Option.some.inj h
  exact ⟨rfl, ⟨hf.sub ⟨rfl, trivial⟩, hp⟩⟩

noncomputable def f_trellis_Short  : Option (Int × Int × Int) := (some ((3 : Int), (7 : Int), (5 : Int)))
theorem f_trellis_Short_c {S : Nat → Prop} {w0 w : World} {ow : List Res} (hp : Hp S w0 w ow) {r : (Int × Int × Int)} (h : f_trellis_Short = some r) :
    Calls Try.prog 30 #[] w (fun e w' => e = .returned (.agg #[.int .i64 r.1, .int .u32 r.2.1, .int .u32 r.2.2]) ∧ Hp S w0 w' (ow)) := by
  unfold f_trellis_Short at h
  refine enter (n := 2) (args := []) Try.func30 rfl rfl (Nat.le_of_ble_eq_true rfl) fun a hf => ?_
  replace hf : Fr 2 a [] := hf
  refine wp_mono (Q := fun e a w => e = .ret ∧ ∃ (c0 : Value), Fr 2 a [(0, optr c0 0)] ∧ Hp S w0 w (Res.obj 34 c0 [.int .i64 r.1, .int .u32 r.2.1, .int .u32 r.2.2] :: ow)) ?_ ?_
  rotate_left
  · rintro e a w ⟨rfl, c0, hf, hp⟩
    exact retG1 hf rfl ⟨_, _, rfl, hp.ob (i := 0) rfl, .inr ⟨by kernel_rfl, rfl⟩⟩ ⟨rfl, hp.drop⟩
  refine wp_seq ?_
  refine wp_reg ?_
  refine st_alloc (cs := [.int .i64 (0 : Int), .int .u32 (0 : Int), .int .u32 (0 : Int)]) (zv := .agg #[.int .i64 (0 : Int), .int .u32 (0 : Int), .int .u32 (0 : Int)]) hf (by decide) (by kernel_rfl) rfl hp rfl ?_
  clear hf; intro a w v1 hf hp0; clear hp; have hp := hp0; clear hp0
  replace hp : Hp _ _ _ (Res.obj 34 v1 [.int .i64 (0 : Int), .int .u32 (0 : Int), .int .u32 (0 : Int)] :: ow) := hp
  refine st_nil hf ?_
  refine th_n ?_
  refine wp_seq ?_
  refine wp_reg ?_
  refine st_buildA (vals := [(0, .int .i64 (3 : Int)), (1, .int .u32 (7 : Int)), (2, .int .u32 (5 : Int))]) (cells := [.int .i64 (3 : Int), .int .u32 (7 : Int), .int .u32 (5 : Int)]) hf (by decide) rfl (by simp [hf.ev (x := (Operand.const (.int .i64 (3 : Int)))) rfl, hf.ev (x := (Operand.const (.int .u32 (7 : Int)))) rfl, hf.ev (x := (Operand.const (.int .u32 (5 : Int)))) rfl]) (fun w => by kernel_rfl) ?_
  clear hf; intro a ha hf; clear ha
  refine st_stO (us := [.int .i64 (3 : Int), .int .u32 (7 : Int), .int .u32 (5 : Int)]) hf hp (i := 0) rfl rfl rfl rfl rfl (by rfl) (by kernel_rfl) (Nat.le_of_ble_eq_true rfl) ?_
  clear hf; intro a w hf hp0; clear hp; have hp := hp0; clear hp0
  replace hp : Hp _ _ _ (Res.obj 34 v1 [.int .i64 (3 : Int), .int .u32 (7 : Int), .int .u32 (5 : Int)] :: ow) := hp
  refine st_nil hf ?_
  refine th_n ?_
  refine wp_ret ?_
  obtain rfl := Option.some.inj h
  exact ⟨rfl, ⟨_, hf.sub ⟨rfl, trivial⟩, hp⟩⟩

noncomputable def f_foghornlaw21_awake  : Option Bool := ((f_trellis_Code_Encode (3 : Int) (7 : Int) (5 : Int) ([true])).bind fun q3 => ((if (q3.2 == (0 : Int)) = true then ((f_foghornref21_Same q3.1 ([true, true, true, false, true, true])).bind fun q17 => (some q17)) else (some false)).bind fun z14 => ((if z14 = true then ((f_trellis_Short).bind fun q32 => (some ((q32.1 == (3 : Int)) && ((q32.2.1 == (7 : Int)) && ((q32.2.2 == (5 : Int)) && true))))) else (some false)).bind fun z31 => (some z31))))
theorem f_foghornlaw21_awake_c {S : Nat → Prop} {w0 w : World} {ow : List Res} (hp : Hp S w0 w ow) {r : Bool} (h : f_foghornlaw21_awake = some r) :
    Calls Try.prog 11 #[] w (fun e w' => e = .returned (.bool r) ∧ Hp S w0 w' (ow)) := by
  unfold f_foghornlaw21_awake at h
  refine enter (n := 21) (args := []) Try.func11 rfl rfl (Nat.le_of_ble_eq_true rfl) fun a hf => ?_
  replace hf : Fr 21 a [] := hf
  refine wp_mono (Q := fun e a w => e = .ret ∧ Fr 21 a [(0, .bool r)] ∧ Hp S w0 w (ow)) ?_ ?_
  rotate_left
  · rintro e a w ⟨rfl, hf, hp⟩
    exact ret1 hf rfl rfl ⟨rfl, hp⟩
  refine wp_seq ?_
  refine wp_reg ?_
  refine st_assign hf rfl rfl (by decide) ?_
  clear hf; intro a ha hf; clear ha
  refine st_nil hf ?_
  refine th_n ?_
  refine wp_seq ?_
  refine wp_reg ?_
  refine st_buildA (vals := [(0, .int .i64 (3 : Int)), (1, .int .u32 (7 : Int)), (2, .int .u32 (5 : Int))]) (cells := [.int .i64 (3 : Int), .int .u32 (7 : Int), .int .u32 (5 : Int)]) hf (by decide) rfl (by simp [hf.ev (x := (Operand.const (.int .i64 (3 : Int)))) rfl, hf.ev (x := (Operand.const (.int .u32 (7 : Int)))) rfl, hf.ev (x := (Operand.const (.int .u32 (5 : Int)))) rfl]) (fun w => by kernel_rfl) ?_
  clear hf; intro a ha hf; clear ha
  refine st_build (E := Ek.bool) (xs := [true]) hf (by decide) elt4 Try.underlying25 hp (vals := #[(0, .bool true)]) (cells := #[.bool true]) rfl (by simp [hf.ev (x := (Operand.const (.bool true))) rfl]) (by decide) (by decide) (z := .bool false) (by kernel_rfl) (by kernel_rfl) rfl (reps_cons (cs := [.bool true]) rfl (reps_nil _)) ?_
  clear hf; intro a w v1 hf hp0; clear hp; have hp := hp0; clear hp0
  replace hp : Hp _ _ _ (Res.sl Ek.bool 4 v1 ([true]) :: ow) := hp
  obtain ⟨q3, hcall4, h⟩ := bnd h
  obtain ⟨S5, hp6, rd7, up8, bk9⟩ := Hp.lendS hp (i := 0) rfl
  refine st_call hf (by decide) Try.func13 rfl rfl rfl rfl rfl (f_trellis_Code_Encode_c hp6 _ _ _ _ _ rd7 hcall4) ?_
  rintro _ w ⟨v10, rfl, hp0⟩
  have hp0 := bk9 _ _ hp0
  clear hp; have hp := hp0; clear hp0
  replace hp : Hp _ _ _ (Res.sl Ek.bool 4 v1 ([true]) :: Res.sl Ek.bool 4 v10 q3.1 :: ow) := hp
  refine ⟨_, rfl, ?_⟩
  clear hf; intro a hf
  refine st_move hf rfl rfl (by decide) ?_
  clear hf; intro a ha hf; clear ha
  refine st_extract hf (by decide) rfl rfl rfl ?_
  clear hf; intro a ha hf; clear ha
  refine st_extract hf (by decide) rfl rfl rfl ?_
  clear hf; intro a ha hf; clear ha
  refine st_assign hf rfl rfl (by decide) ?_
  clear hf; intro a ha hf; clear ha
  refine st_assign hf rfl rfl (by decide) ?_
  clear hf; intro a ha hf; clear ha
  refine st_nil hf ?_
  refine th_n ?_
  refine wp_seq ?_
  refine wp_reg ?_
  refine st_move hf rfl rfl (by decide) ?_
  clear hf; intro a ha hf; clear ha
  refine st_ieql hf (by decide) rfl rfl rfl ?_
  clear hf; intro a ha hf; clear ha
  refine st_move hf rfl rfl (by decide) ?_
  clear hf; intro a ha hf; clear ha
  obtain ⟨z14, hz12, h⟩ := bnd h
  refine wpList_cut 4 (fun a w => Fr 21 a [(15, .bool z14)] ∧ Hp S w0 w (Res.sl Ek.bool 4 v1 ([true]) :: Res.sl Ek.bool 4 v10 q3.1 :: ow)) ?_ ?_
  · rcases Bool.eq_false_or_eq_true (q3.2 == (0 : Int)) with hb13 | hb13
    · skip
      replace hz12 := ifT hz12 hb13
      refine st_move hf (wantY hf rfl rfl hb13) rfl (by decide) ?_
      clear hf; intro a ha hf; clear ha
      refine st_build (E := Ek.bool) (xs := [true, true, true, false, true, true]) hf (by decide) elt4 Try.underlying25 hp (vals := #[(0, .bool true), (1, .bool true), (2, .bool true), (3, .bool false), (4, .bool true), (5, .bool true)]) (cells := #[.bool true, .bool true, .bool true, .bool false, .bool true, .bool true]) (wantY hf rfl rfl hb13) (by simp [hf.ev (x := (Operand.const (.bool true))) rfl, hf.ev (x := (Operand.const (.bool true))) rfl, hf.ev (x := (Operand.const (.bool true))) rfl, hf.ev (x := (Operand.const (.bool false))) rfl, hf.ev (x := (Operand.const (.bool true))) rfl, hf.ev (x := (Operand.const (.bool true))) rfl]) (by decide) (by decide) (z := .bool false) (by kernel_rfl) (by kernel_rfl) rfl (reps_cons (cs := [.bool true]) rfl (reps_cons (cs := [.bool true]) rfl (reps_cons (cs := [.bool true]) rfl (reps_cons (cs := [.bool false]) rfl (reps_cons (cs := [.bool true]) rfl (reps_cons (cs := [.bool true]) rfl (reps_nil _))))))) ?_
      clear hf; intro a w v15 hf hp0; clear hp; have hp := hp0; clear hp0
      replace hp : Hp _ _ _ (Res.sl Ek.bool 4 v15 ([true, true, true, false, true, true]) :: Res.sl Ek.bool 4 v1 ([true]) :: Res.sl Ek.bool 4 v10 q3.1 :: ow) := hp
      obtain ⟨q17, hcall18, hz12⟩ := bnd hz12
      obtain ⟨S19, hp20, rd21, up22, bk23⟩ := Hp.lendS hp (i := 2) rfl
      obtain ⟨S24, hp25, rd26, up27, bk28⟩ := Hp.lendS hp20 (i := 0) rfl
      refine st_call hf (by decide) Try.func33 rfl rfl (wantY hf rfl rfl hb13) rfl rfl (f_foghornref21_Same_c hp25 _ _ ((rd21.now hp20).mono up27) _ _ rd26 hcall18) ?_
      rintro _ w ⟨rfl, hp0⟩
      have hp0 := bk28 _ _ hp0
      have hp0 := bk23 _ _ hp0
      clear hp; have hp := hp0; clear hp0
      replace hp : Hp _ _ _ (Res.sl Ek.bool 4 v10 q3.1 :: Res.sl Ek.bool 4 v15 ([true, true, true, false, true, true]) :: Res.sl Ek.bool 4 v1 ([true]) :: ow) := hp
      refine ⟨_, rfl, ?_⟩
      clear hf; intro a hf
      obtain rfl := Option.some.inj hz12
      refine st_pick (v := .bool q17) hf rfl rfl (fun hb' => ?_) (fun hb' => ?_) (by decide) ?_
      · rfl
      · exact absurd (hb13.symm.trans hb') (by decide)
      clear hf; intro a ha hf; clear ha
      refine st_nil hf (th_n ?_)
      have hp : Hp _ _ _ (Res.sl Ek.bool 4 v1 ([true]) :: Res.sl Ek.bool 4 v10 q3.1 :: ow) := Hp.sel (pre := [Res.sl Ek.bool 4 v10 q3.1, Res.sl Ek.bool 4 v15 ([true, true, true, false, true, true]), Res.sl Ek.bool 4 v1 ([true])]) (tail := ow) (rs' := [Res.sl Ek.bool 4 v1 ([true]), Res.sl Ek.bool 4 v10 q3.1]) hp [2, 0] (by decide) (by simp) rfl
      exact ⟨hf.sub ⟨rfl, trivial⟩, hp⟩
    replace hz12 := ifF hz12 hb13
    refine st_skip hf (wantN hf rfl rfl hb13) rfl (by decide) ?_ rfl
    clear hf; intro a hf
    refine st_skip hf (wantN hf rfl rfl hb13) rfl (by decide) ?_ rfl
    clear hf; intro a hf
    refine st_skip hf (wantN hf rfl rfl hb13) rfl (by decide) ?_ rfl
    clear hf; intro a hf
    obtain rfl := Option.some.inj hz12
    refine st_pick (v := .bool false) hf rfl rfl (fun hb' => ?_) (fun hb' => ?_) (by decide) ?_
    · exact absurd (hb13.symm.trans hb') (by decide)
    · rfl
    clear hf; intro a ha hf; clear ha
    refine st_nil hf (th_n ?_)
    exact ⟨hf.sub ⟨rfl, trivial⟩, hp⟩
  rintro a w ⟨hf, hp⟩
  refine st_move hf rfl rfl (by decide) ?_
  clear hf; intro a ha hf; clear ha
  obtain ⟨z31, hz29, h⟩ := bnd h
  refine wpList_cut 4 (fun a w => Fr 21 a [(20, .bool z31)] ∧ Hp S w0 w (Res.sl Ek.bool 4 v1 ([true]) :: Res.sl Ek.bool 4 v10 q3.1 :: ow)) ?_ ?_
  · rcases Bool.eq_false_or_eq_true z14 with hb30 | hb30
    · skip
      replace hz29 := ifT hz29 hb30
      obtain ⟨q32, hcall33, hz29⟩ := bnd hz29
      refine st_call hf (by decide) Try.func30 rfl rfl (wantY hf rfl rfl hb30) rfl rfl (f_trellis_Short_c hp  hcall33) ?_
      rintro _ w ⟨rfl, hp0⟩
      clear hp; have hp := hp0; clear hp0
      replace hp : Hp _ _ _ (Res.sl Ek.bool 4 v1 ([true]) :: Res.sl Ek.bool 4 v10 q3.1 :: ow) := hp
      refine ⟨_, rfl, ?_⟩
      clear hf; intro a hf
      refine st_buildA (vals := [(0, .int .i64 (3 : Int)), (1, .int .u32 (7 : Int)), (2, .int .u32 (5 : Int))]) (cells := [.int .i64 (3 : Int), .int .u32 (7 : Int), .int .u32 (5 : Int)]) hf (by decide) (wantY hf rfl rfl hb30) (by simp [hf.ev (x := (Operand.const (.int .i64 (3 : Int)))) rfl, hf.ev (x := (Operand.const (.int .u32 (7 : Int)))) rfl, hf.ev (x := (Operand.const (.int .u32 (5 : Int)))) rfl]) (fun w => by kernel_rfl) ?_
      clear hf; intro a ha hf; clear ha
      refine st_eqA (xs := [.int .i64 q32.1, .int .u32 q32.2.1, .int .u32 q32.2.2]) (ys := [.int .i64 (3 : Int), .int .u32 (7 : Int), .int .u32 (5 : Int)]) hf (by decide) (by kernel_rfl) (by kernel_rfl) (by kernel_rfl) (by kernel_rfl) (wantY hf rfl rfl hb30) rfl rfl (b := ((q32.1 == (3 : Int)) && ((q32.2.1 == (7 : Int)) && ((q32.2.2 == (5 : Int)) && true)))) rfl ?_
      clear hf; intro a ha hf; clear ha
      obtain rfl := Option.some.inj hz29
      refine st_pick (v := .bool ((q32.1 == (3 : Int)) && ((q32.2.1 == (7 : Int)) && ((q32.2.2 == (5 : Int)) && true)))) hf rfl rfl (fun hb' => ?_) (fun hb' => ?_) (by decide) ?_
      · rfl
      · exact absurd (hb30.symm.trans hb') (by decide)
      clear hf; intro a ha hf; clear ha
      refine st_nil hf (th_n ?_)
      exact ⟨hf.sub ⟨rfl, trivial⟩, hp⟩
    replace hz29 := ifF hz29 hb30
    refine st_skip hf (wantN hf rfl rfl hb30) rfl (by decide) ?_ rfl
    clear hf; intro a hf
    refine st_skip hf (wantN hf rfl rfl hb30) rfl (by decide) ?_ rfl
    clear hf; intro a hf
    refine st_skip hf (wantN hf rfl rfl hb30) rfl (by decide) ?_ rfl
    clear hf; intro a hf
    obtain rfl := Option.some.inj hz29
    refine st_pick (v := .bool false) hf rfl rfl (fun hb' => ?_) (fun hb' => ?_) (by decide) ?_
    · exact absurd (hb30.symm.trans hb') (by decide)
    · rfl
    clear hf; intro a ha hf; clear ha
    refine st_nil hf (th_n ?_)
    exact ⟨hf.sub ⟨rfl, trivial⟩, hp⟩
  rintro a w ⟨hf, hp⟩
  refine st_assign hf rfl rfl (by decide) ?_
  clear hf; intro a ha hf; clear ha
  refine st_nil hf ?_
  refine th_n ?_
  refine wp_ret ?_
  obtain rfl := Option.some.inj h
  have hp : Hp _ _ _ (ow) := Hp.sel (pre := [Res.sl Ek.bool 4 v1 ([true]), Res.sl Ek.bool 4 v10 q3.1]) (tail := ow) (rs' := []) hp [] (by decide) (by simp) rfl
  exact ⟨rfl, ⟨hf.sub ⟨rfl, trivial⟩, hp⟩⟩

noncomputable def f_foghornlaw21_TrellisSteps (c0_Length : Int) (c0_One : Int) (c0_Two : Int) (state1 : Int) (bit2 : Bool) : Option Bool := ((f_foghornlaw21_own c0_Length c0_One c0_Two).bind fun q3 => ((f_trellis_Code_Step q3.1 q3.2.1 q3.2.2 state1 bit2).bind fun q5 => ((f_foghornref21_Step c0_Length c0_One c0_Two state1 bit2).bind fun q7 => (if ((((q5.1 != q7.1) || (q5.2.1 != q7.2.1)) || (q5.2.2.1 != q7.2.2.1)) || (q5.2.2.2 != q7.2.2.2)) = true then (some false) else ((f_foghornlaw21_own c0_Length c0_One c0_Two).bind fun q15 => ((f_trellis_Code_From q15.1 q15.2.1 q15.2.2 state1).bind fun q17 => ((f_foghornref21_From c0_Length c0_One c0_Two state1).bind fun q21 => ((f_foghornlaw21_own c0_Length c0_One c0_Two).bind fun q25 => ((f_trellis_Code_States q25.1 q25.2.1 q25.2.2).bind fun q27 => ((f_foghornref21_States c0_Length c0_One c0_Two).bind fun q29 => ((if ((((!((q17.1.1 == q21.1.1) && (q17.1.2 == q21.1.2))) || (q17.2 != q21.2)) || (q27.1 != q29.1)) || (q27.2 != q29.2)) = true then (some true) else ((f_foghornlaw21_own c0_Length c0_One c0_Two).bind fun q40 => ((f_trellis_Code_Check q40.1 q40.2.1 q40.2.2).bind fun q42 => (some (q42 != q29.2))))).bind fun z39 => (if z39 = true then (some false) else ((f_foghornlaw21_own c0_Length c0_One c0_Two).bind fun q44 => ((f_trellis_Code_Free q44.1 q44.2.1 q44.2.2).bind fun q46 => ((f_foghornref21_Free c0_Length c0_One c0_Two).bind fun q48 => ((f_foghornlaw21_own c0_Length c0_One c0_Two).bind fun q50 => ((f_trellis_Code_Slips q50.1 q50.2.1 q50.2.2).bind fun q52 => ((f_foghornref21_Slips c0_Length c0_One c0_Two).bind fun q54 => ((if ((((q46.1 == q48.1) && (q46.2 == q48.2)) && (q52.1 == q54.1)) && (q52.2 == q54.2)) = true then ((f_foghornlaw21_awake).bind fun q65 => (some q65)) else (some false)).bind fun z64 => (some z64))))))))))))))))))))
theorem f_foghornlaw21_TrellisSteps_c {S : Nat → Prop} {w0 w : World} {ow : List Res} (hp : Hp S w0 w ow) (c0_Length : Int) (c0_One : Int) (c0_Two : Int) (state1 : Int) (bit2 : Bool) {r : Bool} (h : f_foghornlaw21_TrellisSteps c0_Length c0_One c0_Two state1 bit2 = some r) :
    Calls Try.prog 6 #[.agg #[.int .i64 c0_Length, .int .u32 c0_One, .int .u32 c0_Two], .int .i64 state1, .bool bit2] w (fun e w' => e = .returned (.bool r) ∧ Hp S w0 w' (ow)) := by
  unfold f_foghornlaw21_TrellisSteps at h
  refine enter (n := 154) (args := [.agg #[.int .i64 c0_Length, .int .u32 c0_One, .int .u32 c0_Two], .int .i64 state1, .bool bit2]) Try.func6 rfl rfl (Nat.le_of_ble_eq_true rfl) fun a hf => ?_
  replace hf : Fr 154 a [(0, .agg #[.int .i64 c0_Length, .int .u32 c0_One, .int .u32 c0_Two]), (1, .int .i64 state1), (2, .bool bit2)] := hf
  refine wp_mono (Q := fun e a w => e = .ret ∧ Fr 154 a [(6, .bool r)] ∧ Hp S w0 w (ow)) ?_ ?_
  rotate_left
  · rintro e a w ⟨rfl, hf, hp⟩
    exact ret1 hf rfl rfl ⟨rfl, hp⟩
  refine wp_seq ?_
  refine wp_reg ?_
  refine st_boxO (cs := [.int .i64 c0_Length, .int .u32 c0_One, .int .u32 c0_Two]) hf (by decide) hp rfl rfl rfl ?_
  clear hf; intro a w v1 hf hp0; clear hp; have hp := hp0; clear hp0
  replace hp : Hp _ _ _ (Res.obj 24 v1 [.int .i64 c0_Length, .int .u32 c0_One, .int .u32 c0_Two] :: ow) := hp
  refine st_assign hf rfl rfl (by decide) ?_
  clear hf; intro a ha hf; clear ha
  refine st_nil hf ?_
  refine th_n ?_
  refine wp_seq ?_
  refine wp_reg ?_
  refine st_ldOA (m := 3) (us := [.int .i64 c0_Length, .int .u32 c0_One, .int .u32 c0_Two]) hf (by decide) (by kernel_rfl) rfl rfl (hp.ob (i := 0) rfl) rfl rfl ?_
  clear hf; intro a ha hf; clear ha
  obtain ⟨q3, hcall4, h⟩ := bnd h
  refine st_call hf (by decide) Try.func22 rfl rfl rfl rfl rfl (f_foghornlaw21_own_c hp _ _ _ hcall4) ?_
  rintro _ w ⟨rfl, hp0⟩
  clear hp; have hp := hp0; clear hp0
  replace hp : Hp _ _ _ (Res.obj 24 v1 [.int .i64 c0_Length, .int .u32 c0_One, .int .u32 c0_Two] :: ow) := hp
  refine ⟨_, rfl, ?_⟩
  clear hf; intro a hf
  refine st_move hf rfl rfl (by decide) ?_
  clear hf; intro a ha hf; clear ha
  refine st_move hf rfl rfl (by decide) ?_
  clear hf; intro a ha hf; clear ha
  obtain ⟨q5, hcall6, h⟩ := bnd h
  refine st_call hf (by decide) Try.func16 rfl rfl rfl rfl rfl (f_trellis_Code_Step_c hp _ _ _ _ _ hcall6) ?_
  rintro _ w ⟨rfl, hp0⟩
  clear hp; have hp := hp0; clear hp0
  replace hp : Hp _ _ _ (Res.obj 24 v1 [.int .i64 c0_Length, .int .u32 c0_One, .int .u32 c0_Two] :: ow) := hp
  refine ⟨_, rfl, ?_⟩
  clear hf; intro a hf
  refine st_move hf rfl rfl (by decide) ?_
  clear hf; intro a ha hf; clear ha
  refine st_extract hf (by decide) rfl rfl rfl ?_
  clear hf; intro a ha hf; clear ha
  refine st_extract hf (by decide) rfl rfl rfl ?_
  clear hf; intro a ha hf; clear ha
  refine st_extract hf (by decide) rfl rfl rfl ?_
  clear hf; intro a ha hf; clear ha
  refine st_extract hf (by decide) rfl rfl rfl ?_
  clear hf; intro a ha hf; clear ha
  refine st_assign hf rfl rfl (by decide) ?_
  clear hf; intro a ha hf; clear ha
  refine st_assign hf rfl rfl (by decide) ?_
  clear hf; intro a ha hf; clear ha
  refine st_assign hf rfl rfl (by decide) ?_
  clear hf; intro a ha hf; clear ha
  refine st_assign hf rfl rfl (by decide) ?_
  clear hf; intro a ha hf; clear ha
  refine st_nil hf ?_
  refine th_n ?_
  refine wp_seq ?_
  refine wp_reg ?_
  refine st_ldOA (m := 3) (us := [.int .i64 c0_Length, .int .u32 c0_One, .int .u32 c0_Two]) hf (by decide) (by kernel_rfl) rfl rfl (hp.ob (i := 0) rfl) rfl rfl ?_
  clear hf; intro a ha hf; clear ha
  refine st_move hf rfl rfl (by decide) ?_
  clear hf; intro a ha hf; clear ha
  refine st_move hf rfl rfl (by decide) ?_
  clear hf; intro a ha hf; clear ha
  obtain ⟨q7, hcall8, h⟩ := bnd h
  refine st_call hf (by decide) Try.func23 rfl rfl rfl rfl rfl (f_foghornref21_Step_c hp _ _ _ _ _ hcall8) ?_
  rintro _ w ⟨rfl, hp0⟩
  clear hp; have hp := hp0; clear hp0
  replace hp : Hp _ _ _ (Res.obj 24 v1 [.int .i64 c0_Length, .int .u32 c0_One, .int .u32 c0_Two] :: ow) := hp
  refine ⟨_, rfl, ?_⟩
  clear hf; intro a hf
  refine st_move hf rfl rfl (by decide) ?_
  clear hf; intro a ha hf; clear ha
  refine st_extract hf (by decide) rfl rfl rfl ?_
  clear hf; intro a ha hf; clear ha
  refine st_extract hf (by decide) rfl rfl rfl ?_
  clear hf; intro a ha hf; clear ha
  refine st_extract hf (by decide) rfl rfl rfl ?_
  clear hf; intro a ha hf; clear ha
  refine st_extract hf (by decide) rfl rfl rfl ?_
  clear hf; intro a ha hf; clear ha
  refine st_assign hf rfl rfl (by decide) ?_
  clear hf; intro a ha hf; clear ha
  refine st_assign hf rfl rfl (by decide) ?_
  clear hf; intro a ha hf; clear ha
  refine st_assign hf rfl rfl (by decide) ?_
  clear hf; intro a ha hf; clear ha
  refine st_assign hf rfl rfl (by decide) ?_
  clear hf; intro a ha hf; clear ha
  refine st_nil hf ?_
  refine th_n ?_
  refine wp_seq ?_
  refine wp_seq ?_
  refine wp_reg ?_
  refine st_move hf rfl rfl (by decide) ?_
  clear hf; intro a ha hf; clear ha
  refine st_move hf rfl rfl (by decide) ?_
  clear hf; intro a ha hf; clear ha
  refine st_ineq hf (by decide) rfl rfl rfl ?_
  clear hf; intro a ha hf; clear ha
  refine st_move hf rfl rfl (by decide) ?_
  clear hf; intro a ha hf; clear ha
  refine wpList_cut 4 (fun a w => Fr 154 a [(1, .int .i64 state1), (3, optr v1 0), (9, .bool q5.2.2.1), (10, .int .i64 q5.2.2.2), (13, .bool q7.2.2.1), (14, .int .i64 q7.2.2.2), (51, .bool ((q5.1 != q7.1) || (q5.2.1 != q7.2.1)))] ∧ Hp S w0 w (Res.obj 24 v1 [.int .i64 c0_Length, .int .u32 c0_One, .int .u32 c0_Two] :: ow)) ?_ ?_
  · rcases Bool.eq_false_or_eq_true (q5.1 != q7.1) with hb10 | hb10
    · skip
      refine st_skip hf (wantN hf rfl rfl hb10) rfl (by decide) ?_ rfl
      clear hf; intro a hf
      refine st_skip hf (wantN hf rfl rfl hb10) rfl (by decide) ?_ rfl
      clear hf; intro a hf
      refine st_skip hf (wantN hf rfl rfl hb10) rfl (by decide) ?_ rfl
      clear hf; intro a hf
      refine st_pick (v := .bool true) hf rfl rfl (fun hb' => ?_) (fun hb' => ?_) (by decide) ?_
      · rfl
      · exact absurd (hb10.symm.trans hb') (by decide)
      clear hf; intro a ha hf; clear ha
      refine st_nil hf (th_n ?_)
      exact ⟨hf.sub ⟨rfl, rfl, rfl, rfl, rfl, rfl, (by rw [hb10]; rfl), trivial⟩, hp⟩
    refine st_move hf (wantY hf rfl rfl hb10) rfl (by decide) ?_
    clear hf; intro a ha hf; clear ha
    refine st_move hf (wantY hf rfl rfl hb10) rfl (by decide) ?_
    clear hf; intro a ha hf; clear ha
    refine st_bneq hf (by decide) Try.underlying4 (wantY hf rfl rfl hb10) rfl rfl ?_
    clear hf; intro a ha hf; clear ha
    refine st_pick (v := .bool (q5.2.1 != q7.2.1)) hf rfl rfl (fun hb' => ?_) (fun hb' => ?_) (by decide) ?_
    · exact absurd (hb10.symm.trans hb') (by decide)
    · rfl
    clear hf; intro a ha hf; clear ha
    refine st_nil hf (th_n ?_)
    exact ⟨hf.sub ⟨rfl, rfl, rfl, rfl, rfl, rfl, (by rw [hb10]; rfl), trivial⟩, hp⟩
  rintro a w ⟨hf, hp⟩
  refine st_move hf rfl rfl (by decide) ?_
  clear hf; intro a ha hf; clear ha
  refine wpList_cut 4 (fun a w => Fr 154 a [(1, .int .i64 state1), (3, optr v1 0), (10, .int .i64 q5.2.2.2), (14, .int .i64 q7.2.2.2), (56, .bool (((q5.1 != q7.1) || (q5.2.1 != q7.2.1)) || (q5.2.2.1 != q7.2.2.1)))] ∧ Hp S w0 w (Res.obj 24 v1 [.int .i64 c0_Length, .int .u32 c0_One, .int .u32 c0_Two] :: ow)) ?_ ?_
  · rcases Bool.eq_false_or_eq_true ((q5.1 != q7.1) || (q5.2.1 != q7.2.1)) with hb12 | hb12
    · skip
      refine st_skip hf (wantN hf rfl rfl hb12) rfl (by decide) ?_ rfl
      clear hf; intro a hf
      refine st_skip hf (wantN hf rfl rfl hb12) rfl (by decide) ?_ rfl
      clear hf; intro a hf
      refine st_skip hf (wantN hf rfl rfl hb12) rfl (by decide) ?_ rfl
      clear hf; intro a hf
      refine st_pick (v := .bool true) hf rfl rfl (fun hb' => ?_) (fun hb' => ?_) (by decide) ?_
      · rfl
      · exact absurd (hb12.symm.trans hb') (by decide)
      clear hf; intro a ha hf; clear ha
      refine st_nil hf (th_n ?_)
      exact ⟨hf.sub ⟨rfl, rfl, rfl, rfl, (by rw [hb12]; rfl), trivial⟩, hp⟩
    refine st_move hf (wantY hf rfl rfl hb12) rfl (by decide) ?_
    clear hf; intro a ha hf; clear ha
    refine st_move hf (wantY hf rfl rfl hb12) rfl (by decide) ?_
    clear hf; intro a ha hf; clear ha
    refine st_bneq hf (by decide) Try.underlying4 (wantY hf rfl rfl hb12) rfl rfl ?_
    clear hf; intro a ha hf; clear ha
    refine st_pick (v := .bool (q5.2.2.1 != q7.2.2.1)) hf rfl rfl (fun hb' => ?_) (fun hb' => ?_) (by decide) ?_
    · exact absurd (hb12.symm.trans hb') (by decide)
    · rfl
    clear hf; intro a ha hf; clear ha
    refine st_nil hf (th_n ?_)
    exact ⟨hf.sub ⟨rfl, rfl, rfl, rfl, (by rw [hb12]; rfl), trivial⟩, hp⟩
  rintro a w ⟨hf, hp⟩
  refine st_move hf rfl rfl (by decide) ?_
  clear hf; intro a ha hf; clear ha
  refine wpList_cut 4 (fun a w => Fr 154 a [(1, .int .i64 state1), (3, optr v1 0), (61, .bool ((((q5.1 != q7.1) || (q5.2.1 != q7.2.1)) || (q5.2.2.1 != q7.2.2.1)) || (q5.2.2.2 != q7.2.2.2)))] ∧ Hp S w0 w (Res.obj 24 v1 [.int .i64 c0_Length, .int .u32 c0_One, .int .u32 c0_Two] :: ow)) ?_ ?_
  · rcases Bool.eq_false_or_eq_true (((q5.1 != q7.1) || (q5.2.1 != q7.2.1)) || (q5.2.2.1 != q7.2.2.1)) with hb14 | hb14
    · skip
      refine st_skip hf (wantN hf rfl rfl hb14) rfl (by decide) ?_ rfl
      clear hf; intro a hf
      refine st_skip hf (wantN hf rfl rfl hb14) rfl (by decide) ?_ rfl
      clear hf; intro a hf
      refine st_skip hf (wantN hf rfl rfl hb14) rfl (by decide) ?_ rfl
      clear hf; intro a hf
      refine st_pick (v := .bool true) hf rfl rfl (fun hb' => ?_) (fun hb' => ?_) (by decide) ?_
      · rfl
      · exact absurd (hb14.symm.trans hb') (by decide)
      clear hf; intro a ha hf; clear ha
      refine st_nil hf (th_n ?_)
      exact ⟨hf.sub ⟨rfl, rfl, (by rw [hb14]; rfl), trivial⟩, hp⟩
    refine st_move hf (wantY hf rfl rfl hb14) rfl (by decide) ?_
    clear hf; intro a ha hf; clear ha
    refine st_move hf (wantY hf rfl rfl hb14) rfl (by decide) ?_
    clear hf; intro a ha hf; clear ha
    refine st_ineq hf (by decide) (wantY hf rfl rfl hb14) rfl rfl ?_
    clear hf; intro a ha hf; clear ha
    refine st_pick (v := .bool (q5.2.2.2 != q7.2.2.2)) hf rfl rfl (fun hb' => ?_) (fun hb' => ?_) (by decide) ?_
    · exact absurd (hb14.symm.trans hb') (by decide)
    · rfl
    clear hf; intro a ha hf; clear ha
    refine st_nil hf (th_n ?_)
    exact ⟨hf.sub ⟨rfl, rfl, (by rw [hb14]; rfl), trivial⟩, hp⟩
  rintro a w ⟨hf, hp⟩
  refine st_nil hf ?_
  refine th_n ?_
  refine wp_if hf rfl (fun hb => ?_) (fun hb => ?_)
  · replace h := ifT h hb
    refine wp_seq ?_
    refine wp_reg ?_
    refine st_assign hf rfl rfl (by decide) ?_
    clear hf; intro a ha hf; clear ha
    refine st_nil hf ?_
    refine th_n ?_
    refine wp_ret ?_
    refine th_r ?_
    obtain rfl := Option.some.inj h
    have hp : Hp _ _ _ (ow) := Hp.sel (pre := [Res.obj 24 v1 [.int .i64 c0_Length, .int .u32 c0_One, .int .u32 c0_Two]]) (tail := ow) (rs' := []) hp [] (by decide) (by simp) rfl
    exact ⟨rfl, ⟨hf.sub ⟨rfl, trivial⟩, hp⟩⟩
  replace h := ifF h hb
  refine wp_skip ?_
  refine th_n ?_
  refine wp_seq ?_
  refine wp_reg ?_
  refine st_ldOA (m := 3) (us := [.int .i64 c0_Length, .int .u32 c0_One, .int .u32 c0_Two]) hf (by decide) (by kernel_rfl) rfl rfl (hp.ob (i := 0) rfl) rfl rfl ?_
  clear hf; intro a ha hf; clear ha
  obtain ⟨q15, hcall16, h⟩ := bnd h
  refine st_call hf (by decide) Try.func22 rfl rfl rfl rfl rfl (f_foghornlaw21_own_c hp _ _ _ hcall16) ?_
  rintro _ w ⟨rfl, hp0⟩
  clear hp; have hp := hp0; clear hp0
  replace hp : Hp _ _ _ (Res.obj 24 v1 [.int .i64 c0_Length, .int .u32 c0_One, .int .u32 c0_Two] :: ow) := hp
  refine ⟨_, rfl, ?_⟩
  clear hf; intro a hf
  refine st_move hf rfl rfl (by decide) ?_
  clear hf; intro a ha hf; clear ha
  obtain ⟨q17, hcall18, h⟩ := bnd h
  refine st_call hf (by decide) Try.func17 rfl rfl rfl rfl rfl (f_trellis_Code_From_c hp _ _ _ _ hcall18) ?_
  rintro _ w ⟨rfl, hp0⟩
  clear hp; have hp := hp0; clear hp0
  replace hp : Hp _ _ _ (Res.obj 24 v1 [.int .i64 c0_Length, .int .u32 c0_One, .int .u32 c0_Two] :: ow) := hp
  refine ⟨_, rfl, ?_⟩
  clear hf; intro a hf
  refine st_move hf rfl rfl (by decide) ?_
  clear hf; intro a ha hf; clear ha
  refine st_extract hf (by decide) rfl rfl rfl ?_
  clear hf; intro a ha hf; clear ha
  refine st_extract hf (by decide) rfl rfl rfl ?_
  clear hf; intro a ha hf; clear ha
  refine st_alloc (cs := [.int .i64 (0 : Int), .int .i64 (0 : Int)]) (zv := .agg #[.int .i64 (0 : Int), .int .i64 (0 : Int)]) hf (by decide) (by kernel_rfl) rfl hp rfl ?_
  clear hf; intro a w v19 hf hp0; clear hp; have hp := hp0; clear hp0
  replace hp : Hp _ _ _ (Res.obj 46 v19 [.int .i64 (0 : Int), .int .i64 (0 : Int)] :: Res.obj 24 v1 [.int .i64 c0_Length, .int .u32 c0_One, .int .u32 c0_Two] :: ow) := hp
  refine st_stO (us := [.int .i64 q17.1.1, .int .i64 q17.1.2]) hf hp (i := 0) rfl rfl rfl rfl rfl (by rfl) (by kernel_rfl) (Nat.le_of_ble_eq_true rfl) ?_
  clear hf; intro a w hf hp0; clear hp; have hp := hp0; clear hp0
  replace hp : Hp _ _ _ (Res.obj 46 v19 [.int .i64 q17.1.1, .int .i64 q17.1.2] :: Res.obj 24 v1 [.int .i64 c0_Length, .int .u32 c0_One, .int .u32 c0_Two] :: ow) := hp
  refine st_assign hf rfl rfl (by decide) ?_
  clear hf; intro a ha hf; clear ha
  refine st_nil hf ?_
  refine th_n ?_
  refine wp_seq ?_
  refine wp_reg ?_
  refine st_ldOA (m := 3) (us := [.int .i64 c0_Length, .int .u32 c0_One, .int .u32 c0_Two]) hf (by decide) (by kernel_rfl) rfl rfl (hp.ob (i := 1) rfl) rfl rfl ?_
  clear hf; intro a ha hf; clear ha
  refine st_move hf rfl rfl (by decide) ?_
  clear hf; intro a ha hf; clear ha
  obtain ⟨q21, hcall22, h⟩ := bnd h
  refine st_call hf (by decide) Try.func24 rfl rfl rfl rfl rfl (f_foghornref21_From_c hp _ _ _ _ hcall22) ?_
  rintro _ w ⟨rfl, hp0⟩
  clear hp; have hp := hp0; clear hp0
  replace hp : Hp _ _ _ (Res.obj 46 v19 [.int .i64 q17.1.1, .int .i64 q17.1.2] :: Res.obj 24 v1 [.int .i64 c0_Length, .int .u32 c0_One, .int .u32 c0_Two] :: ow) := hp
  refine ⟨_, rfl, ?_⟩
  clear hf; intro a hf
  refine st_move hf rfl rfl (by decide) ?_
  clear hf; intro a ha hf; clear ha
  refine st_extract hf (by decide) rfl rfl rfl ?_
  clear hf; intro a ha hf; clear ha
  refine st_extract hf (by decide) rfl rfl rfl ?_
  clear hf; intro a ha hf; clear ha
  refine st_alloc (cs := [.int .i64 (0 : Int), .int .i64 (0 : Int)]) (zv := .agg #[.int .i64 (0 : Int), .int .i64 (0 : Int)]) hf (by decide) (by kernel_rfl) rfl hp rfl ?_
  clear hf; intro a w v23 hf hp0; clear hp; have hp := hp0; clear hp0
  replace hp : Hp _ _ _ (Res.obj 46 v23 [.int .i64 (0 : Int), .int .i64 (0 : Int)] :: Res.obj 46 v19 [.int .i64 q17.1.1, .int .i64 q17.1.2] :: Res.obj 24 v1 [.int .i64 c0_Length, .int .u32 c0_One, .int .u32 c0_Two] :: ow) := hp
  refine st_stO (us := [.int .i64 q21.1.1, .int .i64 q21.1.2]) hf hp (i := 0) rfl rfl rfl rfl rfl (by rfl) (by kernel_rfl) (Nat.le_of_ble_eq_true rfl) ?_
  clear hf; intro a w hf hp0; clear hp; have hp := hp0; clear hp0
  replace hp : Hp _ _ _ (Res.obj 46 v23 [.int .i64 q21.1.1, .int .i64 q21.1.2] :: Res.obj 46 v19 [.int .i64 q17.1.1, .int .i64 q17.1.2] :: Res.obj 24 v1 [.int .i64 c0_Length, .int .u32 c0_One, .int .u32 c0_Two] :: ow) := hp
  refine st_assign hf rfl rfl (by decide) ?_
  clear hf; intro a ha hf; clear ha
  refine st_nil hf ?_
  refine th_n ?_
  refine wp_seq ?_
  refine wp_reg ?_
  refine st_ldOA (m := 3) (us := [.int .i64 c0_Length, .int .u32 c0_One, .int .u32 c0_Two]) hf (by decide) (by kernel_rfl) rfl rfl (hp.ob (i := 2) rfl) rfl rfl ?_
  clear hf; intro a ha hf; clear ha
  obtain ⟨q25, hcall26, h⟩ := bnd h
  refine st_call hf (by decide) Try.func22 rfl rfl rfl rfl rfl (f_foghornlaw21_own_c hp _ _ _ hcall26) ?_
  rintro _ w ⟨rfl, hp0⟩
  clear hp; have hp := hp0; clear hp0
  replace hp : Hp _ _ _ (Res.obj 46 v23 [.int .i64 q21.1.1, .int .i64 q21.1.2] :: Res.obj 46 v19 [.int .i64 q17.1.1, .int .i64 q17.1.2] :: Res.obj 24 v1 [.int .i64 c0_Length, .int .u32 c0_One, .int .u32 c0_Two] :: ow) := hp
  refine ⟨_, rfl, ?_⟩
  clear hf; intro a hf
  obtain ⟨q27, hcall28, h⟩ := bnd h
  refine st_call hf (by decide) Try.func15 rfl rfl rfl rfl rfl (f_trellis_Code_States_c hp _ _ _ hcall28) ?_
  rintro _ w ⟨rfl, hp0⟩
  clear hp; have hp := hp0; clear hp0
  replace hp : Hp _ _ _ (Res.obj 46 v23 [.int .i64 q21.1.1, .int .i64 q21.1.2] :: Res.obj 46 v19 [.int .i64 q17.1.1, .int .i64 q17.1.2] :: Res.obj 24 v1 [.int .i64 c0_Length, .int .u32 c0_One, .int .u32 c0_Two] :: ow) := hp
  refine ⟨_, rfl, ?_⟩
  clear hf; intro a hf
  refine st_move hf rfl rfl (by decide) ?_
  clear hf; intro a ha hf; clear ha
  refine st_extract hf (by decide) rfl rfl rfl ?_
  clear hf; intro a ha hf; clear ha
  refine st_extract hf (by decide) rfl rfl rfl ?_
  clear hf; intro a ha hf; clear ha
  refine st_assign hf rfl rfl (by decide) ?_
  clear hf; intro a ha hf; clear ha
  refine st_assign hf rfl rfl (by decide) ?_
  clear hf; intro a ha hf; clear ha
  refine st_nil hf ?_
  refine th_n ?_
  refine wp_seq ?_
  refine wp_reg ?_
  refine st_ldOA (m := 3) (us := [.int .i64 c0_Length, .int .u32 c0_One, .int .u32 c0_Two]) hf (by decide) (by kernel_rfl) rfl rfl (hp.ob (i := 2) rfl) rfl rfl ?_
  clear hf; intro a ha hf; clear ha
  obtain ⟨q29, hcall30, h⟩ := bnd h
  refine st_call hf (by decide) Try.func25 rfl rfl rfl rfl rfl (f_foghornref21_States_c hp _ _ _ hcall30) ?_
  rintro _ w ⟨rfl, hp0⟩
  clear hp; have hp := hp0; clear hp0
  replace hp : Hp _ _ _ (Res.obj 46 v23 [.int .i64 q21.1.1, .int .i64 q21.1.2] :: Res.obj 46 v19 [.int .i64 q17.1.1, .int .i64 q17.1.2] :: Res.obj 24 v1 [.int .i64 c0_Length, .int .u32 c0_One, .int .u32 c0_Two] :: ow) := hp
  refine ⟨_, rfl, ?_⟩
  clear hf; intro a hf
  refine st_move hf rfl rfl (by decide) ?_
  clear hf; intro a ha hf; clear ha
  refine st_extract hf (by decide) rfl rfl rfl ?_
  clear hf; intro a ha hf; clear ha
  refine st_extract hf (by decide) rfl rfl rfl ?_
  clear hf; intro a ha hf; clear ha
  refine st_assign hf rfl rfl (by decide) ?_
  clear hf; intro a ha hf; clear ha
  refine st_assign hf rfl rfl (by decide) ?_
  clear hf; intro a ha hf; clear ha
  refine st_nil hf ?_
  refine th_n ?_
  refine wp_seq ?_
  refine wp_seq ?_
  refine wp_reg ?_
  refine st_ldOA (m := 2) (us := [.int .i64 q17.1.1, .int .i64 q17.1.2]) hf (by decide) (by kernel_rfl) rfl rfl (hp.ob (i := 1) rfl) rfl rfl ?_
  clear hf; intro a ha hf; clear ha
  refine st_ldOA (m := 2) (us := [.int .i64 q21.1.1, .int .i64 q21.1.2]) hf (by decide) (by kernel_rfl) rfl rfl (hp.ob (i := 0) rfl) rfl rfl ?_
  clear hf; intro a ha hf; clear ha
  refine st_neArr2 hf (by decide) Try.underlying46 (by kernel_rfl) (by kernel_rfl) (by rfl) (by rfl)  rfl rfl rfl (b := (!((q17.1.1 == q21.1.1) && (q17.1.2 == q21.1.2)))) rfl ?_
  clear hf; intro a ha hf; clear ha
  refine st_move hf rfl rfl (by decide) ?_
  clear hf; intro a ha hf; clear ha
  refine wpList_cut 4 (fun a w => Fr 154 a [(3, optr v1 0), (17, .int .i64 q27.1), (18, .int .i64 q27.2), (19, .int .i64 q29.1), (20, .int .i64 q29.2), (93, .bool ((!((q17.1.1 == q21.1.1) && (q17.1.2 == q21.1.2))) || (q17.2 != q21.2)))] ∧ Hp S w0 w (Res.obj 46 v23 [.int .i64 q21.1.1, .int .i64 q21.1.2] :: Res.obj 46 v19 [.int .i64 q17.1.1, .int .i64 q17.1.2] :: Res.obj 24 v1 [.int .i64 c0_Length, .int .u32 c0_One, .int .u32 c0_Two] :: ow)) ?_ ?_
  · rcases Bool.eq_false_or_eq_true (!((q17.1.1 == q21.1.1) && (q17.1.2 == q21.1.2))) with hb32 | hb32
    · skip
      refine st_skip hf (wantN hf rfl rfl hb32) rfl (by decide) ?_ rfl
      clear hf; intro a hf
      refine st_skip hf (wantN hf rfl rfl hb32) rfl (by decide) ?_ rfl
      clear hf; intro a hf
      refine st_skip hf (wantN hf rfl rfl hb32) rfl (by decide) ?_ rfl
      clear hf; intro a hf
      refine st_pick (v := .bool true) hf rfl rfl (fun hb' => ?_) (fun hb' => ?_) (by decide) ?_
      · rfl
      · exact absurd (hb32.symm.trans hb') (by decide)
      clear hf; intro a ha hf; clear ha
      refine st_nil hf (th_n ?_)
      exact ⟨hf.sub ⟨rfl, rfl, rfl, rfl, rfl, (by rw [hb32]; rfl), trivial⟩, hp⟩
    refine st_move hf (wantY hf rfl rfl hb32) rfl (by decide) ?_
    clear hf; intro a ha hf; clear ha
    refine st_move hf (wantY hf rfl rfl hb32) rfl (by decide) ?_
    clear hf; intro a ha hf; clear ha
    refine st_ineq hf (by decide) (wantY hf rfl rfl hb32) rfl rfl ?_
    clear hf; intro a ha hf; clear ha
    refine st_pick (v := .bool (q17.2 != q21.2)) hf rfl rfl (fun hb' => ?_) (fun hb' => ?_) (by decide) ?_
    · exact absurd (hb32.symm.trans hb') (by decide)
    · rfl
    clear hf; intro a ha hf; clear ha
    refine st_nil hf (th_n ?_)
    exact ⟨hf.sub ⟨rfl, rfl, rfl, rfl, rfl, (by rw [hb32]; rfl), trivial⟩, hp⟩
  rintro a w ⟨hf, hp⟩
  refine st_move hf rfl rfl (by decide) ?_
  clear hf; intro a ha hf; clear ha
  refine wpList_cut 4 (fun a w => Fr 154 a [(3, optr v1 0), (18, .int .i64 q27.2), (20, .int .i64 q29.2), (98, .bool (((!((q17.1.1 == q21.1.1) && (q17.1.2 == q21.1.2))) || (q17.2 != q21.2)) || (q27.1 != q29.1)))] ∧ Hp S w0 w (Res.obj 46 v23 [.int .i64 q21.1.1, .int .i64 q21.1.2] :: Res.obj 46 v19 [.int .i64 q17.1.1, .int .i64 q17.1.2] :: Res.obj 24 v1 [.int .i64 c0_Length, .int .u32 c0_One, .int .u32 c0_Two] :: ow)) ?_ ?_
  · rcases Bool.eq_false_or_eq_true ((!((q17.1.1 == q21.1.1) && (q17.1.2 == q21.1.2))) || (q17.2 != q21.2)) with hb34 | hb34
    · skip
      refine st_skip hf (wantN hf rfl rfl hb34) rfl (by decide) ?_ rfl
      clear hf; intro a hf
      refine st_skip hf (wantN hf rfl rfl hb34) rfl (by decide) ?_ rfl
      clear hf; intro a hf
      refine st_skip hf (wantN hf rfl rfl hb34) rfl (by decide) ?_ rfl
      clear hf; intro a hf
      refine st_pick (v := .bool true) hf rfl rfl (fun hb' => ?_) (fun hb' => ?_) (by decide) ?_
      · rfl
      · exact absurd (hb34.symm.trans hb') (by decide)
      clear hf; intro a ha hf; clear ha
      refine st_nil hf (th_n ?_)
      exact ⟨hf.sub ⟨rfl, rfl, rfl, (by rw [hb34]; rfl), trivial⟩, hp⟩
    refine st_move hf (wantY hf rfl rfl hb34) rfl (by decide) ?_
    clear hf; intro a ha hf; clear ha
    refine st_move hf (wantY hf rfl rfl hb34) rfl (by decide) ?_
    clear hf; intro a ha hf; clear ha
    refine st_ineq hf (by decide) (wantY hf rfl rfl hb34) rfl rfl ?_
    clear hf; intro a ha hf; clear ha
    refine st_pick (v := .bool (q27.1 != q29.1)) hf rfl rfl (fun hb' => ?_) (fun hb' => ?_) (by decide) ?_
    · exact absurd (hb34.symm.trans hb') (by decide)
    · rfl
    clear hf; intro a ha hf; clear ha
    refine st_nil hf (th_n ?_)
    exact ⟨hf.sub ⟨rfl, rfl, rfl, (by rw [hb34]; rfl), trivial⟩, hp⟩
  rintro a w ⟨hf, hp⟩
  refine st_move hf rfl rfl (by decide) ?_
  clear hf; intro a ha hf; clear ha
  refine wpList_cut 4 (fun a w => Fr 154 a [(3, optr v1 0), (20, .int .i64 q29.2), (103, .bool ((((!((q17.1.1 == q21.1.1) && (q17.1.2 == q21.1.2))) || (q17.2 != q21.2)) || (q27.1 != q29.1)) || (q27.2 != q29.2)))] ∧ Hp S w0 w (Res.obj 46 v23 [.int .i64 q21.1.1, .int .i64 q21.1.2] :: Res.obj 46 v19 [.int .i64 q17.1.1, .int .i64 q17.1.2] :: Res.obj 24 v1 [.int .i64 c0_Length, .int .u32 c0_One, .int .u32 c0_Two] :: ow)) ?_ ?_
  · rcases Bool.eq_false_or_eq_true (((!((q17.1.1 == q21.1.1) && (q17.1.2 == q21.1.2))) || (q17.2 != q21.2)) || (q27.1 != q29.1)) with hb36 | hb36
    · skip
      refine st_skip hf (wantN hf rfl rfl hb36) rfl (by decide) ?_ rfl
      clear hf; intro a hf
      refine st_skip hf (wantN hf rfl rfl hb36) rfl (by decide) ?_ rfl
      clear hf; intro a hf
      refine st_skip hf (wantN hf rfl rfl hb36) rfl (by decide) ?_ rfl
      clear hf; intro a hf
      refine st_pick (v := .bool true) hf rfl rfl (fun hb' => ?_) (fun hb' => ?_) (by decide) ?_
      · rfl
      · exact absurd (hb36.symm.trans hb') (by decide)
      clear hf; intro a ha hf; clear ha
      refine st_nil hf (th_n ?_)
      exact ⟨hf.sub ⟨rfl, rfl, (by rw [hb36]; rfl), trivial⟩, hp⟩
    refine st_move hf (wantY hf rfl rfl hb36) rfl (by decide) ?_
    clear hf; intro a ha hf; clear ha
    refine st_move hf (wantY hf rfl rfl hb36) rfl (by decide) ?_
    clear hf; intro a ha hf; clear ha
    refine st_ineq hf (by decide) (wantY hf rfl rfl hb36) rfl rfl ?_
    clear hf; intro a ha hf; clear ha
    refine st_pick (v := .bool (q27.2 != q29.2)) hf rfl rfl (fun hb' => ?_) (fun hb' => ?_) (by decide) ?_
    · exact absurd (hb36.symm.trans hb') (by decide)
    · rfl
    clear hf; intro a ha hf; clear ha
    refine st_nil hf (th_n ?_)
    exact ⟨hf.sub ⟨rfl, rfl, (by rw [hb36]; rfl), trivial⟩, hp⟩
  rintro a w ⟨hf, hp⟩
  refine st_move hf rfl rfl (by decide) ?_
  clear hf; intro a ha hf; clear ha
  obtain ⟨z39, hz37, h⟩ := bnd h
  refine wpList_cut 6 (fun a w => Fr 154 a [(3, optr v1 0), (110, .bool z39)] ∧ Hp S w0 w (Res.obj 46 v23 [.int .i64 q21.1.1, .int .i64 q21.1.2] :: Res.obj 46 v19 [.int .i64 q17.1.1, .int .i64 q17.1.2] :: Res.obj 24 v1 [.int .i64 c0_Length, .int .u32 c0_One, .int .u32 c0_Two] :: ow)) ?_ ?_
  · rcases Bool.eq_false_or_eq_true ((((!((q17.1.1 == q21.1.1) && (q17.1.2 == q21.1.2))) || (q17.2 != q21.2)) || (q27.1 != q29.1)) || (q27.2 != q29.2)) with hb38 | hb38
    · skip
      replace hz37 := ifT hz37 hb38
      refine st_skip hf (wantN hf rfl rfl hb38) rfl (by decide) ?_ rfl
      clear hf; intro a hf
      refine st_skip hf (wantN hf rfl rfl hb38) rfl (by decide) ?_ rfl
      clear hf; intro a hf
      refine st_skip hf (wantN hf rfl rfl hb38) rfl (by decide) ?_ rfl
      clear hf; intro a hf
      refine st_skip hf (wantN hf rfl rfl hb38) rfl (by decide) ?_ rfl
      clear hf; intro a hf
      refine st_skip hf (wantN hf rfl rfl hb38) rfl (by decide) ?_ rfl
      clear hf; intro a hf
      obtain rfl := Option.some.inj hz37
      refine st_pick (v := .bool true) hf rfl rfl (fun hb' => ?_) (fun hb' => ?_) (by decide) ?_
      · rfl
      · exact absurd (hb38.symm.trans hb') (by decide)
      clear hf; intro a ha hf; clear ha
      refine st_nil hf (th_n ?_)
      exact ⟨hf.sub ⟨rfl, rfl, trivial⟩, hp⟩
    replace hz37 := ifF hz37 hb38
    refine st_ldOA (m := 3) (us := [.int .i64 c0_Length, .int .u32 c0_One, .int .u32 c0_Two]) hf (by decide) (by kernel_rfl) (wantY hf rfl rfl hb38) rfl (hp.ob (i := 2) rfl) rfl rfl ?_
    clear hf; intro a ha hf; clear ha
    obtain ⟨q40, hcall41, hz37⟩ := bnd hz37
    refine st_call hf (by decide) Try.func22 rfl rfl (wantY hf rfl rfl hb38) rfl rfl (f_foghornlaw21_own_c hp _ _ _ hcall41) ?_
    rintro _ w ⟨rfl, hp0⟩
    clear hp; have hp := hp0; clear hp0
    replace hp : Hp _ _ _ (Res.obj 46 v23 [.int .i64 q21.1.1, .int .i64 q21.1.2] :: Res.obj 46 v19 [.int .i64 q17.1.1, .int .i64 q17.1.2] :: Res.obj 24 v1 [.int .i64 c0_Length, .int .u32 c0_One, .int .u32 c0_Two] :: ow) := hp
    refine ⟨_, rfl, ?_⟩
    clear hf; intro a hf
    obtain ⟨q42, hcall43, hz37⟩ := bnd hz37
    refine st_call hf (by decide) Try.func26 rfl rfl (wantY hf rfl rfl hb38) rfl rfl (f_trellis_Code_Check_c hp _ _ _ hcall43) ?_
    rintro _ w ⟨rfl, hp0⟩
    clear hp; have hp := hp0; clear hp0
    replace hp : Hp _ _ _ (Res.obj 46 v23 [.int .i64 q21.1.1, .int .i64 q21.1.2] :: Res.obj 46 v19 [.int .i64 q17.1.1, .int .i64 q17.1.2] :: Res.obj 24 v1 [.int .i64 c0_Length, .int .u32 c0_One, .int .u32 c0_Two] :: ow) := hp
    refine ⟨_, rfl, ?_⟩
    clear hf; intro a hf
    refine st_move hf (wantY hf rfl rfl hb38) rfl (by decide) ?_
    clear hf; intro a ha hf; clear ha
    refine st_ineq hf (by decide) (wantY hf rfl rfl hb38) rfl rfl ?_
    clear hf; intro a ha hf; clear ha
    obtain rfl := Option.some.inj hz37
    refine st_pick (v := .bool (q42 != q29.2)) hf rfl rfl (fun hb' => ?_) (fun hb' => ?_) (by decide) ?_
    · exact absurd (hb38.symm.trans hb') (by decide)
    · rfl
    clear hf; intro a ha hf; clear ha
    refine st_nil hf (th_n ?_)
    exact ⟨hf.sub ⟨rfl, rfl, trivial⟩, hp⟩
  rintro a w ⟨hf, hp⟩
  refine st_nil hf ?_
  refine th_n ?_
  refine wp_if hf rfl (fun hb => ?_) (fun hb => ?_)
  · replace h := ifT h hb
    refine wp_seq ?_
    refine wp_reg ?_
    refine st_assign hf rfl rfl (by decide) ?_
    clear hf; intro a ha hf; clear ha
    refine st_nil hf ?_
    refine th_n ?_
    refine wp_ret ?_
    refine th_r ?_
    obtain rfl := Option.some.inj h
    have hp : Hp _ _ _ (ow) := Hp.sel (pre := [Res.obj 46 v23 [.int .i64 q21.1.1, .int .i64 q21.1.2], Res.obj 46 v19 [.int .i64 q17.1.1, .int .i64 q17.1.2], Res.obj 24 v1 [.int .i64 c0_Length, .int .u32 c0_One, .int .u32 c0_Two]]) (tail := ow) (rs' := []) hp [] (by decide) (by simp) rfl
    exact ⟨rfl, ⟨hf.sub ⟨rfl, trivial⟩, hp⟩⟩
  replace h := ifF h hb
  refine wp_skip ?_
  refine th_n ?_
  refine wp_seq ?_
  refine wp_reg ?_
  refine st_ldOA (m := 3) (us := [.int .i64 c0_Length, .int .u32 c0_One, .int .u32 c0_Two]) hf (by decide) (by kernel_rfl) rfl rfl (hp.ob (i := 2) rfl) rfl rfl ?_
  clear hf; intro a ha hf; clear ha
  obtain ⟨q44, hcall45, h⟩ := bnd h
  refine st_call hf (by decide) Try.func22 rfl rfl rfl rfl rfl (f_foghornlaw21_own_c hp _ _ _ hcall45) ?_
  rintro _ w ⟨rfl, hp0⟩
  clear hp; have hp := hp0; clear hp0
  replace hp : Hp _ _ _ (Res.obj 46 v23 [.int .i64 q21.1.1, .int .i64 q21.1.2] :: Res.obj 46 v19 [.int .i64 q17.1.1, .int .i64 q17.1.2] :: Res.obj 24 v1 [.int .i64 c0_Length, .int .u32 c0_One, .int .u32 c0_Two] :: ow) := hp
  refine ⟨_, rfl, ?_⟩
  clear hf; intro a hf
  obtain ⟨q46, hcall47, h⟩ := bnd h
  refine st_call hf (by decide) Try.func19 rfl rfl rfl rfl rfl (f_trellis_Code_Free_c hp _ _ _ hcall47) ?_
  rintro _ w ⟨rfl, hp0⟩
  clear hp; have hp := hp0; clear hp0
  replace hp : Hp _ _ _ (Res.obj 46 v23 [.int .i64 q21.1.1, .int .i64 q21.1.2] :: Res.obj 46 v19 [.int .i64 q17.1.1, .int .i64 q17.1.2] :: Res.obj 24 v1 [.int .i64 c0_Length, .int .u32 c0_One, .int .u32 c0_Two] :: ow) := hp
  refine ⟨_, rfl, ?_⟩
  clear hf; intro a hf
  refine st_move hf rfl rfl (by decide) ?_
  clear hf; intro a ha hf; clear ha
  refine st_extract hf (by decide) rfl rfl rfl ?_
  clear hf; intro a ha hf; clear ha
  refine st_extract hf (by decide) rfl rfl rfl ?_
  clear hf; intro a ha hf; clear ha
  refine st_assign hf rfl rfl (by decide) ?_
  clear hf; intro a ha hf; clear ha
  refine st_assign hf rfl rfl (by decide) ?_
  clear hf; intro a ha hf; clear ha
  refine st_nil hf ?_
  refine th_n ?_
  refine wp_seq ?_
  refine wp_reg ?_
  refine st_ldOA (m := 3) (us := [.int .i64 c0_Length, .int .u32 c0_One, .int .u32 c0_Two]) hf (by decide) (by kernel_rfl) rfl rfl (hp.ob (i := 2) rfl) rfl rfl ?_
  clear hf; intro a ha hf; clear ha
  obtain ⟨q48, hcall49, h⟩ := bnd h
  refine st_call hf (by decide) Try.func27 rfl rfl rfl rfl rfl (f_foghornref21_Free_c hp _ _ _ hcall49) ?_
  rintro _ w ⟨rfl, hp0⟩
  clear hp; have hp := hp0; clear hp0
  replace hp : Hp _ _ _ (Res.obj 46 v23 [.int .i64 q21.1.1, .int .i64 q21.1.2] :: Res.obj 46 v19 [.int .i64 q17.1.1, .int .i64 q17.1.2] :: Res.obj 24 v1 [.int .i64 c0_Length, .int .u32 c0_One, .int .u32 c0_Two] :: ow) := hp
  refine ⟨_, rfl, ?_⟩
  clear hf; intro a hf
  refine st_move hf rfl rfl (by decide) ?_
  clear hf; intro a ha hf; clear ha
  refine st_extract hf (by decide) rfl rfl rfl ?_
  clear hf; intro a ha hf; clear ha
  refine st_extract hf (by decide) rfl rfl rfl ?_
  clear hf; intro a ha hf; clear ha
  refine st_assign hf rfl rfl (by decide) ?_
  clear hf; intro a ha hf; clear ha
  refine st_assign hf rfl rfl (by decide) ?_
  clear hf; intro a ha hf; clear ha
  refine st_nil hf ?_
  refine th_n ?_
  refine wp_seq ?_
  refine wp_reg ?_
  refine st_ldOA (m := 3) (us := [.int .i64 c0_Length, .int .u32 c0_One, .int .u32 c0_Two]) hf (by decide) (by kernel_rfl) rfl rfl (hp.ob (i := 2) rfl) rfl rfl ?_
  clear hf; intro a ha hf; clear ha
  obtain ⟨q50, hcall51, h⟩ := bnd h
  refine st_call hf (by decide) Try.func22 rfl rfl rfl rfl rfl (f_foghornlaw21_own_c hp _ _ _ hcall51) ?_
  rintro _ w ⟨rfl, hp0⟩
  clear hp; have hp := hp0; clear hp0
  replace hp : Hp _ _ _ (Res.obj 46 v23 [.int .i64 q21.1.1, .int .i64 q21.1.2] :: Res.obj 46 v19 [.int .i64 q17.1.1, .int .i64 q17.1.2] :: Res.obj 24 v1 [.int .i64 c0_Length, .int .u32 c0_One, .int .u32 c0_Two] :: ow) := hp
  refine ⟨_, rfl, ?_⟩
  clear hf; intro a hf
  obtain ⟨q52, hcall53, h⟩ := bnd h
  refine st_call hf (by decide) Try.func28 rfl rfl rfl rfl rfl (f_trellis_Code_Slips_c hp _ _ _ hcall53) ?_
  rintro _ w ⟨rfl, hp0⟩
  clear hp; have hp := hp0; clear hp0
  replace hp : Hp _ _ _ (Res.obj 46 v23 [.int .i64 q21.1.1, .int .i64 q21.1.2] :: Res.obj 46 v19 [.int .i64 q17.1.1, .int .i64 q17.1.2] :: Res.obj 24 v1 [.int .i64 c0_Length, .int .u32 c0_One, .int .u32 c0_Two] :: ow) := hp
  refine ⟨_, rfl, ?_⟩
  clear hf; intro a hf
  refine st_move hf rfl rfl (by decide) ?_
  clear hf; intro a ha hf; clear ha
  refine st_extract hf (by decide) rfl rfl rfl ?_
  clear hf; intro a ha hf; clear ha
  refine st_extract hf (by decide) rfl rfl rfl ?_
  clear hf; intro a ha hf; clear ha
  refine st_assign hf rfl rfl (by decide) ?_
  clear hf; intro a ha hf; clear ha
  refine st_assign hf rfl rfl (by decide) ?_
  clear hf; intro a ha hf; clear ha
  refine st_nil hf ?_
  refine th_n ?_
  refine wp_seq ?_
  refine wp_reg ?_
  refine st_ldOA (m := 3) (us := [.int .i64 c0_Length, .int .u32 c0_One, .int .u32 c0_Two]) hf (by decide) (by kernel_rfl) rfl rfl (hp.ob (i := 2) rfl) rfl rfl ?_
  clear hf; intro a ha hf; clear ha
  obtain ⟨q54, hcall55, h⟩ := bnd h
  refine st_call hf (by decide) Try.func29 rfl rfl rfl rfl rfl (f_foghornref21_Slips_c hp _ _ _ hcall55) ?_
  rintro _ w ⟨rfl, hp0⟩
  clear hp; have hp := hp0; clear hp0
  replace hp : Hp _ _ _ (Res.obj 46 v23 [.int .i64 q21.1.1, .int .i64 q21.1.2] :: Res.obj 46 v19 [.int .i64 q17.1.1, .int .i64 q17.1.2] :: Res.obj 24 v1 [.int .i64 c0_Length, .int .u32 c0_One, .int .u32 c0_Two] :: ow) := hp
  refine ⟨_, rfl, ?_⟩
  clear hf; intro a hf
  refine st_move hf rfl rfl (by decide) ?_
  clear hf; intro a ha hf; clear ha
  refine st_extract hf (by decide) rfl rfl rfl ?_
  clear hf; intro a ha hf; clear ha
  refine st_extract hf (by decide) rfl rfl rfl ?_
  clear hf; intro a ha hf; clear ha
  refine st_assign hf rfl rfl (by decide) ?_
  clear hf; intro a ha hf; clear ha
  refine st_assign hf rfl rfl (by decide) ?_
  clear hf; intro a ha hf; clear ha
  refine st_nil hf ?_
  refine th_n ?_
  refine wp_seq ?_
  refine wp_reg ?_
  refine st_move hf rfl rfl (by decide) ?_
  clear hf; intro a ha hf; clear ha
  refine st_move hf rfl rfl (by decide) ?_
  clear hf; intro a ha hf; clear ha
  refine st_ieql hf (by decide) rfl rfl rfl ?_
  clear hf; intro a ha hf; clear ha
  refine st_move hf rfl rfl (by decide) ?_
  clear hf; intro a ha hf; clear ha
  refine wpList_cut 4 (fun a w => Fr 154 a [(18, .int .i64 q52.2), (20, .int .i64 q54.2), (23, .bool q52.1), (24, .bool q54.1), (140, .bool ((q46.1 == q48.1) && (q46.2 == q48.2)))] ∧ Hp S w0 w (Res.obj 46 v23 [.int .i64 q21.1.1, .int .i64 q21.1.2] :: Res.obj 46 v19 [.int .i64 q17.1.1, .int .i64 q17.1.2] :: Res.obj 24 v1 [.int .i64 c0_Length, .int .u32 c0_One, .int .u32 c0_Two] :: ow)) ?_ ?_
  · rcases Bool.eq_false_or_eq_true (q46.1 == q48.1) with hb57 | hb57
    · skip
      refine st_move hf (wantY hf rfl rfl hb57) rfl (by decide) ?_
      clear hf; intro a ha hf; clear ha
      refine st_move hf (wantY hf rfl rfl hb57) rfl (by decide) ?_
      clear hf; intro a ha hf; clear ha
      refine st_ieql hf (by decide) (wantY hf rfl rfl hb57) rfl rfl ?_
      clear hf; intro a ha hf; clear ha
      refine st_pick (v := .bool (q46.2 == q48.2)) hf rfl rfl (fun hb' => ?_) (fun hb' => ?_) (by decide) ?_
      · rfl
      · exact absurd (hb57.symm.trans hb') (by decide)
      clear hf; intro a ha hf; clear ha
      refine st_nil hf (th_n ?_)
      exact ⟨hf.sub ⟨rfl, rfl, rfl, rfl, (by rw [hb57]; rfl), trivial⟩, hp⟩
    refine st_skip hf (wantN hf rfl rfl hb57) rfl (by decide) ?_ rfl
    clear hf; intro a hf
    refine st_skip hf (wantN hf rfl rfl hb57) rfl (by decide) ?_ rfl
    clear hf; intro a hf
    refine st_skip hf (wantN hf rfl rfl hb57) rfl (by decide) ?_ rfl
    clear hf; intro a hf
    refine st_pick (v := .bool false) hf rfl rfl (fun hb' => ?_) (fun hb' => ?_) (by decide) ?_
    · exact absurd (hb57.symm.trans hb') (by decide)
    · rfl
    clear hf; intro a ha hf; clear ha
    refine st_nil hf (th_n ?_)
    exact ⟨hf.sub ⟨rfl, rfl, rfl, rfl, (by rw [hb57]; rfl), trivial⟩, hp⟩
  rintro a w ⟨hf, hp⟩
  refine st_move hf rfl rfl (by decide) ?_
  clear hf; intro a ha hf; clear ha
  refine wpList_cut 4 (fun a w => Fr 154 a [(18, .int .i64 q52.2), (20, .int .i64 q54.2), (145, .bool (((q46.1 == q48.1) && (q46.2 == q48.2)) && (q52.1 == q54.1)))] ∧ Hp S w0 w (Res.obj 46 v23 [.int .i64 q21.1.1, .int .i64 q21.1.2] :: Res.obj 46 v19 [.int .i64 q17.1.1, .int .i64 q17.1.2] :: Res.obj 24 v1 [.int .i64 c0_Length, .int .u32 c0_One, .int .u32 c0_Two] :: ow)) ?_ ?_
  · rcases Bool.eq_false_or_eq_true ((q46.1 == q48.1) && (q46.2 == q48.2)) with hb59 | hb59
    · skip
      refine st_move hf (wantY hf rfl rfl hb59) rfl (by decide) ?_
      clear hf; intro a ha hf; clear ha
      refine st_move hf (wantY hf rfl rfl hb59) rfl (by decide) ?_
      clear hf; intro a ha hf; clear ha
      refine st_beql hf (by decide) Try.underlying4 (wantY hf rfl rfl hb59) rfl rfl ?_
      clear hf; intro a ha hf; clear ha
      refine st_pick (v := .bool (q52.1 == q54.1)) hf rfl rfl (fun hb' => ?_) (fun hb' => ?_) (by decide) ?_
      · rfl
      · exact absurd (hb59.symm.trans hb') (by decide)
      clear hf; intro a ha hf; clear ha
      refine st_nil hf (th_n ?_)
      exact ⟨hf.sub ⟨rfl, rfl, (by rw [hb59]; rfl), trivial⟩, hp⟩
    refine st_skip hf (wantN hf rfl rfl hb59) rfl (by decide) ?_ rfl
    clear hf; intro a hf
    refine st_skip hf (wantN hf rfl rfl hb59) rfl (by decide) ?_ rfl
    clear hf; intro a hf
    refine st_skip hf (wantN hf rfl rfl hb59) rfl (by decide) ?_ rfl
    clear hf; intro a hf
    refine st_pick (v := .bool false) hf rfl rfl (fun hb' => ?_) (fun hb' => ?_) (by decide) ?_
    · exact absurd (hb59.symm.trans hb') (by decide)
    · rfl
    clear hf; intro a ha hf; clear ha
    refine st_nil hf (th_n ?_)
    exact ⟨hf.sub ⟨rfl, rfl, (by rw [hb59]; rfl), trivial⟩, hp⟩
  rintro a w ⟨hf, hp⟩
  refine st_move hf rfl rfl (by decide) ?_
  clear hf; intro a ha hf; clear ha
  refine wpList_cut 4 (fun a w => Fr 154 a [(150, .bool ((((q46.1 == q48.1) && (q46.2 == q48.2)) && (q52.1 == q54.1)) && (q52.2 == q54.2)))] ∧ Hp S w0 w (Res.obj 46 v23 [.int .i64 q21.1.1, .int .i64 q21.1.2] :: Res.obj 46 v19 [.int .i64 q17.1.1, .int .i64 q17.1.2] :: Res.obj 24 v1 [.int .i64 c0_Length, .int .u32 c0_One, .int .u32 c0_Two] :: ow)) ?_ ?_
  · rcases Bool.eq_false_or_eq_true (((q46.1 == q48.1) && (q46.2 == q48.2)) && (q52.1 == q54.1)) with hb61 | hb61
    · skip
      refine st_move hf (wantY hf rfl rfl hb61) rfl (by decide) ?_
      clear hf; intro a ha hf; clear ha
      refine st_move hf (wantY hf rfl rfl hb61) rfl (by decide) ?_
      clear hf; intro a ha hf; clear ha
      refine st_ieql hf (by decide) (wantY hf rfl rfl hb61) rfl rfl ?_
      clear hf; intro a ha hf; clear ha
      refine st_pick (v := .bool (q52.2 == q54.2)) hf rfl rfl (fun hb' => ?_) (fun hb' => ?_) (by decide) ?_
      · rfl
      · exact absurd (hb61.symm.trans hb') (by decide)
      clear hf; intro a ha hf; clear ha
      refine st_nil hf (th_n ?_)
      exact ⟨hf.sub ⟨(by rw [hb61]; rfl), trivial⟩, hp⟩
    refine st_skip hf (wantN hf rfl rfl hb61) rfl (by decide) ?_ rfl
    clear hf; intro a hf
    refine st_skip hf (wantN hf rfl rfl hb61) rfl (by decide) ?_ rfl
    clear hf; intro a hf
    refine st_skip hf (wantN hf rfl rfl hb61) rfl (by decide) ?_ rfl
    clear hf; intro a hf
    refine st_pick (v := .bool false) hf rfl rfl (fun hb' => ?_) (fun hb' => ?_) (by decide) ?_
    · exact absurd (hb61.symm.trans hb') (by decide)
    · rfl
    clear hf; intro a ha hf; clear ha
    refine st_nil hf (th_n ?_)
    exact ⟨hf.sub ⟨(by rw [hb61]; rfl), trivial⟩, hp⟩
  rintro a w ⟨hf, hp⟩
  refine st_move hf rfl rfl (by decide) ?_
  clear hf; intro a ha hf; clear ha
  obtain ⟨z64, hz62, h⟩ := bnd h
  refine wpList_cut 2 (fun a w => Fr 154 a [(153, .bool z64)] ∧ Hp S w0 w (Res.obj 46 v23 [.int .i64 q21.1.1, .int .i64 q21.1.2] :: Res.obj 46 v19 [.int .i64 q17.1.1, .int .i64 q17.1.2] :: Res.obj 24 v1 [.int .i64 c0_Length, .int .u32 c0_One, .int .u32 c0_Two] :: ow)) ?_ ?_
  · rcases Bool.eq_false_or_eq_true ((((q46.1 == q48.1) && (q46.2 == q48.2)) && (q52.1 == q54.1)) && (q52.2 == q54.2)) with hb63 | hb63
    · skip
      replace hz62 := ifT hz62 hb63
      obtain ⟨q65, hcall66, hz62⟩ := bnd hz62
      refine st_call hf (by decide) Try.func11 rfl rfl (wantY hf rfl rfl hb63) rfl rfl (f_foghornlaw21_awake_c hp  hcall66) ?_
      rintro _ w ⟨rfl, hp0⟩
      clear hp; have hp := hp0; clear hp0
      replace hp : Hp _ _ _ (Res.obj 46 v23 [.int .i64 q21.1.1, .int .i64 q21.1.2] :: Res.obj 46 v19 [.int .i64 q17.1.1, .int .i64 q17.1.2] :: Res.obj 24 v1 [.int .i64 c0_Length, .int .u32 c0_One, .int .u32 c0_Two] :: ow) := hp
      refine ⟨_, rfl, ?_⟩
      clear hf; intro a hf
      obtain rfl := Option.some.inj hz62
      refine st_pick (v := .bool q65) hf rfl rfl (fun hb' => ?_) (fun hb' => ?_) (by decide) ?_
      · rfl
      · exact absurd (hb63.symm.trans hb') (by decide)
      clear hf; intro a ha hf; clear ha
      refine st_nil hf (th_n ?_)
      exact ⟨hf.sub ⟨rfl, trivial⟩, hp⟩
    replace hz62 := ifF hz62 hb63
    refine st_skip hf (wantN hf rfl rfl hb63) rfl (by decide) ?_ rfl
    clear hf; intro a hf
    obtain rfl := Option.some.inj hz62
    refine st_pick (v := .bool false) hf rfl rfl (fun hb' => ?_) (fun hb' => ?_) (by decide) ?_
    · exact absurd (hb63.symm.trans hb') (by decide)
    · rfl
    clear hf; intro a ha hf; clear ha
    refine st_nil hf (th_n ?_)
    exact ⟨hf.sub ⟨rfl, trivial⟩, hp⟩
  rintro a w ⟨hf, hp⟩
  refine st_assign hf rfl rfl (by decide) ?_
  clear hf; intro a ha hf; clear ha
  refine st_nil hf ?_
  refine th_n ?_
  refine wp_ret ?_
  obtain rfl := Option.some.inj h
  have hp : Hp _ _ _ (ow) := Hp.sel (pre := [Res.obj 46 v23 [.int .i64 q21.1.1, .int .i64 q21.1.2], Res.obj 46 v19 [.int .i64 q17.1.1, .int .i64 q17.1.2], Res.obj 24 v1 [.int .i64 c0_Length, .int .u32 c0_One, .int .u32 c0_Two]]) (tail := ow) (rs' := []) hp [] (by decide) (by simp) rfl
  exact ⟨rfl, ⟨hf.sub ⟨rfl, trivial⟩, hp⟩⟩

end Go.Proofs.Ytilodendgbjelaa
