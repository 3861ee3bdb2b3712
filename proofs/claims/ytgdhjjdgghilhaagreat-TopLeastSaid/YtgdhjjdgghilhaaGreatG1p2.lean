/- The functions foghorn foghorntop.TopLeast: what each answers, as a plain function, and that its call answers it; printed by gen.py. -/
import Derived.Test.YtgdhjjdgghilhaaGreatProg
import Derived.Test.YtgdhjjdgghilhaaGreatGlUi
import Derived.KernelRfl
import Derived.Test.YtgdhjjdgghilhaaGreatG1p1
set_option linter.unusedVariables false
set_option linter.unusedSimpArgs false
set_option maxRecDepth 100000
set_option maxHeartbeats 4000000
namespace Go.Proofs.YtgdhjjdgghilhaaGreat
open GL
abbrev bap20 : ByteArray := ByteArray.mk #[0, 1, 1, 2, 1, 2, 2, 3, 1, 2, 2, 3, 2, 3, 3, 4, 1, 2, 2, 3, 2, 3, 3, 4, 2, 3, 3, 4, 3, 4, 4, 5, 1, 2, 2, 3, 2, 3, 3, 4, 2, 3, 3, 4, 3, 4, 4, 5, 2, 3, 3, 4, 3, 4, 4, 5, 3, 4, 4, 5, 4, 5, 5, 6, 1, 2, 2, 3, 2, 3, 3, 4, 2, 3, 3, 4, 3, 4, 4, 5, 2, 3, 3, 4, 3, 4, 4, 5, 3, 4, 4, 5, 4, 5, 5, 6, 2, 3, 3, 4, 3, 4, 4, 5, 3, 4, 4, 5, 4, 5, 5, 6, 3, 4, 4, 5, 4, 5, 5, 6, 4, 5, 5, 6, 5, 6, 6, 7, 1, 2, 2, 3, 2, 3, 3, 4, 2, 3, 3, 4, 3, 4, 4, 5, 2, 3, 3, 4, 3, 4, 4, 5, 3, 4, 4, 5, 4, 5, 5, 6, 2, 3, 3, 4, 3, 4, 4, 5, 3, 4, 4, 5, 4, 5, 5, 6, 3, 4, 4, 5, 4, 5, 5, 6, 4, 5, 5, 6, 5, 6, 6, 7, 2, 3, 3, 4, 3, 4, 4, 5, 3, 4, 4, 5, 4, 5, 5, 6, 3, 4, 4, 5, 4, 5, 5, 6, 4, 5, 5, 6, 5, 6, 6, 7, 3, 4, 4, 5, 4, 5, 5, 6, 4, 5, 5, 6, 5, 6, 6, 7, 4, 5, 5, 6, 5, 6, 6, 7, 5, 6, 6, 7, 6, 7, 7, 8]
abbrev bap21 : ByteArray := ByteArray.mk #[0, 1, 2, 2, 3, 3, 3, 3, 4, 4, 4, 4, 4, 4, 4, 4, 5, 5, 5, 5, 5, 5, 5, 5, 5, 5, 5, 5, 5, 5, 5, 5, 6, 6, 6, 6, 6, 6, 6, 6, 6, 6, 6, 6, 6, 6, 6, 6, 6, 6, 6, 6, 6, 6, 6, 6, 6, 6, 6, 6, 6, 6, 6, 6, 7, 7, 7, 7, 7, 7, 7, 7, 7, 7, 7, 7, 7, 7, 7, 7, 7, 7, 7, 7, 7, 7, 7, 7, 7, 7, 7, 7, 7, 7, 7, 7, 7, 7, 7, 7, 7, 7, 7, 7, 7, 7, 7, 7, 7, 7, 7, 7, 7, 7, 7, 7, 7, 7, 7, 7, 7, 7, 7, 7, 7, 7, 7, 7, 8, 8, 8, 8, 8, 8, 8, 8, 8, 8, 8, 8, 8, 8, 8, 8, 8, 8, 8, 8, 8, 8, 8, 8, 8, 8, 8, 8, 8, 8, 8, 8, 8, 8, 8, 8, 8, 8, 8, 8, 8, 8, 8, 8, 8, 8, 8, 8, 8, 8, 8, 8, 8, 8, 8, 8, 8, 8, 8, 8, 8, 8, 8, 8, 8, 8, 8, 8, 8, 8, 8, 8, 8, 8, 8, 8, 8, 8, 8, 8, 8, 8, 8, 8, 8, 8, 8, 8, 8, 8, 8, 8, 8, 8, 8, 8, 8, 8, 8, 8, 8, 8, 8, 8, 8, 8, 8, 8, 8, 8, 8, 8, 8, 8, 8, 8, 8, 8, 8, 8, 8, 8, 8, 8, 8, 8, 8, 8]
noncomputable def f_slice_Decide (zx1 : (Fl × Fl)) : Option ((Int × (Fl × Fl) × Bool) × Int) := ((f_points_Edge (4 : Int)).bind fun q3 => (if (q3.2 != (0 : Int)) = true then (some (((0 : Int), (Fl.bits 0, Fl.bits 0), false), (1 : Int))) else ((f_slice_decide q3.1 zx1).bind fun q5 => (some ((q5.1, q5.2.1, q5.2.2), (0 : Int))))))
theorem f_slice_Decide_c {S : Nat → Prop} {w0 w : World} {ow : List Res} (hp : Hp S w0 w ow) (bzx1 czx1 : Nat) (zx1 : Fl × Fl) (hzx1 : zx1.1.rep bzx1) (kzx1 : zx1.2.rep czx1) {r : ((Int × (Fl × Fl) × Bool) × Int)} (h : f_slice_Decide zx1 = some r) :
   Calls Tryz.prog 67 #[.int .i64 (4 : Int), .complex .f64 bzx1 czx1] w (fun e w' => ∃ (b0 : Nat) (b1 : Nat), e = .returned (.tuple #[.agg #[.int .i64 r.1.1, .complex .f64 b0 b1, .bool r.1.2.2], .int .i64 r.2]) ∧ Fl.rep b0 r.1.2.1.1 ∧ Fl.rep b1 r.1.2.1.2 ∧ Hp S w0 w' (ow)) := by
  unfold f_slice_Decide at h
  refine enx (n := 20) Tryz.func67 fun a hf => ?_
  refine wp_mono (Q := fun e a w => e = .ret ∧ ∃ (b0 : Nat) (b1 : Nat) (c0 : Value), Fr 20 a [(4, optr c0 0), (5, .int .i64 r.2)] ∧ Fl.rep b0 r.1.2.1.1 ∧ Fl.rep b1 r.1.2.1.2 ∧ Hp S w0 w (Res.obj 59 c0 [.int .i64 r.1.1, .complex .f64 b0 b1, .bool r.1.2.2] :: ow)) ?_ ?_
  rotate_left
  ·
   rintro e a w ⟨rfl, x0, x1, c0, hf, y0, y1, hp⟩
   exact retG2 hf rfl ⟨_, _, rfl, hp.ob (i := 0) rfl, .inr ⟨by kernel_rfl, rfl⟩⟩ rfl ⟨x0, x1, rfl, y0, y1, hp.drop⟩
  refine goT ?_
  refine st_alloc (cs := [.int .i64 (0 : Int), .complex .f64 0 0, .bool false]) (zv := .agg #[.int .i64 (0 : Int), .complex .f64 0 0, .bool false]) hf (by decide) (by kernel_rfl) rfl hp rfl ?_
  clear hf; intro a w v1 hf hp0; clear hp; have hp := hp0; clear hp0
  replace hp : Hp _ _ _ (Res.obj 59 v1 [.int .i64 (0 : Int), .complex .f64 0 0, .bool false] :: ow) := hp
  refine go ?_; intro a hf
  obtain ⟨q3, hcall4, h⟩ := bnd h
  refine st_call hf (by decide) Tryz.func62 rfl rfl rfl rfl rfl (f_points_Edge_c hp _ hcall4) ?_
  rintro _ w ⟨rfl, hp⟩
  replace hp : Hp _ _ _ (_ :: ow) := hp
  refine ⟨_, rfl, fun a hf => ?_⟩
  refine go ?_; intro a hf
  refine wp_if hf rfl (fun hb => ?_) (fun hb => ?_)
  ·
   replace h := ifT h hb
   refine goT ?_
   refine st_buildA (vals := []) (cells := [.int .i64 (0 : Int), .complex .f64 0 0, .bool false]) hf (by decide) rfl (by simp []) (fun w => by kernel_rfl) fun a _ hf => ?_
   refine st_stO (us := [.int .i64 (0 : Int), .complex .f64 0 0, .bool false]) hf hp (i := 0) rfl rfl rfl rfl rfl (by rfl) (by kernel_rfl) (Nat.le_of_ble_eq_true rfl) ?_
   clear hf; intro a w hf hp0; clear hp; have hp := hp0; clear hp0
   replace hp : Hp _ _ _ (_ :: ow) := hp
   refine go ?_; intro a hf
   obtain rfl := oj h
   exact ⟨rfl, ⟨_, _, _, hf.sb, rfl, rfl, hp⟩⟩
  replace h := ifF h hb
  refine wp_skip ?_
  refine go ?_; intro a hf
  obtain ⟨q5, hcall6, h⟩ := bnd h
  refine st_call hf (by decide) Tryz.func81 rfl rfl rfl rfl rfl (f_slice_decide_c hp _ _ _ _ (show Fl.rep bzx1 (zx1).1 from hzx1) (show Fl.rep czx1 (zx1).2 from kzx1) hcall6) ?_
  rintro _ w ⟨v7, v8, rfl, y9, y10, hp⟩
  replace hp : Hp _ _ _ (_ :: ow) := hp
  refine ⟨_, rfl, fun a hf => ?_⟩
  refine st_stO (us := [.int .i64 q5.1, .complex .f64 v7 v8, .bool q5.2.2]) hf hp (i := 0) rfl rfl rfl rfl rfl (by rfl) (by kernel_rfl) (Nat.le_of_ble_eq_true rfl) ?_
  clear hf; intro a w hf hp0; clear hp; have hp := hp0; clear hp0
  replace hp : Hp _ _ _ (Res.obj 59 v1 [.int .i64 q5.1, .complex .f64 v7 v8, .bool q5.2.2] :: ow) := hp
  refine go ?_; intro a hf
  obtain rfl := oj h
  exact ⟨rfl, ⟨_, _, _, hf.sb, y9, y10, hp⟩⟩

noncomputable def f_feedback_Loop_Step.s1c (l0 : (List (Int × (List (Fl × Fl)) × (List (Fl × Fl)) × Int × Int × Fl × Int × Bool × Bool × (Fl × Fl)))) (il0 : Int) (re8 : Fl) (im9 : Fl) (k10 : Int) : Option ((Fl × Fl × Int) ⊕ (Fl × Fl)) := (if (decide (k10 < (gt l0 il0).2.2.2.1)) = true then (if 0 ≤ k10 ∧ k10 < (64 : Int) then (if 0 ≤ (((IntKind.i64.wrap ((IntKind.i64.wrap ((gt l0 il0).2.2.2.2.1 - k10)) + (64 : Int)))).tmod (64 : Int)) ∧ (((IntKind.i64.wrap ((IntKind.i64.wrap ((gt l0 il0).2.2.2.2.1 - k10)) + (64 : Int)))).tmod (64 : Int)) < (64 : Int) then ((f_feedback_times (gt ((gt l0 il0).2.1) k10) (gt ((gt l0 il0).2.2.1) (((IntKind.i64.wrap ((IntKind.i64.wrap ((gt l0 il0).2.2.2.2.1 - k10)) + (64 : Int)))).tmod (64 : Int)))).bind fun q52 => (some (Sum.inl ((fsub re8 q52.1), (fsub im9 q52.2), (IntKind.i64.wrap (k10 + (1 : Int))))))) else none) else none) else (some (Sum.inr (re8, im9))))
noncomputable def f_feedback_Loop_Step.s1 (l0 : (List (Int × (List (Fl × Fl)) × (List (Fl × Fl)) × Int × Int × Fl × Int × Bool × Bool × (Fl × Fl)))) (il0 : Int) (s : (Fl × Fl × Int)) : Option ((Fl × Fl × Int) ⊕ (Fl × Fl)) := f_feedback_Loop_Step.s1c l0 il0 s.1 s.2.1 s.2.2
noncomputable def f_feedback_Loop_Step (l0 : (List (Int × (List (Fl × Fl)) × (List (Fl × Fl)) × Int × Int × Fl × Int × Bool × Bool × (Fl × Fl)))) (il0 : Int) (sx1_V : (Fl × Fl)) (sx1_Lost : Bool) : Option ((Int × (Fl × Fl) × Bool) × Int × (List (Int × (List (Fl × Fl)) × (List (Fl × Fl)) × Int × Int × Fl × Int × Bool × Bool × (Fl × Fl)))) := ((f_grid_Check ([(sx1_V, sx1_Lost)])).bind fun q8 => (if (q8.2 != (0 : Int)) = true then (some (((0 : Int), (Fl.bits 0, Fl.bits 0), false), q8.2, l0)) else (if (((gt l0 il0).2.2.2.2.2.2.2.2.1) || sx1_Lost) = true then ((some (l0.set (il0).toNat ((gt l0 il0).1, (gt l0 il0).2.1, (gt l0 il0).2.2.1, (gt l0 il0).2.2.2.1, (gt l0 il0).2.2.2.2.1, (gt l0 il0).2.2.2.2.2.1, (gt l0 il0).2.2.2.2.2.2.1, (gt l0 il0).2.2.2.2.2.2.2.1, true, (gt l0 il0).2.2.2.2.2.2.2.2.2))).bind fun q17 => (some (((0 : Int), (Fl.bits 0, Fl.bits 0), true), (0 : Int), q17))) else ((loop (f_feedback_Loop_Step.s1 l0 il0) (sx1_V.1, sx1_V.2, (1 : Int))).bind (fun q62 => ((f_feedback_turned (q62.1, q62.2) ((gt l0 il0).2.2.2.2.2.2.1)).bind fun q63 => ((farithS .quo q63.1 ((gt l0 il0).2.2.2.2.2.1)).bind fun q80 => ((farithS .quo q63.2 ((gt l0 il0).2.2.2.2.2.1)).bind fun q87 => ((some (l0.set (il0).toNat ((gt l0 il0).1, (gt l0 il0).2.1, (gt l0 il0).2.2.1, (gt l0 il0).2.2.2.1, (gt l0 il0).2.2.2.2.1, (gt l0 il0).2.2.2.2.2.1, (gt l0 il0).2.2.2.2.2.2.1, (gt l0 il0).2.2.2.2.2.2.2.1, (gt l0 il0).2.2.2.2.2.2.2.2.1, (q80, q87)))).bind fun q89 => ((some (q89.set (il0).toNat ((gt q89 il0).1, (gt q89 il0).2.1, (gt q89 il0).2.2.1, (gt q89 il0).2.2.2.1, (gt q89 il0).2.2.2.2.1, (gt q89 il0).2.2.2.2.2.1, (gt q89 il0).2.2.2.2.2.2.1, true, (gt q89 il0).2.2.2.2.2.2.2.2.1, (gt q89 il0).2.2.2.2.2.2.2.2.2))).bind fun q92 => (if (gt q92 il0).1 = (4 : Int) then ((f_slice_Decide ((gt q92 il0).2.2.2.2.2.2.2.2.2)).bind fun q107 => (if 0 ≤ (gt q92 il0).2.2.2.2.1 ∧ (gt q92 il0).2.2.2.2.1 < (64 : Int) then ((some (q92.set (il0).toNat ((gt q92 il0).1, (gt q92 il0).2.1, (((gt q92 il0).2.2.1).set ((gt q92 il0).2.2.2.2.1).toNat q107.1.2.1), (gt q92 il0).2.2.2.1, (gt q92 il0).2.2.2.2.1, (gt q92 il0).2.2.2.2.2.1, (gt q92 il0).2.2.2.2.2.2.1, (gt q92 il0).2.2.2.2.2.2.2.1, (gt q92 il0).2.2.2.2.2.2.2.2.1, (gt q92 il0).2.2.2.2.2.2.2.2.2))).bind fun q128 => ((some (q128.set (il0).toNat ((gt q128 il0).1, (gt q128 il0).2.1, (gt q128 il0).2.2.1, (gt q128 il0).2.2.2.1, (((IntKind.i64.wrap ((gt q128 il0).2.2.2.2.1 + (1 : Int)))).tmod (64 : Int)), (gt q128 il0).2.2.2.2.2.1, (gt q128 il0).2.2.2.2.2.2.1, (gt q128 il0).2.2.2.2.2.2.2.1, (gt q128 il0).2.2.2.2.2.2.2.2.1, (gt q128 il0).2.2.2.2.2.2.2.2.2))).bind fun q131 => (some ((q107.1.1, q107.1.2.1, q107.1.2.2), q107.2, q131)))) else none)) else none)))))))))))
theorem f_feedback_Loop_Step_c {S : Nat → Prop} {w0 w : World} {ow : List Res} (vl0 : Value) (tbl0 : Nat) (l0 : List (Int × (List (Fl × Fl)) × (List (Fl × Fl)) × Int × Int × Fl × Int × Bool × Bool × (Fl × Fl))) (il0 : Int) (kl0 : 0 ≤ il0 ∧ il0 < (l0.length : Int)) (bsx1_V csx1_V : Nat) (sx1_V : Fl × Fl) (hsx1_V : sx1_V.1.rep bsx1_V) (ksx1_V : sx1_V.2.rep csx1_V) (sx1_Lost : Bool) (hp : Hp S w0 w (Res.sl EK1 tbl0 vl0 l0 :: ow)) {r : ((Int × (Fl × Fl) × Bool) × Int × (List (Int × (List (Fl × Fl)) × (List (Fl × Fl)) × Int × Int × Fl × Int × Bool × Bool × (Fl × Fl))))} (h : f_feedback_Loop_Step l0 il0 sx1_V sx1_Lost = some r) :
   Calls Tryz.prog 51 #[eptr vl0 il0 136, .agg #[.complex .f64 bsx1_V csx1_V, .bool sx1_Lost]] w (fun e w' => ∃ (b0 : Nat) (b1 : Nat), e = .returned (.tuple #[.agg #[.int .i64 r.1.1, .complex .f64 b0 b1, .bool r.1.2.2], .int .i64 r.2.1]) ∧ Fl.rep b0 r.1.2.1.1 ∧ Fl.rep b1 r.1.2.1.2 ∧ Hp S w0 w' (Res.sl EK1 tbl0 vl0 r.2.2 :: ow)) := by
  unfold f_feedback_Loop_Step at h
  refine enx (n := 146) Tryz.func51 fun a hf => ?_
  refine wp_mono (Q := fun e a w => e = .ret ∧ ∃ (b0 : Nat) (b1 : Nat) (c0 : Value), Fr 146 a [(4, optr c0 0), (5, .int .i64 r.2.1)] ∧ Fl.rep b0 r.1.2.1.1 ∧ Fl.rep b1 r.1.2.1.2 ∧ Hp S w0 w (Res.obj 59 c0 [.int .i64 r.1.1, .complex .f64 b0 b1, .bool r.1.2.2] :: Res.sl EK1 tbl0 vl0 r.2.2 :: ow)) ?_ ?_
  rotate_left
  ·
   rintro e a w ⟨rfl, x0, x1, c0, hf, y0, y1, hp⟩
   exact retG2 hf rfl ⟨_, _, rfl, hp.ob (i := 0) rfl, .inr ⟨by kernel_rfl, rfl⟩⟩ rfl ⟨x0, x1, rfl, y0, y1, hp.drop⟩
  refine goT ?_
  refine st_boxO (cs := [.complex .f64 bsx1_V csx1_V, .bool sx1_Lost]) hf (by decide) hp rfl rfl rfl ?_
  clear hf; intro a w v2 hf hp0; clear hp; have hp := hp0; clear hp0
  replace hp : Hp _ _ _ (Res.obj 37 v2 [.complex .f64 bsx1_V csx1_V, .bool sx1_Lost] :: Res.sl EK1 tbl0 vl0 l0 :: ow) := hp
  refine st_alloc (cs := [.int .i64 (0 : Int), .complex .f64 0 0, .bool false]) (zv := .agg #[.int .i64 (0 : Int), .complex .f64 0 0, .bool false]) hf (by decide) (by kernel_rfl) rfl hp rfl ?_
  clear hf; intro a w v4 hf hp0; clear hp; have hp := hp0; clear hp0
  replace hp : Hp _ _ _ (Res.obj 59 v4 [.int .i64 (0 : Int), .complex .f64 0 0, .bool false] :: _ :: _ :: ow) := hp
  refine go ?_; intro a hf
  refine st_enilE hf (by decide) Tryz.underlying115 rfl rfl rfl (Sl.isP (hp.sl (i := 2) rfl) kl0.1 kl0.2) fun a _ hf => ?_
  refine goT ?_
  refine wp_if hf rfl (fun hb => ?_) (fun hb => ?_)
  · exact absurd hb (by decide)
  refine wp_skip ?_
  refine goT ?_
  refine st_ldOA (m := 2) (us := [.complex .f64 bsx1_V csx1_V, .bool sx1_Lost]) hf (by decide) (by kernel_rfl) rfl rfl (hp.ob (i := 1) rfl) rfl rfl fun a _ hf => ?_
  refine st_build (E := (Ek.pair Ek.c128 Ek.bool)) (xs := [(sx1_V, sx1_Lost)]) hf (by decide) elt37 Tryz.underlying33 hp (vals := #[(0, .agg #[.complex .f64 bsx1_V csx1_V, .bool sx1_Lost])]) (cells := #[.complex .f64 bsx1_V csx1_V, .bool sx1_Lost]) rfl (by simp [hf.ev (x := (Operand.tmp 20)) rfl]) (Nat.le_of_ble_eq_true rfl) (Nat.le_of_ble_eq_true rfl) (z := .agg #[.complex .f64 0 0, .bool false]) (by kernel_rfl) (by kernel_rfl) rfl (reps_cons (cs := [.complex .f64 bsx1_V csx1_V, .bool sx1_Lost]) ⟨[.complex .f64 bsx1_V csx1_V], [.bool sx1_Lost], rfl, (show Ek.c128.rep [.complex .f64 bsx1_V csx1_V] sx1_V from ⟨_, _, rfl, hsx1_V, ksx1_V⟩), rfl⟩ (reps_nil _)) ?_
  clear hf; intro a w v6 hf hp0; clear hp; have hp := hp0; clear hp0
  replace hp : Hp _ _ _ (Res.sl (Ek.pair Ek.c128 Ek.bool) 37 v6 ([(sx1_V, sx1_Lost)]) :: _ :: _ :: _ :: ow) := hp
  obtain ⟨q8, hcall9, h⟩ := bnd h
  obtain ⟨S10, hp11, rd12, up13, bk14⟩ := Hp.lendS hp (i := 0) rfl
  refine st_call hf (by decide) Tryz.func25 rfl rfl rfl rfl rfl (f_grid_Check_c hp11 _ _ rd12 hcall9) ?_
  rintro _ w ⟨rfl, hp0⟩
  have hp0 := bk14 _ _ hp0
  clear hp; have hp := hp0; clear hp0
  replace hp : Hp _ _ _ (_ :: _ :: _ :: _ :: ow) := hp
  refine ⟨_, rfl, fun a hf => ?_⟩
  refine go ?_; intro a hf
  refine wp_if hf rfl (fun hb => ?_) (fun hb => ?_)
  ·
   replace h := ifT h hb
   refine goT ?_
   refine st_buildA (vals := []) (cells := [.int .i64 (0 : Int), .complex .f64 0 0, .bool false]) hf (by decide) rfl (by simp []) (fun w => by kernel_rfl) fun a _ hf => ?_
   refine go ?_; intro a hf
   refine st_stO (us := [.int .i64 (0 : Int), .complex .f64 0 0, .bool false]) hf hp (i := 1) rfl rfl rfl rfl rfl (by rfl) (by kernel_rfl) (Nat.le_of_ble_eq_true rfl) ?_
   clear hf; intro a w hf hp0; clear hp; have hp := hp0; clear hp0
   replace hp : Hp _ _ _ (_ :: _ :: _ :: _ :: ow) := hp
   refine go ?_; intro a hf
   obtain rfl := oj h
   have hp : Hp _ _ _ (_ :: _ :: ow) := (hp.pk [1, 3] 4 :)
   exact ⟨rfl, ⟨_, _, _, hf.sb, rfl, rfl, hp⟩⟩
  replace h := ifF h hb
  refine wp_skip ?_
  refine go ?_; intro a hf
  refine st_nilE hf (by decide) rfl rfl (Sl.ptr (hp.sl (i := 3) rfl) kl0.1 kl0.2) fun a _ hf => ?_
  refine st_faP (off := 134) (sz := 1) hf (by decide) (by kernel_rfl) (by decide) rfl rfl (Sl.isP (hp.sl (i := 3) rfl) kl0.1 kl0.2) fun a _ hf => ?_
  refine st_ldQ (F := Ek.bool) (yv := (gt l0 il0).2.2.2.2.2.2.2.2.1) hf (by decide) pl4 (fun x => .bool x) (fun _ _ h => h) rfl rfl (Sl.part (E := EK1) (F := Ek.bool) (o := 134) (Sub.comp (Sub.snd (E := (Ek.int .i64)) (F := EK2)) (Sub.comp (Sub.snd (E := (Ek.arr 64 Ek.c128)) (F := EK3)) (Sub.comp (Sub.snd (E := (Ek.arr 64 Ek.c128)) (F := EK4)) (Sub.comp (Sub.snd (E := (Ek.int .i64)) (F := EK5)) (Sub.comp (Sub.snd (E := (Ek.int .i64)) (F := EK6)) (Sub.comp (Sub.snd (E := Ek.f64) (F := EK7)) (Sub.comp (Sub.snd (E := (Ek.int .i64)) (F := EK8)) (Sub.comp (Sub.snd (E := Ek.bool) (F := EK9)) (Sub.fst (E := Ek.bool) (F := Ek.c128)))))))))) (hp.sl (i := 3) rfl) kl0.1 kl0.2) fun a _ hf => ?_
  refine go ?_; intro a hf
  refine wpList_cut 3 (fun a w => Fr 146 a [(0, eptr vl0 il0 136), (3, optr v2 0), (4, optr v4 0), (36, .bool (((gt l0 il0).2.2.2.2.2.2.2.2.1) || sx1_Lost))] ∧ Hp S w0 w (Res.sl (Ek.pair Ek.c128 Ek.bool) 37 v6 ([(sx1_V, sx1_Lost)]) :: Res.obj 59 v4 [.int .i64 (0 : Int), .complex .f64 0 0, .bool false] :: Res.obj 37 v2 [.complex .f64 bsx1_V csx1_V, .bool sx1_Lost] :: Res.sl EK1 tbl0 vl0 l0 :: ow)) ?_ ?_
  ·
   rcases Bool.eq_false_or_eq_true ((gt l0 il0).2.2.2.2.2.2.2.2.1) with hb16 | hb16
   ·
    refine go ?_; intro a hf
    exact ⟨hf.sub ⟨rfl, rfl, rfl, (by rw [hb16]; rfl), trivial⟩, hp⟩
   refine st_fa (o' := 1) hf (by decide) (off := 1) (sz := 1) (by kernel_rfl) (by decide) (wantY hf rfl rfl hb16) rfl (hp.ob (i := 2) rfl) rfl fun a _ hf => ?_
   refine st_ldO (u := .bool sx1_Lost) hf (by decide) pl4 (wantY hf rfl rfl hb16) rfl (hp.ob (i := 2) rfl) rfl fun a _ hf => ?_
   refine go ?_; intro a hf
   exact ⟨hf.sub ⟨rfl, rfl, rfl, (by rw [hb16]; rfl), trivial⟩, hp⟩
  rintro a w ⟨hf, hp⟩
  refine goT ?_
  refine wp_if hf rfl (fun hb => ?_) (fun hb => ?_)
  ·
   replace h := ifT h hb
   refine go ?_; intro a hf
   refine st_nilE hf (by decide) rfl rfl (Sl.ptr (hp.sl (i := 3) rfl) kl0.1 kl0.2) fun a _ hf => ?_
   refine st_faP (off := 134) (sz := 1) hf (by decide) (by kernel_rfl) (by decide) rfl rfl (Sl.isP (hp.sl (i := 3) rfl) kl0.1 kl0.2) fun a _ hf => ?_
   refine st_stQ (E := EK1) (F := Ek.bool) (o := 134) (Sub.comp (Sub.snd (E := (Ek.int .i64)) (F := EK2)) (Sub.comp (Sub.snd (E := (Ek.arr 64 Ek.c128)) (F := EK3)) (Sub.comp (Sub.snd (E := (Ek.arr 64 Ek.c128)) (F := EK4)) (Sub.comp (Sub.snd (E := (Ek.int .i64)) (F := EK5)) (Sub.comp (Sub.snd (E := (Ek.int .i64)) (F := EK6)) (Sub.comp (Sub.snd (E := Ek.f64) (F := EK7)) (Sub.comp (Sub.snd (E := (Ek.int .i64)) (F := EK8)) (Sub.comp (Sub.snd (E := Ek.bool) (F := EK9)) (Sub.fst (E := Ek.bool) (F := Ek.c128)))))))))) hf (by kernel_rfl) hp (i := 3) rfl rfl rfl rfl rfl kl0.1 kl0.2 ?_
   clear hf; intro a w hf hp0; clear hp; have hp := hp0; clear hp0
   replace hp : Hp _ _ _ (Res.sl (Ek.pair Ek.c128 Ek.bool) 37 v6 ([(sx1_V, sx1_Lost)]) :: _ :: Res.obj 37 v2 [.complex .f64 bsx1_V csx1_V, .bool sx1_Lost] :: Res.sl EK1 tbl0 vl0 (l0.set (il0).toNat ((gt l0 il0).1, (gt l0 il0).2.1, (gt l0 il0).2.2.1, (gt l0 il0).2.2.2.1, (gt l0 il0).2.2.2.2.1, (gt l0 il0).2.2.2.2.2.1, (gt l0 il0).2.2.2.2.2.2.1, (gt l0 il0).2.2.2.2.2.2.2.1, true, (gt l0 il0).2.2.2.2.2.2.2.2.2)) :: ow) := hp
   obtain ⟨q17, hq18, h⟩ := bnd h
   have hq19 := Option.some.inj hq18
   rw [hq19] at hp
   replace hp : Hp _ _ _ (_ :: _ :: _ :: Res.sl EK1 tbl0 vl0 q17 :: ow) := hp
   refine goT ?_
   refine st_buildA (vals := [(2, .bool true)]) (cells := [.int .i64 (0 : Int), .complex .f64 0 0, .bool true]) hf (by decide) rfl (by simp [hf.ev (x := (Operand.const (.bool true))) rfl]) (fun w => by kernel_rfl) fun a _ hf => ?_
   refine st_stO (us := [.int .i64 (0 : Int), .complex .f64 0 0, .bool true]) hf hp (i := 1) rfl rfl rfl rfl rfl (by rfl) (by kernel_rfl) (Nat.le_of_ble_eq_true rfl) ?_
   clear hf; intro a w hf hp0; clear hp; have hp := hp0; clear hp0
   replace hp : Hp _ _ _ (_ :: Res.obj 59 v4 [.int .i64 (0 : Int), .complex .f64 0 0, .bool true] :: _ :: _ :: ow) := hp
   refine go ?_; intro a hf
   obtain rfl := oj h
   have hp : Hp _ _ _ (_ :: _ :: ow) := (hp.pk [1, 3] 4 :)
   exact ⟨rfl, ⟨_, _, _, hf.sb, rfl, rfl, hp⟩⟩
  replace h := ifF h hb
  refine wp_skip ?_
  refine goT ?_
  obtain ⟨S20, hp21, rd22, up23, bk24⟩ := Hp.lendO hp (i := 2) rfl
  have rl25 := rd22
  refine wp_cutN (fun a w => Fr 146 a [(0, eptr vl0 il0 136), (4, optr v4 0), (8, .float .f64 bsx1_V), (9, .float .f64 csx1_V)] ∧ Hp S w0 w (Res.obj 37 v2 [.complex .f64 bsx1_V csx1_V, .bool sx1_Lost] :: Res.sl (Ek.pair Ek.c128 Ek.bool) 37 v6 ([(sx1_V, sx1_Lost)]) :: Res.obj 59 v4 [.int .i64 (0 : Int), .complex .f64 0 0, .bool false] :: Res.sl EK1 tbl0 vl0 l0 :: ow)) ?_ ?_
  ·
   have hp := hp21.same (Same.drew w)
   refine dr_begin' _ (fun w' => ∃ l, Hp S20 w w' l) [] (by kernel_rfl) ?_
   refine dr_takeK 0 _ rfl hf rfl (fun w ⟨_, hp⟩ => st_fa (o' := 0) hf (by decide) (off := 0) (sz := 1) (by kernel_rfl) (by decide) rfl rfl (rl25.ob hp) rfl tk) ⟨_, hp⟩ fun a hf => ?_
   refine dr_takeK 1 _ rfl hf rfl (fun w ⟨_, hp⟩ => st_ldO (u := .complex .f64 bsx1_V csx1_V) hf (by decide) pl35 rfl rfl (rl25.ob hp) rfl tk) ⟨_, hp⟩ fun a hf => ?_
   refine dv 2 hf ⟨_, hp⟩ fun a hf => ?_
   refine dr_takeK 3 _ rfl hf rfl (fun w ⟨_, hp⟩ => st_fa (o' := 0) hf (by decide) (off := 0) (sz := 1) (by kernel_rfl) (by decide) rfl rfl (rl25.ob hp) rfl tk) ⟨_, hp⟩ fun a hf => ?_
   refine dr_takeK 4 _ rfl hf rfl (fun w ⟨_, hp⟩ => st_ldO (u := .complex .f64 bsx1_V csx1_V) hf (by decide) pl35 rfl rfl (rl25.ob hp) rfl tk) ⟨_, hp⟩ fun a hf => ?_
   refine dv 5 hf ⟨_, hp⟩ fun a hf => ?_
   refine dv 6 hf ⟨_, hp⟩ fun a hf => ?_
   refine dv 7 hf ⟨_, hp⟩ fun a hf => ?_
   refine dr_end (by kernel_rfl) ?_ _
   have hp := bk24 _ _ hp
   exact ⟨hf.sb, hp⟩
  rintro a w ⟨hf, hp⟩
  refine go ?_; intro a hf
  obtain ⟨q62, hl, h⟩ := bnd h
  have hp : Hp _ _ _ (Res.sl EK1 tbl0 vl0 l0 :: Res.obj 59 v4 [.int .i64 (0 : Int), .complex .f64 0 0, .bool false] :: ow) := (hp.pk [3, 2] 4 :)
  refine wp_loop_pure (f := (f_feedback_Loop_Step.s1 l0 il0)) (s := (sx1_V.1, sx1_V.2, (1 : Int))) (fun s a w => ∃ (bb26 : Nat) (bb28 : Nat), Fr 146 a [(0, eptr vl0 il0 136), (4, optr v4 0), (8, .float .f64 bb26), (9, .float .f64 bb28), (10, .int .i64 s.2.2)] ∧ Fl.rep bb26 s.1 ∧ Fl.rep bb28 s.2.1 ∧ Hp S w0 w (Res.sl EK1 tbl0 vl0 l0 :: Res.obj 59 v4 [.int .i64 (0 : Int), .complex .f64 0 0, .bool false] :: ow)) (fun q e a w => e = .exit 0 ∧ ∃ (bb30 : Nat) (bb32 : Nat), Fr 146 a [(0, eptr vl0 il0 136), (4, optr v4 0), (8, .float .f64 bb30), (9, .float .f64 bb32)] ∧ Fl.rep bb30 q.1 ∧ Fl.rep bb32 q.2 ∧ Hp S w0 w (Res.sl EK1 tbl0 vl0 l0 :: Res.obj 59 v4 [.int .i64 (0 : Int), .complex .f64 0 0, .bool false] :: ow)) ?_ hl ⟨_, _, hf.sb, hsx1_V, ksx1_V, hp⟩ ?_
  ·
   clear hl hf hp
   intro s x a w h hI
   obtain ⟨re8, im9, k10⟩ := s
   obtain ⟨bb26, bb28, hf, y27, y29, hp⟩ : ∃ (bb26 : Nat) (bb28 : Nat), Fr 146 a [(0, eptr vl0 il0 136), (4, optr v4 0), (8, .float .f64 bb26), (9, .float .f64 bb28), (10, .int .i64 k10)] ∧ Fl.rep bb26 re8 ∧ Fl.rep bb28 im9 ∧ Hp S w0 w (Res.sl EK1 tbl0 vl0 l0 :: Res.obj 59 v4 [.int .i64 (0 : Int), .complex .f64 0 0, .bool false] :: ow) := hI
   replace h : f_feedback_Loop_Step.s1c l0 il0 re8 im9 k10 = some x := h
   unfold f_feedback_Loop_Step.s1c at h
   refine go ?_; intro a hf
   refine st_nilE hf (by decide) rfl rfl (Sl.ptr (hp.sl (i := 0) rfl) kl0.1 kl0.2) fun a _ hf => ?_
   refine st_faP (off := 129) (sz := 1) hf (by decide) (by kernel_rfl) (by decide) rfl rfl (Sl.isP (hp.sl (i := 0) rfl) kl0.1 kl0.2) fun a _ hf => ?_
   refine st_ldQ (F := (Ek.int .i64)) (yv := (gt l0 il0).2.2.2.1) hf (by decide) pl3 (fun x => .int .i64 x) (fun _ _ h => h) rfl rfl (Sl.part (E := EK1) (F := (Ek.int .i64)) (o := 129) (Sub.comp (Sub.snd (E := (Ek.int .i64)) (F := EK2)) (Sub.comp (Sub.snd (E := (Ek.arr 64 Ek.c128)) (F := EK3)) (Sub.comp (Sub.snd (E := (Ek.arr 64 Ek.c128)) (F := EK4)) (Sub.fst (E := (Ek.int .i64)) (F := EK5))))) (hp.sl (i := 0) rfl) kl0.1 kl0.2) fun a _ hf => ?_
   refine go ?_; intro a hf
   refine wp_if hf rfl (fun hb => ?_) (fun hb => ?_)
   ·
    replace h := ifT h hb
    refine wp_skip ?_
    refine goT ?_
    obtain ⟨S34, hp35, rd36, up37, bk38⟩ := Hp.lendS hp (i := 0) rfl
    have rl39 := rd36
    obtain ⟨hc40, h⟩ := chk h
    obtain ⟨bb42, bb43, y44, y45, hl41⟩ := RdS.pinPC (p := il0) (o := 1 + (k10).toNat * 1) (Sub.comp (Sub.comp (Sub.snd (E := (Ek.int .i64)) (F := EK2)) (Sub.fst (E := (Ek.arr 64 Ek.c128)) (F := EK3))) (Sub.arr (F := Ek.c128) (N := 64) (j := k10) hc40.1 hc40.2)) rl39 kl0.1 kl0.2
    obtain ⟨hc46, h⟩ := chk h
    obtain ⟨bb48, bb49, y50, y51, hl47⟩ := RdS.pinPC (p := il0) (o := 65 + ((((IntKind.i64.wrap ((IntKind.i64.wrap ((gt l0 il0).2.2.2.2.1 - k10)) + (64 : Int)))).tmod (64 : Int))).toNat * 1) (Sub.comp (Sub.comp (Sub.snd (E := (Ek.int .i64)) (F := EK2)) (Sub.comp (Sub.snd (E := (Ek.arr 64 Ek.c128)) (F := EK3)) (Sub.fst (E := (Ek.arr 64 Ek.c128)) (F := EK4)))) (Sub.arr (F := Ek.c128) (N := 64) (j := (((IntKind.i64.wrap ((IntKind.i64.wrap ((gt l0 il0).2.2.2.2.1 - k10)) + (64 : Int)))).tmod (64 : Int))) hc46.1 hc46.2)) rl39 kl0.1 kl0.2
    obtain ⟨q52, hcall53, h⟩ := bnd h
    refine wp_cutN (fun a w => ∃ (v54 : Nat) (v55 : Nat), Fl.rep v54 q52.1 ∧ Fl.rep v55 q52.2 ∧ Fr 146 a [(0, eptr vl0 il0 136), (4, optr v4 0), (8, .float .f64 bb26), (9, .float .f64 bb28), (10, .int .i64 k10), (11, .float .f64 v54), (12, .float .f64 v55)] ∧ Hp S w0 w (Res.sl EK1 tbl0 vl0 l0 :: Res.obj 59 v4 [.int .i64 (0 : Int), .complex .f64 0 0, .bool false] :: ow)) ?_ ?_
    ·
     have hp := hp35.same (Same.drew w)
     refine dr_begin' _ (fun w' => ∃ l, Hp S34 w w' l) [] (by kernel_rfl) ?_
     refine dv 0 hf ⟨_, hp⟩ fun a hf => ?_
     refine dv 1 hf ⟨_, hp⟩ fun a hf => ?_
     refine dr_nilE 2 rfl (by kernel_rfl) (by kernel_rfl) (by kernel_rfl) hf (by decide) rfl rfl (Sl.ptr (rl39.sl hp) kl0.1 kl0.2) ?_
     clear hf; intro a hf
     refine dr_takeK 3 _ rfl hf rfl (fun w ⟨_, hp⟩ => st_faP (off := 1) (sz := 64) hf (by decide) (by kernel_rfl) (by decide) rfl rfl (Sl.isP (rl39.sl hp) kl0.1 kl0.2) tk) ⟨_, hp⟩ fun a hf => ?_
     refine dr_takeK 4 _ rfl hf rfl (fun w ⟨_, hp⟩ => st_iaQ (sz := 1) hf (by decide) Tryz.underlying120 (by kernel_rfl) rfl rfl rfl (Sl.isP (rl39.sl hp) kl0.1 kl0.2) hc40.1 hc40.2 tk) ⟨_, hp⟩ fun a hf => ?_
     refine dr_takeK 5 _ rfl hf rfl (fun w ⟨_, hp⟩ => st_ldP hf (by decide) pl35 rfl rfl (hl41 _ _ hp) tk) ⟨_, hp⟩ fun a hf => ?_
     refine dv 6 hf ⟨_, hp⟩ fun a hf => ?_
     refine dv 7 hf ⟨_, hp⟩ fun a hf => ?_
     refine dr_nilE 8 rfl (by kernel_rfl) (by kernel_rfl) (by kernel_rfl) hf (by decide) rfl rfl (Sl.ptr (rl39.sl hp) kl0.1 kl0.2) ?_
     clear hf; intro a hf
     refine dr_takeK 9 _ rfl hf rfl (fun w ⟨_, hp⟩ => st_faP (off := 130) (sz := 1) hf (by decide) (by kernel_rfl) (by decide) rfl rfl (Sl.isP (rl39.sl hp) kl0.1 kl0.2) tk) ⟨_, hp⟩ fun a hf => ?_
     refine dr_takeK 10 _ rfl hf rfl (fun w ⟨_, hp⟩ => st_ldQ (F := (Ek.int .i64)) (yv := (gt l0 il0).2.2.2.2.1) hf (by decide) pl3 (fun x => .int .i64 x) (fun _ _ h => h) rfl rfl (Sl.part (E := EK1) (F := (Ek.int .i64)) (o := 130) (Sub.comp (Sub.snd (E := (Ek.int .i64)) (F := EK2)) (Sub.comp (Sub.snd (E := (Ek.arr 64 Ek.c128)) (F := EK3)) (Sub.comp (Sub.snd (E := (Ek.arr 64 Ek.c128)) (F := EK4)) (Sub.comp (Sub.snd (E := (Ek.int .i64)) (F := EK5)) (Sub.fst (E := (Ek.int .i64)) (F := EK6)))))) (rl39.sl hp) kl0.1 kl0.2) tk) ⟨_, hp⟩ fun a hf => ?_
     refine dv 11 hf ⟨_, hp⟩ fun a hf => ?_
     refine dv 12 hf ⟨_, hp⟩ fun a hf => ?_
     refine dv 13 hf ⟨_, hp⟩ fun a hf => ?_
     refine dr_takeK 14 _ rfl hf rfl (fun w ⟨_, hp⟩ => st_irem hf (by decide) rfl rfl rfl (by decide) tk) ⟨_, hp⟩ fun a hf => ?_
     refine dr_nilE 15 rfl (by kernel_rfl) (by kernel_rfl) (by kernel_rfl) hf (by decide) rfl rfl (Sl.ptr (rl39.sl hp) kl0.1 kl0.2) ?_
     clear hf; intro a hf
     refine dr_takeK 16 _ rfl hf rfl (fun w ⟨_, hp⟩ => st_faP (off := 65) (sz := 64) hf (by decide) (by kernel_rfl) (by decide) rfl rfl (Sl.isP (rl39.sl hp) kl0.1 kl0.2) tk) ⟨_, hp⟩ fun a hf => ?_
     refine dr_takeK 17 _ rfl hf rfl (fun w ⟨_, hp⟩ => st_iaQ (sz := 1) hf (by decide) Tryz.underlying120 (by kernel_rfl) rfl rfl rfl (Sl.isP (rl39.sl hp) kl0.1 kl0.2) hc46.1 hc46.2 tk) ⟨_, hp⟩ fun a hf => ?_
     refine dr_takeK 18 _ rfl hf rfl (fun w ⟨_, hp⟩ => st_ldP hf (by decide) pl35 rfl rfl (hl47 _ _ hp) tk) ⟨_, hp⟩ fun a hf => ?_
     refine dr_one 19 rfl (by kernel_rfl) ?_
     refine st_call hf (by decide) Tryz.func65 rfl rfl rfl rfl rfl (f_feedback_times_c hp _ _ _ (show Fl.rep bb42 ((gt ((gt l0 il0).2.1) k10)).1 from y44) (show Fl.rep bb43 ((gt ((gt l0 il0).2.1) k10)).2 from y45) _ _ _ (show Fl.rep bb48 ((gt ((gt l0 il0).2.2.1) (((IntKind.i64.wrap ((IntKind.i64.wrap ((gt l0 il0).2.2.2.2.1 - k10)) + (64 : Int)))).tmod (64 : Int)))).1 from y50) (show Fl.rep bb49 ((gt ((gt l0 il0).2.2.1) (((IntKind.i64.wrap ((IntKind.i64.wrap ((gt l0 il0).2.2.2.2.1 - k10)) + (64 : Int)))).tmod (64 : Int)))).2 from y51) hcall53) ?_
     rintro _ w ⟨v54, v55, rfl, y56, y57, hp⟩
     replace hp : Hp _ _ _ (_ :: ow) := hp
     refine ⟨_, rfl, fun a hf => ?_⟩
     refine nx hf (fun _ _ => ⟨_, hp⟩) ?_
     refine dv 20 hf ⟨_, hp⟩ fun a hf => ?_
     refine dv 21 hf ⟨_, hp⟩ fun a hf => ?_
     refine dv 22 hf ⟨_, hp⟩ fun a hf => ?_
     refine dv 23 hf ⟨_, hp⟩ fun a hf => ?_
     refine dv 24 hf ⟨_, hp⟩ fun a hf => ?_
     refine dr_end (by kernel_rfl) ?_ _
     have hp := bk38 _ _ hp
     exact ⟨v54, v55, y56, y57, hf.sb, hp⟩
    rintro a w ⟨v54, v55, y56, y57, hf, hp⟩
    refine go ?_; intro a hf
    refine st_farith (op := .sub) rfl hf (by decide) hp rfl rfl rfl (show Fl.rep bb26 re8 from y27) (show Fl.rep v54 q52.1 from y56) ?_
    clear hf; intro a w bb58 y59 hf hp0; clear hp; have hp := hp0; clear hp0
    replace hp : Hp _ _ _ (Res.sl EK1 tbl0 vl0 l0 :: _ :: ow) := hp
    refine go ?_; intro a hf
    refine st_farith (op := .sub) rfl hf (by decide) hp rfl rfl rfl (show Fl.rep bb28 im9 from y29) (show Fl.rep v55 q52.2 from y57) ?_
    clear hf; intro a w bb60 y61 hf hp0; clear hp; have hp := hp0; clear hp0
    replace hp : Hp _ _ _ (_ :: _ :: ow) := hp
    refine go ?_; intro a hf
    obtain rfl := oj h
    exact rnd_l ⟨_, _, hf.sb, y59, y61, hp⟩
   replace h := ifF h hb
   refine wp_exit ?_
   refine th_e ?_
   obtain rfl := oj h
   exact rnd_r (by simp) ⟨rfl, _, _, hf.sb, y27, y29, hp⟩
  clear hl hf hp
  intro e a w hne hO
  obtain ⟨rfl, bb30, bb32, hf, y31, y33, hp⟩ := hO
  refine ib_same ?_
  refine go ?_; intro a hf
  refine st_nilE hf (by decide) rfl rfl (Sl.ptr (hp.sl (i := 0) rfl) kl0.1 kl0.2) fun a _ hf => ?_
  refine st_faP (off := 132) (sz := 1) hf (by decide) (by kernel_rfl) (by decide) rfl rfl (Sl.isP (hp.sl (i := 0) rfl) kl0.1 kl0.2) fun a _ hf => ?_
  refine st_ldQ (F := (Ek.int .i64)) (yv := (gt l0 il0).2.2.2.2.2.2.1) hf (by decide) pl3 (fun x => .int .i64 x) (fun _ _ h => h) rfl rfl (Sl.part (E := EK1) (F := (Ek.int .i64)) (o := 132) (Sub.comp (Sub.snd (E := (Ek.int .i64)) (F := EK2)) (Sub.comp (Sub.snd (E := (Ek.arr 64 Ek.c128)) (F := EK3)) (Sub.comp (Sub.snd (E := (Ek.arr 64 Ek.c128)) (F := EK4)) (Sub.comp (Sub.snd (E := (Ek.int .i64)) (F := EK5)) (Sub.comp (Sub.snd (E := (Ek.int .i64)) (F := EK6)) (Sub.comp (Sub.snd (E := Ek.f64) (F := EK7)) (Sub.fst (E := (Ek.int .i64)) (F := EK8)))))))) (hp.sl (i := 0) rfl) kl0.1 kl0.2) fun a _ hf => ?_
  obtain ⟨q63, hcall64, h⟩ := bnd h
  refine st_call hf (by decide) Tryz.func66 rfl rfl rfl rfl rfl (f_feedback_turned_c hp _ _ _ (show Fl.rep bb30 ((q62.1, q62.2)).1 from y31) (show Fl.rep bb32 ((q62.1, q62.2)).2 from y33) _ hcall64) ?_
  rintro _ w ⟨v65, v66, rfl, y67, y68, hp⟩
  replace hp : Hp _ _ _ (_ :: _ :: ow) := hp
  refine ⟨_, rfl, fun a hf => ?_⟩
  refine go ?_; intro a hf
  obtain ⟨S69, hp70, rd71, up72, bk73⟩ := Hp.lendS hp (i := 0) rfl
  have rl74 := rd71
  obtain ⟨bb76, y78, hl75⟩ := RdS.pinPF (p := il0) (o := 131) (Sub.comp (Sub.snd (E := (Ek.int .i64)) (F := EK2)) (Sub.comp (Sub.snd (E := (Ek.arr 64 Ek.c128)) (F := EK3)) (Sub.comp (Sub.snd (E := (Ek.arr 64 Ek.c128)) (F := EK4)) (Sub.comp (Sub.snd (E := (Ek.int .i64)) (F := EK5)) (Sub.comp (Sub.snd (E := (Ek.int .i64)) (F := EK6)) (Sub.fst (E := Ek.f64) (F := EK7))))))) rl74 kl0.1 kl0.2
  obtain ⟨q80, hq81, h⟩ := bnd h
  obtain ⟨bb83, y85, hl82⟩ := RdS.pinPF (p := il0) (o := 131) (Sub.comp (Sub.snd (E := (Ek.int .i64)) (F := EK2)) (Sub.comp (Sub.snd (E := (Ek.arr 64 Ek.c128)) (F := EK3)) (Sub.comp (Sub.snd (E := (Ek.arr 64 Ek.c128)) (F := EK4)) (Sub.comp (Sub.snd (E := (Ek.int .i64)) (F := EK5)) (Sub.comp (Sub.snd (E := (Ek.int .i64)) (F := EK6)) (Sub.fst (E := Ek.f64) (F := EK7))))))) rl74 kl0.1 kl0.2
  obtain ⟨q87, hq88, h⟩ := bnd h
  obtain ⟨q89, hq90, h⟩ := bnd h
  have hq91 := Option.some.inj hq90
  refine wp_cutN (fun a w => Fr 146 a [(0, eptr vl0 il0 136), (4, optr v4 0)] ∧ Hp S w0 w (Res.sl EK1 tbl0 vl0 q89 :: Res.obj 59 v4 [.int .i64 (0 : Int), .complex .f64 0 0, .bool false] :: ow)) ?_ ?_
  ·
   have hp := hp70.same (Same.drew w)
   refine dr_begin' _ (fun w' => ∃ l, Hp S69 w w' l) [18] (by kernel_rfl) ?_
   refine dr_takeP 0 (eptr vl0 il0 136) rfl (by kernel_rfl) (by kernel_rfl) (by kernel_rfl) rfl rfl hf (by decide) rfl (fun w => ?_) ?_
   ·
    refine st_move hf rfl rfl (by decide) ?_
    clear hf; intro a ha hf
    exact st_nil hf (th_n ⟨ha, rfl⟩)
   clear hf; intro a hf
   refine dr_takeP 1 (.complex .f64 v65 v66) rfl (by kernel_rfl) (by kernel_rfl) (by kernel_rfl) rfl rfl hf (by decide) rfl (fun w => ?_) ?_
   ·
    refine st_move hf rfl rfl (by decide) ?_
    clear hf; intro a ha hf
    exact st_nil hf (th_n ⟨ha, rfl⟩)
   clear hf; intro a hf
   refine dr_takeP 2 (.float .f64 v65) rfl (by kernel_rfl) (by kernel_rfl) (by kernel_rfl) rfl rfl hf (by decide) rfl (fun w => ?_) ?_
   ·
    refine st_real hf (by decide) rfl rfl ?_
    clear hf; intro a ha hf
    exact st_nil hf (th_n ⟨ha, rfl⟩)
   clear hf; intro a hf
   refine dr_takeP 3 (eptr vl0 il0 136) rfl (by kernel_rfl) (by kernel_rfl) (by kernel_rfl) rfl rfl hf (by decide) rfl (fun w => ?_) ?_
   ·
    refine st_move hf rfl rfl (by decide) ?_
    clear hf; intro a ha hf
    exact st_nil hf (th_n ⟨ha, rfl⟩)
   clear hf; intro a hf
   refine dr_nilE 4 rfl (by kernel_rfl) (by kernel_rfl) (by kernel_rfl) hf (by decide) rfl rfl (Sl.ptr rl74.any kl0.1 kl0.2) ?_
   clear hf; intro a hf
   refine dr_takeP 5 (optr (eptr vl0 il0 136) 131) rfl (by kernel_rfl) (by kernel_rfl) (by kernel_rfl) rfl rfl hf (by decide) rfl (fun w => ?_) ?_
   ·
    refine st_faP (off := 131) (sz := 1) hf (by decide) (by kernel_rfl) (by decide) rfl rfl (Sl.isP rl74.any kl0.1 kl0.2) ?_
    clear hf; intro a ha hf
    exact st_nil hf (th_n ⟨ha, rfl⟩)
   clear hf; intro a hf
   refine dr_take2 6 (.float .f64 bb76) rfl (by kernel_rfl) (by kernel_rfl) (by kernel_rfl) (by kernel_rfl) (by kernel_rfl) rfl rfl hf (by decide) rfl (fun w hp => ?_) ⟨_, hp⟩ ?_
   ·
    obtain ⟨_, hp⟩ := hp
    refine st_ldP hf (by decide) pl39 rfl rfl (hl75 _ _ hp) ?_
    clear hf; intro a ha hf
    exact st_nil hf (th_n ⟨ha, rfl⟩)
   clear hf; intro a hf
   refine dr_takeP 7 (.float .f64 (flb q80)) rfl (by kernel_rfl) (by kernel_rfl) (by kernel_rfl) rfl rfl hf (by decide) rfl (fun w => ?_) ?_
   ·
    refine st_fs (op := .quo) rfl hf (by decide) rfl rfl rfl (show Fl.rep v65 q63.1 from y67) (show Fl.rep bb76 ((gt l0 il0).2.2.2.2.2.1) from y78) hq81 ?_
    clear hf; intro a ha hf
    exact st_nil hf (th_n ⟨ha, rfl⟩)
   clear hf; intro a hf
   refine dr_takeP 8 (.complex .f64 v65 v66) rfl (by kernel_rfl) (by kernel_rfl) (by kernel_rfl) rfl rfl hf (by decide) rfl (fun w => ?_) ?_
   ·
    refine st_move hf rfl rfl (by decide) ?_
    clear hf; intro a ha hf
    exact st_nil hf (th_n ⟨ha, rfl⟩)
   clear hf; intro a hf
   refine dr_takeP 9 (.float .f64 v66) rfl (by kernel_rfl) (by kernel_rfl) (by kernel_rfl) rfl rfl hf (by decide) rfl (fun w => ?_) ?_
   ·
    refine st_imag hf (by decide) rfl rfl ?_
    clear hf; intro a ha hf
    exact st_nil hf (th_n ⟨ha, rfl⟩)
   clear hf; intro a hf
   refine dr_takeP 10 (eptr vl0 il0 136) rfl (by kernel_rfl) (by kernel_rfl) (by kernel_rfl) rfl rfl hf (by decide) rfl (fun w => ?_) ?_
   ·
    refine st_move hf rfl rfl (by decide) ?_
    clear hf; intro a ha hf
    exact st_nil hf (th_n ⟨ha, rfl⟩)
   clear hf; intro a hf
   refine dr_nilE 11 rfl (by kernel_rfl) (by kernel_rfl) (by kernel_rfl) hf (by decide) rfl rfl (Sl.ptr rl74.any kl0.1 kl0.2) ?_
   clear hf; intro a hf
   refine dr_takeP 12 (optr (eptr vl0 il0 136) 131) rfl (by kernel_rfl) (by kernel_rfl) (by kernel_rfl) rfl rfl hf (by decide) rfl (fun w => ?_) ?_
   ·
    refine st_faP (off := 131) (sz := 1) hf (by decide) (by kernel_rfl) (by decide) rfl rfl (Sl.isP rl74.any kl0.1 kl0.2) ?_
    clear hf; intro a ha hf
    exact st_nil hf (th_n ⟨ha, rfl⟩)
   clear hf; intro a hf
   refine dr_take2 13 (.float .f64 bb83) rfl (by kernel_rfl) (by kernel_rfl) (by kernel_rfl) (by kernel_rfl) (by kernel_rfl) rfl rfl hf (by decide) rfl (fun w hp => ?_) ⟨_, hp⟩ ?_
   ·
    obtain ⟨_, hp⟩ := hp
    refine st_ldP hf (by decide) pl39 rfl rfl (hl82 _ _ hp) ?_
    clear hf; intro a ha hf
    exact st_nil hf (th_n ⟨ha, rfl⟩)
   clear hf; intro a hf
   refine dr_takeP 14 (.float .f64 (flb q87)) rfl (by kernel_rfl) (by kernel_rfl) (by kernel_rfl) rfl rfl hf (by decide) rfl (fun w => ?_) ?_
   ·
    refine st_fs (op := .quo) rfl hf (by decide) rfl rfl rfl (show Fl.rep v66 q63.2 from y68) (show Fl.rep bb83 ((gt l0 il0).2.2.2.2.2.1) from y85) hq88 ?_
    clear hf; intro a ha hf
    exact st_nil hf (th_n ⟨ha, rfl⟩)
   clear hf; intro a hf
   refine dr_takeP 15 (.complex .f64 (flb q80) (flb q87)) rfl (by kernel_rfl) (by kernel_rfl) (by kernel_rfl) rfl rfl hf (by decide) rfl (fun w => ?_) ?_
   ·
    refine st_complex hf (by decide) rfl rfl rfl ?_
    clear hf; intro a ha hf
    exact st_nil hf (th_n ⟨ha, rfl⟩)
   clear hf; intro a hf
   refine dr_nilE 16 rfl (by kernel_rfl) (by kernel_rfl) (by kernel_rfl) hf (by decide) rfl rfl (Sl.ptr rl74.any kl0.1 kl0.2) ?_
   clear hf; intro a hf
   refine dr_takeP 17 (optr (eptr vl0 il0 136) 135) rfl (by kernel_rfl) (by kernel_rfl) (by kernel_rfl) rfl rfl hf (by decide) rfl (fun w => ?_) ?_
   ·
    refine st_faP (off := 135) (sz := 1) hf (by decide) (by kernel_rfl) (by decide) rfl rfl (Sl.isP rl74.any kl0.1 kl0.2) ?_
    clear hf; intro a ha hf
    exact st_nil hf (th_n ⟨ha, rfl⟩)
   clear hf; intro a hf
   have hp := bk73 _ _ hp
   refine dr_one 18 rfl (by kernel_rfl) ?_
   refine st_stQ (E := EK1) (F := Ek.c128) (o := 135) (Sub.comp (Sub.snd (E := (Ek.int .i64)) (F := EK2)) (Sub.comp (Sub.snd (E := (Ek.arr 64 Ek.c128)) (F := EK3)) (Sub.comp (Sub.snd (E := (Ek.arr 64 Ek.c128)) (F := EK4)) (Sub.comp (Sub.snd (E := (Ek.int .i64)) (F := EK5)) (Sub.comp (Sub.snd (E := (Ek.int .i64)) (F := EK6)) (Sub.comp (Sub.snd (E := Ek.f64) (F := EK7)) (Sub.comp (Sub.snd (E := (Ek.int .i64)) (F := EK8)) (Sub.comp (Sub.snd (E := Ek.bool) (F := EK9)) (Sub.snd (E := Ek.bool) (F := Ek.c128)))))))))) hf (by kernel_rfl) hp (i := 0) rfl rfl rfl rfl (show Ek.c128.rep [.complex .f64 (flb q80) (flb q87)] (q80, q87) from ⟨_, _, rfl, (farithS_rep hq81), (farithS_rep hq88)⟩) kl0.1 kl0.2 ?_
   clear hf; intro a w hf hp0; clear hp; have hp := hp0; clear hp0
   replace hp : Hp _ _ _ (Res.sl EK1 tbl0 vl0 (l0.set (il0).toNat ((gt l0 il0).1, (gt l0 il0).2.1, (gt l0 il0).2.2.1, (gt l0 il0).2.2.2.1, (gt l0 il0).2.2.2.2.1, (gt l0 il0).2.2.2.2.2.1, (gt l0 il0).2.2.2.2.2.2.1, (gt l0 il0).2.2.2.2.2.2.2.1, (gt l0 il0).2.2.2.2.2.2.2.2.1, (q80, q87))) :: _ :: ow) := hp
   rw [hq91] at hp
   replace hp : Hp _ _ _ (Res.sl EK1 tbl0 vl0 q89 :: _ :: ow) := hp
   refine st_nil hf (th_n ⟨fun hn => absurd hn (by decide), ?_⟩)
   refine dr_end (by kernel_rfl) ?_ _
   exact ⟨hf.sb, hp⟩
  rintro a w ⟨hf, hp⟩
  refine go ?_; intro a hf
  refine st_nilE hf (by decide) rfl rfl (Sl.ptr (hp.sl (i := 0) rfl) (hsetN hq91 kl0).1 (hsetN hq91 kl0).2) fun a _ hf => ?_
  refine st_faP (off := 133) (sz := 1) hf (by decide) (by kernel_rfl) (by decide) rfl rfl (Sl.isP (hp.sl (i := 0) rfl) (hsetN hq91 kl0).1 (hsetN hq91 kl0).2) fun a _ hf => ?_
  refine st_stQ (E := EK1) (F := Ek.bool) (o := 133) (Sub.comp (Sub.snd (E := (Ek.int .i64)) (F := EK2)) (Sub.comp (Sub.snd (E := (Ek.arr 64 Ek.c128)) (F := EK3)) (Sub.comp (Sub.snd (E := (Ek.arr 64 Ek.c128)) (F := EK4)) (Sub.comp (Sub.snd (E := (Ek.int .i64)) (F := EK5)) (Sub.comp (Sub.snd (E := (Ek.int .i64)) (F := EK6)) (Sub.comp (Sub.snd (E := Ek.f64) (F := EK7)) (Sub.comp (Sub.snd (E := (Ek.int .i64)) (F := EK8)) (Sub.fst (E := Ek.bool) (F := EK9))))))))) hf (by kernel_rfl) hp (i := 0) rfl rfl rfl rfl rfl (hsetN hq91 kl0).1 (hsetN hq91 kl0).2 ?_
  clear hf; intro a w hf hp0; clear hp; have hp := hp0; clear hp0
  replace hp : Hp _ _ _ (Res.sl EK1 tbl0 vl0 (q89.set (il0).toNat ((gt q89 il0).1, (gt q89 il0).2.1, (gt q89 il0).2.2.1, (gt q89 il0).2.2.2.1, (gt q89 il0).2.2.2.2.1, (gt q89 il0).2.2.2.2.2.1, (gt q89 il0).2.2.2.2.2.2.1, true, (gt q89 il0).2.2.2.2.2.2.2.2.1, (gt q89 il0).2.2.2.2.2.2.2.2.2)) :: _ :: ow) := hp
  obtain ⟨q92, hq93, h⟩ := bnd h
  have hq94 := Option.some.inj hq93
  rw [hq94] at hp
  replace hp : Hp _ _ _ (Res.sl EK1 tbl0 vl0 q92 :: _ :: ow) := hp
  refine goT ?_
  obtain ⟨S95, hp96, rd97, up98, bk99⟩ := Hp.lendS hp (i := 0) rfl
  have rl100 := rd97
  obtain ⟨bb102, bb103, y104, y105, hl101⟩ := RdS.pinPC (p := il0) (o := 135) (Sub.comp (Sub.snd (E := (Ek.int .i64)) (F := EK2)) (Sub.comp (Sub.snd (E := (Ek.arr 64 Ek.c128)) (F := EK3)) (Sub.comp (Sub.snd (E := (Ek.arr 64 Ek.c128)) (F := EK4)) (Sub.comp (Sub.snd (E := (Ek.int .i64)) (F := EK5)) (Sub.comp (Sub.snd (E := (Ek.int .i64)) (F := EK6)) (Sub.comp (Sub.snd (E := Ek.f64) (F := EK7)) (Sub.comp (Sub.snd (E := (Ek.int .i64)) (F := EK8)) (Sub.comp (Sub.snd (E := Ek.bool) (F := EK9)) (Sub.snd (E := Ek.bool) (F := Ek.c128)))))))))) rl100 (hsetN hq94 (hsetN hq91 kl0)).1 (hsetN hq94 (hsetN hq91 kl0)).2
  obtain ⟨hc106, h⟩ := chk h
  obtain ⟨q107, hcall108, h⟩ := bnd h
  refine wp_cutN (fun a w => ∃ (v109 : Nat) (v110 : Nat) (v113 : Value), Fl.rep v109 q107.1.2.1.1 ∧ Fl.rep v110 q107.1.2.1.2 ∧ Fr 146 a [(0, eptr vl0 il0 136), (4, optr v4 0), (14, optr v113 0), (15, .int .i64 q107.2)] ∧ Hp S w0 w (Res.sl EK1 tbl0 vl0 q92 :: Res.obj 59 v113 [.int .i64 q107.1.1, .complex .f64 v109 v110, .bool q107.1.2.2] :: Res.obj 59 v4 [.int .i64 (0 : Int), .complex .f64 0 0, .bool false] :: ow)) ?_ ?_
  ·
   have hp := hp96.same (Same.drew w)
   refine dr_begin' _ (fun w' => ∃ l, Hp S95 w w' l) [] (by kernel_rfl) ?_
   refine dv 0 hf ⟨_, hp⟩ fun a hf => ?_
   refine dr_nilE 1 rfl (by kernel_rfl) (by kernel_rfl) (by kernel_rfl) hf (by decide) rfl rfl (Sl.ptr (rl100.sl hp) (hsetN hq94 (hsetN hq91 kl0)).1 (hsetN hq94 (hsetN hq91 kl0)).2) ?_
   clear hf; intro a hf
   refine dr_takeK 2 _ rfl hf rfl (fun w ⟨_, hp⟩ => st_faP (off := 0) (sz := 1) hf (by decide) (by kernel_rfl) (by decide) rfl rfl (Sl.isP (rl100.sl hp) (hsetN hq94 (hsetN hq91 kl0)).1 (hsetN hq94 (hsetN hq91 kl0)).2) tk) ⟨_, hp⟩ fun a hf => ?_
   refine dr_takeK 3 _ rfl hf rfl (fun w ⟨_, hp⟩ => st_ldQ (F := (Ek.int .i64)) (yv := (gt q92 il0).1) hf (by decide) pl3 (fun x => .int .i64 x) (fun _ _ h => h) rfl rfl (Sl.part (E := EK1) (F := (Ek.int .i64)) (o := 0) (Sub.fst (E := (Ek.int .i64)) (F := EK2)) (rl100.sl hp) (hsetN hq94 (hsetN hq91 kl0)).1 (hsetN hq94 (hsetN hq91 kl0)).2) tk) ⟨_, hp⟩ fun a hf => ?_
   refine dv 4 hf ⟨_, hp⟩ fun a hf => ?_
   refine dr_nilE 5 rfl (by kernel_rfl) (by kernel_rfl) (by kernel_rfl) hf (by decide) rfl rfl (Sl.ptr (rl100.sl hp) (hsetN hq94 (hsetN hq91 kl0)).1 (hsetN hq94 (hsetN hq91 kl0)).2) ?_
   clear hf; intro a hf
   refine dr_takeK 6 _ rfl hf rfl (fun w ⟨_, hp⟩ => st_faP (off := 135) (sz := 1) hf (by decide) (by kernel_rfl) (by decide) rfl rfl (Sl.isP (rl100.sl hp) (hsetN hq94 (hsetN hq91 kl0)).1 (hsetN hq94 (hsetN hq91 kl0)).2) tk) ⟨_, hp⟩ fun a hf => ?_
   refine dr_takeK 7 _ rfl hf rfl (fun w ⟨_, hp⟩ => st_ldP hf (by decide) pl35 rfl rfl (hl101 _ _ hp) tk) ⟨_, hp⟩ fun a hf => ?_
   refine dr_two 8 12 rfl rfl (by kernel_rfl) ?_ ?_
   ·
    refine st_call hf (by decide) Tryz.func67 rfl rfl rfl rfl rfl (callsEq (args := #[.int .i64 (4 : Int), .complex .f64 bb102 bb103]) (by rw [hc106]; rfl) (f_slice_Decide_c hp _ _ _ (show Fl.rep bb102 ((gt q92 il0).2.2.2.2.2.2.2.2.2).1 from y104) (show Fl.rep bb103 ((gt q92 il0).2.2.2.2.2.2.2.2.2).2 from y105) hcall108)) ?_
    rintro _ w ⟨v109, v110, rfl, y111, y112, hp⟩
    replace hp : Hp _ _ _ (_ :: ow) := hp
    refine ⟨_, rfl, fun a hf => ?_⟩
    refine nx hf (fun _ _ => ⟨_, hp⟩) ?_
    refine dv 9 hf ⟨_, hp⟩ fun a hf => ?_
    refine dv 10 hf ⟨_, hp⟩ fun a hf => ?_
    refine dv 11 hf ⟨_, hp⟩ fun a hf => ?_
    refine dr_one 12 rfl (by kernel_rfl) ?_
    refine st_alloc (cs := [.int .i64 (0 : Int), .complex .f64 0 0, .bool false]) (zv := .agg #[.int .i64 (0 : Int), .complex .f64 0 0, .bool false]) hf (by decide) (by kernel_rfl) rfl hp rfl ?_
    clear hf; intro a w v113 hf hp0; clear hp; have hp := hp0; clear hp0
    replace hp : Hp _ _ _ (Res.obj 59 v113 [.int .i64 (0 : Int), .complex .f64 0 0, .bool false] :: _ :: ow) := hp
    refine nx hf (fun _ _ => ⟨_, hp⟩) ?_
    refine dr_one 13 rfl (by kernel_rfl) ?_
    refine st_stO (us := [.int .i64 q107.1.1, .complex .f64 v109 v110, .bool q107.1.2.2]) hf hp (i := 0) rfl rfl rfl rfl rfl (by rfl) (by kernel_rfl) (Nat.le_of_ble_eq_true rfl) ?_
    clear hf; intro a w hf hp0; clear hp; have hp := hp0; clear hp0
    replace hp : Hp _ _ _ (Res.obj 59 v113 [.int .i64 q107.1.1, .complex .f64 v109 v110, .bool q107.1.2.2] :: _ :: ow) := hp
    refine nx hf (fun _ _ => ⟨_, hp⟩) ?_
    refine dv 14 hf ⟨_, hp⟩ fun a hf => ?_
    refine dr_end (by kernel_rfl) ?_ _
    have hp := bk99 _ _ hp
    exact ⟨v109, v110, v113, y111, y112, hf.sb, hp⟩
   ·
    refine st_alloc (cs := [.int .i64 (0 : Int), .complex .f64 0 0, .bool false]) (zv := .agg #[.int .i64 (0 : Int), .complex .f64 0 0, .bool false]) hf (by decide) (by kernel_rfl) rfl hp rfl ?_
    clear hf; intro a w v113 hf hp0; clear hp; have hp := hp0; clear hp0
    replace hp : Hp _ _ _ (Res.obj 59 v113 [.int .i64 (0 : Int), .complex .f64 0 0, .bool false] :: _ :: ow) := hp
    refine nx hf (fun _ _ => ⟨_, hp⟩) ?_
    refine dr_one 8 rfl (by kernel_rfl) ?_
    refine st_call hf (by decide) Tryz.func67 rfl rfl rfl rfl rfl (callsEq (args := #[.int .i64 (4 : Int), .complex .f64 bb102 bb103]) (by rw [hc106]; rfl) (f_slice_Decide_c hp _ _ _ (show Fl.rep bb102 ((gt q92 il0).2.2.2.2.2.2.2.2.2).1 from y104) (show Fl.rep bb103 ((gt q92 il0).2.2.2.2.2.2.2.2.2).2 from y105) hcall108)) ?_
    rintro _ w ⟨v109, v110, rfl, y111, y112, hp⟩
    replace hp : Hp _ _ _ (_ :: _ :: ow) := hp
    refine ⟨_, rfl, fun a hf => ?_⟩
    refine nx hf (fun _ _ => ⟨_, hp⟩) ?_
    refine dv 9 hf ⟨_, hp⟩ fun a hf => ?_
    refine dv 10 hf ⟨_, hp⟩ fun a hf => ?_
    refine dv 11 hf ⟨_, hp⟩ fun a hf => ?_
    refine dr_one 13 rfl (by kernel_rfl) ?_
    refine st_stO (us := [.int .i64 q107.1.1, .complex .f64 v109 v110, .bool q107.1.2.2]) hf hp (i := 0) rfl rfl rfl rfl rfl (by rfl) (by kernel_rfl) (Nat.le_of_ble_eq_true rfl) ?_
    clear hf; intro a w hf hp0; clear hp; have hp := hp0; clear hp0
    replace hp : Hp _ _ _ (Res.obj 59 v113 [.int .i64 q107.1.1, .complex .f64 v109 v110, .bool q107.1.2.2] :: _ :: ow) := hp
    refine nx hf (fun _ _ => ⟨_, hp⟩) ?_
    refine dv 14 hf ⟨_, hp⟩ fun a hf => ?_
    refine dr_end (by kernel_rfl) ?_ _
    have hp := bk99 _ _ hp
    exact ⟨v109, v110, v113, y111, y112, hf.sb, hp⟩
  rintro a w ⟨v109, v110, v113, y111, y112, hf, hp⟩
  refine goT ?_
  obtain ⟨S115, hp116, rd117, up118, bk119⟩ := Hp.lendS hp (i := 0) rfl
  obtain ⟨S120, hp121, rd122, up123, bk124⟩ := Hp.lendO hp116 (i := 0) rfl
  have rl125 := ((rd117.now hp116).mono up123)
  have rl126 := rd122
  obtain ⟨hc127, h⟩ := chk h
  obtain ⟨q128, hq129, h⟩ := bnd h
  have hq130 := Option.some.inj hq129
  refine wp_cutN (fun a w => Fr 146 a [(0, eptr vl0 il0 136), (4, optr v4 0), (14, optr v113 0), (15, .int .i64 q107.2)] ∧ Hp S w0 w (Res.sl EK1 tbl0 vl0 q128 :: Res.obj 59 v113 [.int .i64 q107.1.1, .complex .f64 v109 v110, .bool q107.1.2.2] :: Res.obj 59 v4 [.int .i64 (0 : Int), .complex .f64 0 0, .bool false] :: ow)) ?_ ?_
  ·
   have hp := hp121.same (Same.drew w)
   refine dr_begin' _ (fun w' => ∃ l, Hp S120 w w' l) [10] (by kernel_rfl) ?_
   refine dr_takeP 0 (eptr vl0 il0 136) rfl (by kernel_rfl) (by kernel_rfl) (by kernel_rfl) rfl rfl hf (by decide) rfl (fun w => ?_) ?_
   ·
    refine st_move hf rfl rfl (by decide) ?_
    clear hf; intro a ha hf
    exact st_nil hf (th_n ⟨ha, rfl⟩)
   clear hf; intro a hf
   refine dr_takeP 1 (eptr vl0 il0 136) rfl (by kernel_rfl) (by kernel_rfl) (by kernel_rfl) rfl rfl hf (by decide) rfl (fun w => ?_) ?_
   ·
    refine st_move hf rfl rfl (by decide) ?_
    clear hf; intro a ha hf
    exact st_nil hf (th_n ⟨ha, rfl⟩)
   clear hf; intro a hf
   refine dr_nilE 2 rfl (by kernel_rfl) (by kernel_rfl) (by kernel_rfl) hf (by decide) rfl rfl (Sl.ptr rl125.any (hsetN hq94 (hsetN hq91 kl0)).1 (hsetN hq94 (hsetN hq91 kl0)).2) ?_
   clear hf; intro a hf
   refine dr_takeP 3 (optr (eptr vl0 il0 136) 130) rfl (by kernel_rfl) (by kernel_rfl) (by kernel_rfl) rfl rfl hf (by decide) rfl (fun w => ?_) ?_
   ·
    refine st_faP (off := 130) (sz := 1) hf (by decide) (by kernel_rfl) (by decide) rfl rfl (Sl.isP rl125.any (hsetN hq94 (hsetN hq91 kl0)).1 (hsetN hq94 (hsetN hq91 kl0)).2) ?_
    clear hf; intro a ha hf
    exact st_nil hf (th_n ⟨ha, rfl⟩)
   clear hf; intro a hf
   refine dr_take2 4 (.int .i64 ((gt q92 il0).2.2.2.2.1)) rfl (by kernel_rfl) (by kernel_rfl) (by kernel_rfl) (by kernel_rfl) (by kernel_rfl) rfl rfl hf (by decide) rfl (fun w hp => ?_) ⟨_, hp⟩ ?_
   ·
    obtain ⟨_, hp⟩ := hp
    refine st_ldQ (F := (Ek.int .i64)) (yv := (gt q92 il0).2.2.2.2.1) hf (by decide) pl3 (fun x => .int .i64 x) (fun _ _ h => h) rfl rfl (Sl.part (E := EK1) (F := (Ek.int .i64)) (o := 130) (Sub.comp (Sub.snd (E := (Ek.int .i64)) (F := EK2)) (Sub.comp (Sub.snd (E := (Ek.arr 64 Ek.c128)) (F := EK3)) (Sub.comp (Sub.snd (E := (Ek.arr 64 Ek.c128)) (F := EK4)) (Sub.comp (Sub.snd (E := (Ek.int .i64)) (F := EK5)) (Sub.fst (E := (Ek.int .i64)) (F := EK6)))))) (rl125.sl hp) (hsetN hq94 (hsetN hq91 kl0)).1 (hsetN hq94 (hsetN hq91 kl0)).2) ?_
    clear hf; intro a ha hf
    exact st_nil hf (th_n ⟨ha, rfl⟩)
   clear hf; intro a hf
   refine dr_takeP 5 (optr v113 1) rfl (by kernel_rfl) (by kernel_rfl) (by kernel_rfl) rfl rfl hf (by decide) rfl (fun w => ?_) ?_
   ·
    refine st_fa (o' := 1) hf (by decide) (off := 1) (sz := 1) (by kernel_rfl) (by decide) rfl rfl (rl126.mono fun _ _ => trivial) rfl ?_
    clear hf; intro a ha hf
    exact st_nil hf (th_n ⟨ha, rfl⟩)
   clear hf; intro a hf
   refine dr_take2 6 (.complex .f64 v109 v110) rfl (by kernel_rfl) (by kernel_rfl) (by kernel_rfl) (by kernel_rfl) (by kernel_rfl) rfl rfl hf (by decide) rfl (fun w hp => ?_) ⟨_, hp⟩ ?_
   ·
    obtain ⟨_, hp⟩ := hp
    refine st_ldO (u := .complex .f64 v109 v110) hf (by decide) pl35 rfl rfl (rl126.ob hp) rfl ?_
    clear hf; intro a ha hf
    exact st_nil hf (th_n ⟨ha, rfl⟩)
   clear hf; intro a hf
   refine dr_nilE 7 rfl (by kernel_rfl) (by kernel_rfl) (by kernel_rfl) hf (by decide) rfl rfl (Sl.ptr rl125.any (hsetN hq94 (hsetN hq91 kl0)).1 (hsetN hq94 (hsetN hq91 kl0)).2) ?_
   clear hf; intro a hf
   refine dr_takeP 8 (optr (eptr vl0 il0 136) 65) rfl (by kernel_rfl) (by kernel_rfl) (by kernel_rfl) rfl rfl hf (by decide) rfl (fun w => ?_) ?_
   ·
    refine st_faP (off := 65) (sz := 64) hf (by decide) (by kernel_rfl) (by decide) rfl rfl (Sl.isP rl125.any (hsetN hq94 (hsetN hq91 kl0)).1 (hsetN hq94 (hsetN hq91 kl0)).2) ?_
    clear hf; intro a ha hf
    exact st_nil hf (th_n ⟨ha, rfl⟩)
   clear hf; intro a hf
   refine dr_takeP 9 (optr (eptr vl0 il0 136) (65 + ((gt q92 il0).2.2.2.2.1).toNat * 1)) rfl (by kernel_rfl) (by kernel_rfl) (by kernel_rfl) rfl rfl hf (by decide) rfl (fun w => ?_) ?_
   ·
    refine st_iaQ (sz := 1) hf (by decide) Tryz.underlying120 (by kernel_rfl) rfl rfl rfl (Sl.isP rl125.any (hsetN hq94 (hsetN hq91 kl0)).1 (hsetN hq94 (hsetN hq91 kl0)).2) hc127.1 hc127.2 ?_
    clear hf; intro a ha hf
    exact st_nil hf (th_n ⟨ha, rfl⟩)
   clear hf; intro a hf
   have hp := bk124 _ _ hp
   have hp := bk119 _ _ hp
   refine dr_one 10 rfl (by kernel_rfl) ?_
   refine st_stQ (E := EK1) (F := Ek.c128) (o := 65 + ((gt q92 il0).2.2.2.2.1).toNat * 1) (Sub.comp (Sub.comp (Sub.snd (E := (Ek.int .i64)) (F := EK2)) (Sub.comp (Sub.snd (E := (Ek.arr 64 Ek.c128)) (F := EK3)) (Sub.fst (E := (Ek.arr 64 Ek.c128)) (F := EK4)))) (Sub.arr (F := Ek.c128) (N := 64) (j := (gt q92 il0).2.2.2.2.1) hc127.1 hc127.2)) hf (by kernel_rfl) hp (i := 0) rfl rfl rfl rfl (show Ek.c128.rep [.complex .f64 v109 v110] q107.1.2.1 from ⟨_, _, rfl, y111, y112⟩) (hsetN hq94 (hsetN hq91 kl0)).1 (hsetN hq94 (hsetN hq91 kl0)).2 ?_
   clear hf; intro a w hf hp0; clear hp; have hp := hp0; clear hp0
   replace hp : Hp _ _ _ (Res.sl EK1 tbl0 vl0 (q92.set (il0).toNat ((gt q92 il0).1, (gt q92 il0).2.1, (((gt q92 il0).2.2.1).set ((gt q92 il0).2.2.2.2.1).toNat q107.1.2.1), (gt q92 il0).2.2.2.1, (gt q92 il0).2.2.2.2.1, (gt q92 il0).2.2.2.2.2.1, (gt q92 il0).2.2.2.2.2.2.1, (gt q92 il0).2.2.2.2.2.2.2.1, (gt q92 il0).2.2.2.2.2.2.2.2.1, (gt q92 il0).2.2.2.2.2.2.2.2.2)) :: _ :: _ :: ow) := hp
   rw [hq130] at hp
   replace hp : Hp _ _ _ (Res.sl EK1 tbl0 vl0 q128 :: _ :: _ :: ow) := hp
   refine st_nil hf (th_n ⟨fun hn => absurd hn (by decide), ?_⟩)
   refine dr_end (by kernel_rfl) ?_ _
   exact ⟨hf.sb, hp⟩
  rintro a w ⟨hf, hp⟩
  refine go ?_; intro a hf
  refine st_nilE hf (by decide) rfl rfl (Sl.ptr (hp.sl (i := 0) rfl) (hsetN hq130 (hsetN hq94 (hsetN hq91 kl0))).1 (hsetN hq130 (hsetN hq94 (hsetN hq91 kl0))).2) fun a _ hf => ?_
  refine st_faP (off := 130) (sz := 1) hf (by decide) (by kernel_rfl) (by decide) rfl rfl (Sl.isP (hp.sl (i := 0) rfl) (hsetN hq130 (hsetN hq94 (hsetN hq91 kl0))).1 (hsetN hq130 (hsetN hq94 (hsetN hq91 kl0))).2) fun a _ hf => ?_
  refine st_ldQ (F := (Ek.int .i64)) (yv := (gt q128 il0).2.2.2.2.1) hf (by decide) pl3 (fun x => .int .i64 x) (fun _ _ h => h) rfl rfl (Sl.part (E := EK1) (F := (Ek.int .i64)) (o := 130) (Sub.comp (Sub.snd (E := (Ek.int .i64)) (F := EK2)) (Sub.comp (Sub.snd (E := (Ek.arr 64 Ek.c128)) (F := EK3)) (Sub.comp (Sub.snd (E := (Ek.arr 64 Ek.c128)) (F := EK4)) (Sub.comp (Sub.snd (E := (Ek.int .i64)) (F := EK5)) (Sub.fst (E := (Ek.int .i64)) (F := EK6)))))) (hp.sl (i := 0) rfl) (hsetN hq130 (hsetN hq94 (hsetN hq91 kl0))).1 (hsetN hq130 (hsetN hq94 (hsetN hq91 kl0))).2) fun a _ hf => ?_
  refine go ?_; intro a hf
  refine st_irem hf (by decide) rfl rfl rfl (by decide) fun a _ hf => ?_
  refine st_nilE hf (by decide) rfl rfl (Sl.ptr (hp.sl (i := 0) rfl) (hsetN hq130 (hsetN hq94 (hsetN hq91 kl0))).1 (hsetN hq130 (hsetN hq94 (hsetN hq91 kl0))).2) fun a _ hf => ?_
  refine st_faP (off := 130) (sz := 1) hf (by decide) (by kernel_rfl) (by decide) rfl rfl (Sl.isP (hp.sl (i := 0) rfl) (hsetN hq130 (hsetN hq94 (hsetN hq91 kl0))).1 (hsetN hq130 (hsetN hq94 (hsetN hq91 kl0))).2) fun a _ hf => ?_
  refine st_stQ (E := EK1) (F := (Ek.int .i64)) (o := 130) (Sub.comp (Sub.snd (E := (Ek.int .i64)) (F := EK2)) (Sub.comp (Sub.snd (E := (Ek.arr 64 Ek.c128)) (F := EK3)) (Sub.comp (Sub.snd (E := (Ek.arr 64 Ek.c128)) (F := EK4)) (Sub.comp (Sub.snd (E := (Ek.int .i64)) (F := EK5)) (Sub.fst (E := (Ek.int .i64)) (F := EK6)))))) hf (by kernel_rfl) hp (i := 0) rfl rfl rfl rfl rfl (hsetN hq130 (hsetN hq94 (hsetN hq91 kl0))).1 (hsetN hq130 (hsetN hq94 (hsetN hq91 kl0))).2 ?_
  clear hf; intro a w hf hp0; clear hp; have hp := hp0; clear hp0
  replace hp : Hp _ _ _ (Res.sl EK1 tbl0 vl0 (q128.set (il0).toNat ((gt q128 il0).1, (gt q128 il0).2.1, (gt q128 il0).2.2.1, (gt q128 il0).2.2.2.1, (((IntKind.i64.wrap ((gt q128 il0).2.2.2.2.1 + (1 : Int)))).tmod (64 : Int)), (gt q128 il0).2.2.2.2.2.1, (gt q128 il0).2.2.2.2.2.2.1, (gt q128 il0).2.2.2.2.2.2.2.1, (gt q128 il0).2.2.2.2.2.2.2.2.1, (gt q128 il0).2.2.2.2.2.2.2.2.2)) :: _ :: _ :: ow) := hp
  obtain ⟨q131, hq132, h⟩ := bnd h
  have hq133 := Option.some.inj hq132
  rw [hq133] at hp
  replace hp : Hp _ _ _ (Res.sl EK1 tbl0 vl0 q131 :: _ :: _ :: ow) := hp
  refine goT ?_
  refine st_ldOA (m := 3) (us := [.int .i64 q107.1.1, .complex .f64 v109 v110, .bool q107.1.2.2]) hf (by decide) (by kernel_rfl) rfl rfl (hp.ob (i := 1) rfl) rfl rfl fun a _ hf => ?_
  refine go ?_; intro a hf
  refine st_stO (us := [.int .i64 q107.1.1, .complex .f64 v109 v110, .bool q107.1.2.2]) hf hp (i := 2) rfl rfl rfl rfl rfl (by rfl) (by kernel_rfl) (Nat.le_of_ble_eq_true rfl) ?_
  clear hf; intro a w hf hp0; clear hp; have hp := hp0; clear hp0
  replace hp : Hp _ _ _ (_ :: _ :: Res.obj 59 v4 [.int .i64 q107.1.1, .complex .f64 v109 v110, .bool q107.1.2.2] :: ow) := hp
  refine go ?_; intro a hf
  obtain rfl := oj h
  have hp : Hp _ _ _ (_ :: _ :: ow) := (hp.pk [2, 0] 3 :)
  exact ⟨rfl, ⟨_, _, _, hf.sb, y111, y112, hp⟩⟩

noncomputable def f_feedback_run.j1 (out13 : (List (Int × (Fl × Fl) × Bool))) (far14 : (List (Fl × Fl))) (t45 : Int) (q37 : ((Int × (Fl × Fl) × Bool) × Int × (List (Int × (List (Fl × Fl)) × (List (Fl × Fl)) × Int × Int × Fl × Int × Bool × Bool × (Fl × Fl))))) (zx19 : (Fl × Fl)) : Option (((List (Int × (List (Fl × Fl)) × (List (Fl × Fl)) × Int × Int × Fl × Int × Bool × Bool × (Fl × Fl))) × (List (Int × (Fl × Fl) × Bool)) × (List (Fl × Fl)) × Int) ⊕ ((List (Int × (Fl × Fl) × Bool)) × (List (Fl × Fl)))) := (if (out13.length + ([(q37.1.1, q37.1.2.1, q37.1.2.2)]).length) * 32 ≤ 140737488355328 then (if (far14.length + ([zx19]).length) * 16 ≤ 140737488355328 then (some (Sum.inl (q37.2.2, (out13 ++ [(q37.1.1, q37.1.2.1, q37.1.2.2)]), (far14 ++ [zx19]), (IntKind.i64.wrap (t45 + (1 : Int)))))) else none) else none)
noncomputable def f_feedback_run.s1c (row2 : (List ((Fl × Fl) × Bool))) (l9 : (List (Int × (List (Fl × Fl)) × (List (Fl × Fl)) × Int × Int × Fl × Int × Bool × Bool × (Fl × Fl)))) (out13 : (List (Int × (Fl × Fl) × Bool))) (far14 : (List (Fl × Fl))) (t45 : Int) : Option (((List (Int × (List (Fl × Fl)) × (List (Fl × Fl)) × Int × Int × Fl × Int × Bool × Bool × (Fl × Fl))) × (List (Int × (Fl × Fl) × Bool)) × (List (Fl × Fl)) × Int) ⊕ ((List (Int × (Fl × Fl) × Bool)) × (List (Fl × Fl)))) := (if (decide (t45 < (row2.length : Int))) = true then (if 0 ≤ t45 ∧ t45 < (row2.length : Int) then ((f_feedback_Loop_Step l9 (0 : Int) ((gt row2 t45).1) ((gt row2 t45).2)).bind fun q37 => (if (!q37.1.2.2) = true then ((farithS .sub ((gt q37.2.2 (0 : Int)).2.2.2.2.2.2.2.2.2.1) q37.1.2.1.1).bind fun q76 => ((farithS .sub ((gt q37.2.2 (0 : Int)).2.2.2.2.2.2.2.2.2.2) q37.1.2.1.2).bind fun q83 => (f_feedback_run.j1 out13 far14 t45 q37 (q76, q83)))) else (f_feedback_run.j1 out13 far14 t45 q37 (Fl.bits 0, Fl.bits 0)))) else none) else (some (Sum.inr (out13, far14))))
noncomputable def f_feedback_run.s1 (row2 : (List ((Fl × Fl) × Bool))) (s : ((List (Int × (List (Fl × Fl)) × (List (Fl × Fl)) × Int × Int × Fl × Int × Bool × Bool × (Fl × Fl))) × (List (Int × (Fl × Fl) × Bool)) × (List (Fl × Fl)) × Int)) : Option (((List (Int × (List (Fl × Fl)) × (List (Fl × Fl)) × Int × Int × Fl × Int × Bool × Bool × (Fl × Fl))) × (List (Int × (Fl × Fl) × Bool)) × (List (Fl × Fl)) × Int) ⊕ ((List (Int × (Fl × Fl) × Bool)) × (List (Fl × Fl)))) := f_feedback_run.s1c row2 s.1 s.2.1 s.2.2.1 s.2.2.2
noncomputable def f_feedback_run (hx1 : (List (Fl × Fl))) (row2 : (List ((Fl × Fl) × Bool))) : Option ((List (Int × (Fl × Fl) × Bool)) × (List (Fl × Fl)) × Int) := ((f_feedback_New hx1).bind fun q1 => (if (q1.2 != (0 : Int)) = true then (some ([], [], q1.2)) else ((f_grid_Check row2).bind fun q7 => (if (q7.2 != (0 : Int)) = true then (some ([], [], q7.2)) else (if 0 ≤ (0 : Int) ∧ (0 : Int) ≤ (row2.length : Int) ∧ (row2.length : Int) * 32 ≤ 281474976710656 then (if 0 ≤ (0 : Int) ∧ (0 : Int) ≤ (row2.length : Int) ∧ (row2.length : Int) * 16 ≤ 281474976710656 then ((loop (f_feedback_run.s1 row2) ([q1.1], (List.replicate ((0 : Int)).toNat ((0 : Int), (Fl.bits 0, Fl.bits 0), false)), (List.replicate ((0 : Int)).toNat (Fl.bits 0, Fl.bits 0)), (0 : Int))).bind (fun q85 => (some (q85.1, q85.2, (0 : Int))))) else none) else none)))))
theorem f_feedback_run_c {S : Nat → Prop} {w0 w : World} {ow : List Res} (hp : Hp S w0 w ow) (vhx1 : Value) (hx1 : (List (Fl × Fl))) (hhx1 : RdS Ek.c128 S w0 vhx1 hx1) (vrow2 : Value) (row2 : (List ((Fl × Fl) × Bool))) (hrow2 : RdS (Ek.pair Ek.c128 Ek.bool) S w0 vrow2 row2) {r : ((List (Int × (Fl × Fl) × Bool)) × (List (Fl × Fl)) × Int)} (h : f_feedback_run hx1 row2 = some r) :
   Calls Tryz.prog 30 #[.int .i64 (4 : Int), vhx1, vrow2] w (fun e w' => ∃ (u0 : Value) (u1 : Value), e = .returned (.tuple #[u0, u1, .int .i64 r.2.2]) ∧ Hp S w0 w' (Res.sl (Ek.pair (Ek.int .i64) (Ek.pair Ek.c128 Ek.bool)) 59 u0 r.1 :: Res.sl Ek.c128 35 u1 r.2.1 :: ow)) := by
  unfold f_feedback_run at h
  refine enx (n := 88) Tryz.func30 fun a hf => ?_
  refine wp_mono (Q := fun e a w => e = .ret ∧ ∃ (u0 : Value) (u1 : Value), Fr 88 a [(6, u0), (7, u1), (8, .int .i64 r.2.2)] ∧ Hp S w0 w (Res.sl (Ek.pair (Ek.int .i64) (Ek.pair Ek.c128 Ek.bool)) 59 u0 r.1 :: Res.sl Ek.c128 35 u1 r.2.1 :: ow)) ?_ ?_
  rotate_left
  ·
   rintro e a w ⟨rfl, x0, x1, hf, hp⟩
   exact ret3 hf rfl rfl rfl rfl ⟨x0, x1, rfl, hp⟩
  refine go ?_; intro a hf
  obtain ⟨q1, hcall2, h⟩ := bnd h
  refine st_call hf (by decide) Tryz.func50 rfl rfl rfl rfl rfl (f_feedback_New_c hp _ _ hhx1 hcall2) ?_
  rintro _ w ⟨v3, rfl, hp⟩
  replace hp : Hp _ _ _ (Res.sl EK1 122 (aslv v3 1) ([q1.1]) :: ow) := hp
  refine ⟨_, rfl, fun a hf => ?_⟩
  refine go ?_; intro a hf
  refine wp_if hf rfl (fun hb => ?_) (fun hb => ?_)
  ·
   replace h := ifT h hb
   refine go ?_; intro a hf
   obtain rfl := oj h
   have hp := hp.nil (Ek.pair (Ek.int .i64) (Ek.pair Ek.c128 Ek.bool)) 59
   have hp := hp.nil Ek.c128 35
   have hp : Hp _ _ _ (Res.sl (Ek.pair (Ek.int .i64) (Ek.pair Ek.c128 Ek.bool)) 59 (.slice none 0 0) ([]) :: Res.sl Ek.c128 35 (.slice none 0 0) ([]) :: ow) := (hp.pk [1, 0] 3 :)
   exact ⟨rfl, ⟨_, _, hf.sb, hp⟩⟩
  replace h := ifF h hb
  refine wp_skip ?_
  refine go ?_; intro a hf
  obtain ⟨q7, hcall8, h⟩ := bnd h
  refine st_call hf (by decide) Tryz.func25 rfl rfl rfl rfl rfl (f_grid_Check_c hp _ _ hrow2 hcall8) ?_
  rintro _ w ⟨rfl, hp⟩
  replace hp : Hp _ _ _ (Res.sl EK1 122 (aslv v3 1) ([q1.1]) :: ow) := hp
  refine ⟨_, rfl, fun a hf => ?_⟩
  refine go ?_; intro a hf
  refine wp_if hf rfl (fun hb => ?_) (fun hb => ?_)
  ·
   replace h := ifT h hb
   refine go ?_; intro a hf
   obtain rfl := oj h
   have hp := hp.nil (Ek.pair (Ek.int .i64) (Ek.pair Ek.c128 Ek.bool)) 59
   have hp := hp.nil Ek.c128 35
   have hp : Hp _ _ _ (Res.sl (Ek.pair (Ek.int .i64) (Ek.pair Ek.c128 Ek.bool)) 59 (.slice none 0 0) ([]) :: Res.sl Ek.c128 35 (.slice none 0 0) ([]) :: ow) := (hp.pk [1, 0] 3 :)
   exact ⟨rfl, ⟨_, _, hf.sb, hp⟩⟩
  replace h := ifF h hb
  refine wp_skip ?_
  refine goT ?_
  obtain ⟨hc11, h⟩ := chk h
  obtain ⟨hc15, h⟩ := chk h
  refine wp_cutN (fun a w => ∃ (v12 : Value) (v16 : Value), Fr 88 a [(2, vrow2), (9, eptr (aslv v3 1) (0 : Int) 136), (13, v12), (14, v16)] ∧ Hp S w0 w (Res.sl Ek.c128 35 v16 (List.replicate ((0 : Int)).toNat (Fl.bits 0, Fl.bits 0)) :: Res.sl (Ek.pair (Ek.int .i64) (Ek.pair Ek.c128 Ek.bool)) 59 v12 (List.replicate ((0 : Int)).toNat ((0 : Int), (Fl.bits 0, Fl.bits 0), false)) :: Res.sl EK1 122 (aslv v3 1) ([q1.1]) :: ow)) ?_ ?_
  ·
   have hp := hp.same (Same.drew w)
   refine dr_begin' _ (fun w' => ∃ l, Hp S w0 w' l) [] (by kernel_rfl) ?_
   refine dv 0 hf ⟨_, hp⟩ fun a hf => ?_
   refine dr_takeK 1 _ rfl hf rfl (fun w ⟨_, hp⟩ => st_len (E := (Ek.pair Ek.c128 Ek.bool)) hf (by decide) Tryz.underlying33 rfl rfl (hrow2.sl hp) tk) ⟨_, hp⟩ fun a hf => ?_
   refine dv 3 hf ⟨_, hp⟩ fun a hf => ?_
   refine dr_takeK 4 _ rfl hf rfl (fun w ⟨_, hp⟩ => st_len (E := (Ek.pair Ek.c128 Ek.bool)) hf (by decide) Tryz.underlying33 rfl rfl (hrow2.sl hp) tk) ⟨_, hp⟩ fun a hf => ?_
   refine dr_two 2 5 rfl rfl (by kernel_rfl) ?_ ?_
   ·
    refine st_make (E := (Ek.pair (Ek.int .i64) (Ek.pair Ek.c128 Ek.bool))) hf (by decide) elt59 Tryz.underlying51 (by decide) hp rfl rfl rfl hc11.1 hc11.2.1 hc11.2.2 ?_
    clear hf; intro a w v12 hf hp0; clear hp; have hp := hp0; clear hp0
    replace hp : Hp _ _ _ (Res.sl (Ek.pair (Ek.int .i64) (Ek.pair Ek.c128 Ek.bool)) 59 v12 (List.replicate ((0 : Int)).toNat ((0 : Int), (Fl.bits 0, Fl.bits 0), false)) :: Res.sl EK1 122 (aslv v3 1) ([q1.1]) :: ow) := hp
    have sh14 := (hp.sl (i := 0) rfl).shapeV
    refine nx hf (fun _ _ => ⟨_, hp⟩) ?_
    refine dv 6 hf ⟨_, hp⟩ fun a hf => ?_
    refine dr_one 5 rfl (by kernel_rfl) ?_
    refine st_make (E := Ek.c128) hf (by decide) elt35 Tryz.underlying54 (by decide) hp rfl rfl rfl hc15.1 hc15.2.1 hc15.2.2 ?_
    clear hf; intro a w v16 hf hp0; clear hp; have hp := hp0; clear hp0
    replace hp : Hp _ _ _ (Res.sl Ek.c128 35 v16 (List.replicate ((0 : Int)).toNat (Fl.bits 0, Fl.bits 0)) :: _ :: _ :: ow) := hp
    have sh18 := (hp.sl (i := 0) rfl).shapeV
    refine nx hf (fun _ _ => ⟨_, hp⟩) ?_
    refine dv 7 hf ⟨_, hp⟩ fun a hf => ?_
    refine dr_end (by kernel_rfl) ?_ _
    exact ⟨v12, v16, hf.sb, hp⟩
   ·
    refine st_make (E := Ek.c128) hf (by decide) elt35 Tryz.underlying54 (by decide) hp rfl rfl rfl hc15.1 hc15.2.1 hc15.2.2 ?_
    clear hf; intro a w v16 hf hp0; clear hp; have hp := hp0; clear hp0
    replace hp : Hp _ _ _ (_ :: _ :: ow) := hp
    have sh18 := (hp.sl (i := 0) rfl).shapeV
    refine nx hf (fun _ _ => ⟨_, hp⟩) ?_
    refine dr_one 2 rfl (by kernel_rfl) ?_
    refine st_make (E := (Ek.pair (Ek.int .i64) (Ek.pair Ek.c128 Ek.bool))) hf (by decide) elt59 Tryz.underlying51 (by decide) hp rfl rfl rfl hc11.1 hc11.2.1 hc11.2.2 ?_
    clear hf; intro a w v12 hf hp0; clear hp; have hp := hp0; clear hp0
    replace hp : Hp _ _ _ (Res.sl (Ek.pair (Ek.int .i64) (Ek.pair Ek.c128 Ek.bool)) 59 v12 (List.replicate ((0 : Int)).toNat ((0 : Int), (Fl.bits 0, Fl.bits 0), false)) :: _ :: _ :: ow) := hp
    have sh14 := (hp.sl (i := 0) rfl).shapeV
    refine nx hf (fun _ _ => ⟨_, hp⟩) ?_
    refine dv 6 hf ⟨_, hp⟩ fun a hf => ?_
    refine dv 7 hf ⟨_, hp⟩ fun a hf => ?_
    refine dr_end (by kernel_rfl) ?_ _
    have hp : Hp _ _ _ (_ :: _ :: _ :: ow) := (hp.pk [1, 0, 2] 3 :)
    exact ⟨v12, v16, hf.sb, hp⟩
  rintro a w ⟨v12, v16, hf, hp⟩
  refine go ?_; intro a hf
  refine st_len (E := (Ek.pair Ek.c128 Ek.bool)) hf (by decide) Tryz.underlying33 rfl rfl (hrow2.sl hp) fun a _ hf => ?_
  refine go ?_; intro a hf
  obtain ⟨q85, hl, h⟩ := bnd h
  have hp : Hp _ _ _ (_ :: _ :: _ :: ow) := (hp.pk [2, 1, 0] 3 :)
  refine wp_loop_pure (f := (f_feedback_run.s1 row2)) (s := ([q1.1], (List.replicate ((0 : Int)).toNat ((0 : Int), (Fl.bits 0, Fl.bits 0), false)), (List.replicate ((0 : Int)).toNat (Fl.bits 0, Fl.bits 0)), (0 : Int))) (fun s a w => ∃ (v20 : Value) (v22 : Value), Fr 88 a [(9, eptr (aslv v3 1) (0 : Int) 136), (13, v20), (14, v22), (43, vrow2), (44, .int .i64 (row2.length : Int)), (45, .int .i64 s.2.2.2)] ∧ Hp S w0 w (Res.sl EK1 122 (aslv v3 1) s.1 :: Res.sl (Ek.pair (Ek.int .i64) (Ek.pair Ek.c128 Ek.bool)) 59 v20 s.2.1 :: Res.sl Ek.c128 35 v22 s.2.2.1 :: ow)) (fun q e a w => e = .exit 0 ∧ ∃ (v24 : Value) (v26 : Value), Fr 88 a [(13, v24), (14, v26)] ∧ Hp S w0 w (Res.sl (Ek.pair (Ek.int .i64) (Ek.pair Ek.c128 Ek.bool)) 59 v24 q.1 :: Res.sl Ek.c128 35 v26 q.2 :: ow)) ?_ hl ⟨_, _, hf.sb, hp⟩ ?_
  ·
   clear hl hf hp
   intro s x a w h hI
   obtain ⟨l9, out13, far14, t45⟩ := s
   obtain ⟨v20, v22, hf, hp⟩ : ∃ (v20 : Value) (v22 : Value), Fr 88 a [(9, eptr (aslv v3 1) (0 : Int) 136), (13, v20), (14, v22), (43, vrow2), (44, .int .i64 (row2.length : Int)), (45, .int .i64 t45)] ∧ Hp S w0 w (Res.sl EK1 122 (aslv v3 1) l9 :: Res.sl (Ek.pair (Ek.int .i64) (Ek.pair Ek.c128 Ek.bool)) 59 v20 out13 :: Res.sl Ek.c128 35 v22 far14 :: ow) := hI
   replace h : f_feedback_run.s1c row2 l9 out13 far14 t45 = some x := h
   unfold f_feedback_run.s1c at h
   refine go ?_; intro a hf
   refine wp_if hf rfl (fun hb => ?_) (fun hb => ?_)
   ·
    replace h := ifT h hb
    refine wp_skip ?_
    refine goT ?_
    obtain ⟨hc28, h⟩ := chk h
    refine st_index (E := (Ek.pair Ek.c128 Ek.bool)) hf (by decide) Tryz.underlying33 elt37 rfl rfl rfl (hrow2.sl hp) hc28.1 hc28.2 fun a _ hf => ?_
    refine st_ldQA (F := (Ek.pair Ek.c128 Ek.bool)) (yv := (gt row2 t45)) (m := 2) hf (by decide) (by kernel_rfl) rfl rfl rfl (Part.whole (hrow2.sl hp) hc28.1 hc28.2) ?_
    clear hf; intro a cs29 hr30 ha hf; clear ha
    obtain ⟨_, _, rfl, ⟨bb31, bb32, rfl, y33, y34⟩, rfl⟩ := hr30
    replace hf : Fr _ _ ((48, .agg #[.complex .f64 bb31 bb32, .bool ((gt row2 t45).2)]) :: _) := hf
    refine st_alloc (cs := [.complex .f64 0 0, .bool false]) (zv := .agg #[.complex .f64 0 0, .bool false]) hf (by decide) (by kernel_rfl) rfl hp rfl ?_
    clear hf; intro a w v35 hf hp0; clear hp; have hp := hp0; clear hp0
    replace hp : Hp _ _ _ (Res.obj 37 v35 [.complex .f64 0 0, .bool false] :: Res.sl EK1 122 (aslv v3 1) l9 :: Res.sl (Ek.pair (Ek.int .i64) (Ek.pair Ek.c128 Ek.bool)) 59 v20 out13 :: Res.sl Ek.c128 35 v22 far14 :: ow) := hp
    refine st_stO (us := [.complex .f64 bb31 bb32, .bool ((gt row2 t45).2)]) hf hp (i := 0) rfl rfl rfl rfl rfl (by rfl) (by kernel_rfl) (Nat.le_of_ble_eq_true rfl) ?_
    clear hf; intro a w hf hp0; clear hp; have hp := hp0; clear hp0
    replace hp : Hp _ _ _ (Res.obj 37 v35 [.complex .f64 bb31 bb32, .bool ((gt row2 t45).2)] :: _ :: _ :: _ :: ow) := hp
    refine go ?_; intro a hf
    refine st_ldOA (m := 2) (us := [.complex .f64 bb31 bb32, .bool ((gt row2 t45).2)]) hf (by decide) (by kernel_rfl) rfl rfl (hp.ob (i := 0) rfl) rfl rfl fun a _ hf => ?_
    obtain ⟨q37, hcall38, h⟩ := bnd h
    have hp39 : Hp _ _ _ (Res.sl EK1 122 (aslv v3 1) l9 :: Res.obj 37 v35 [.complex .f64 bb31 bb32, .bool ((gt row2 t45).2)] :: Res.sl (Ek.pair (Ek.int .i64) (Ek.pair Ek.c128 Ek.bool)) 59 v20 out13 :: Res.sl Ek.c128 35 v22 far14 :: ow) := (hp.pk [1, 0, 2, 3] 4 :)
    refine st_call hf (by decide) Tryz.func51 rfl rfl rfl rfl rfl (f_feedback_Loop_Step_c _ _ _ _ (aslv_ix (hp.sl (i := 1) rfl) (show (0 : Int) ≤ (0 : Int) ∧ (0 : Int) < ((1 : Nat) : Int) from by decide)) _ _ _ (show Fl.rep bb31 ((gt row2 t45).1).1 from y33) (show Fl.rep bb32 ((gt row2 t45).1).2 from y34) _ hp39 hcall38) ?_
    rintro _ w ⟨v40, v41, rfl, y42, y43, hp⟩
    replace hp : Hp _ _ _ (Res.sl EK1 122 (aslv v3 1) q37.2.2 :: _ :: _ :: _ :: ow) := hp
    refine ⟨_, rfl, fun a hf => ?_⟩
    refine go ?_; intro a hf
    refine st_alloc (cs := [.int .i64 (0 : Int), .complex .f64 0 0, .bool false]) (zv := .agg #[.int .i64 (0 : Int), .complex .f64 0 0, .bool false]) hf (by decide) (by kernel_rfl) rfl hp rfl ?_
    clear hf; intro a w v44 hf hp0; clear hp; have hp := hp0; clear hp0
    replace hp : Hp _ _ _ (Res.obj 59 v44 [.int .i64 (0 : Int), .complex .f64 0 0, .bool false] :: _ :: _ :: _ :: _ :: ow) := hp
    refine st_stO (us := [.int .i64 q37.1.1, .complex .f64 v40 v41, .bool q37.1.2.2]) hf hp (i := 0) rfl rfl rfl rfl rfl (by rfl) (by kernel_rfl) (Nat.le_of_ble_eq_true rfl) ?_
    clear hf; intro a w hf hp0; clear hp; have hp := hp0; clear hp0
    replace hp : Hp _ _ _ (Res.obj 59 v44 [.int .i64 q37.1.1, .complex .f64 v40 v41, .bool q37.1.2.2] :: _ :: _ :: _ :: _ :: ow) := hp
    refine st_assign hf rfl rfl (by decide) fun a _ hf => ?_
    refine st_nil hf ?_
    refine th_n ?_
    refine wp_seq ?_
    refine wp_reg ?_
    refine st_assign hf rfl rfl (by decide) fun a _ hf => ?_
    refine st_nil hf ?_
    refine th_n ?_
    refine wp_seq_cut (fun a w => ∃ (zx19 : (Fl × Fl)) (bb46 : Nat) (bb47 : Nat), f_feedback_run.j1 out13 far14 t45 q37 zx19 = some x ∧ Fr 88 a [(9, eptr (aslv v3 1) (0 : Int) 136), (13, v20), (14, v22), (17, optr v44 0), (19, .complex .f64 bb46 bb47), (43, vrow2), (44, .int .i64 (row2.length : Int)), (45, .int .i64 t45)] ∧ Fl.rep bb46 zx19.1 ∧ Fl.rep bb47 zx19.2 ∧ Hp S w0 w (Res.sl EK1 122 (aslv v3 1) q37.2.2 :: Res.sl (Ek.pair (Ek.int .i64) (Ek.pair Ek.c128 Ek.bool)) 59 v20 out13 :: Res.sl Ek.c128 35 v22 far14 :: Res.obj 59 v44 [.int .i64 q37.1.1, .complex .f64 v40 v41, .bool q37.1.2.2] :: ow)) ?_ ?_
    ·
     refine goT ?_
     refine st_fa (o' := 2) hf (by decide) (off := 2) (sz := 1) (by kernel_rfl) (by decide) rfl rfl (hp.ob (i := 0) rfl) rfl fun a _ hf => ?_
     refine st_ldO (u := .bool q37.1.2.2) hf (by decide) pl4 rfl rfl (hp.ob (i := 0) rfl) rfl fun a _ hf => ?_
     refine go ?_; intro a hf
     refine wp_if hf rfl (fun hb => ?_) (fun hb => ?_)
     ·
      replace h := ifT h hb
      obtain ⟨S58, hp59, rd60, up61, bk62⟩ := Hp.lendS hp (i := 1) rfl
      obtain ⟨S63, hp64, rd65, up66, bk67⟩ := Hp.lendO hp59 (i := 0) rfl
      have rl68 := ((rd60.now hp59).mono up66)
      have rl69 := ((((hrow2.now hp).mono up61).now hp59).mono up66)
      have rl70 := rd65
      obtain ⟨bb72, bb73, y74, y75, hl71⟩ := RdS.pinPC (p := (0 : Int)) (o := 135) (Sub.comp (Sub.snd (E := (Ek.int .i64)) (F := EK2)) (Sub.comp (Sub.snd (E := (Ek.arr 64 Ek.c128)) (F := EK3)) (Sub.comp (Sub.snd (E := (Ek.arr 64 Ek.c128)) (F := EK4)) (Sub.comp (Sub.snd (E := (Ek.int .i64)) (F := EK5)) (Sub.comp (Sub.snd (E := (Ek.int .i64)) (F := EK6)) (Sub.comp (Sub.snd (E := Ek.f64) (F := EK7)) (Sub.comp (Sub.snd (E := (Ek.int .i64)) (F := EK8)) (Sub.comp (Sub.snd (E := Ek.bool) (F := EK9)) (Sub.snd (E := Ek.bool) (F := Ek.c128)))))))))) rl68 (aslv_ix rl68 (show (0 : Int) ≤ (0 : Int) ∧ (0 : Int) < ((1 : Nat) : Int) from by decide)).1 (aslv_ix rl68 (show (0 : Int) ≤ (0 : Int) ∧ (0 : Int) < ((1 : Nat) : Int) from by decide)).2
      obtain ⟨q76, hq77, h⟩ := bnd h
      obtain ⟨bb79, bb80, y81, y82, hl78⟩ := RdS.pinPC (p := (0 : Int)) (o := 135) (Sub.comp (Sub.snd (E := (Ek.int .i64)) (F := EK2)) (Sub.comp (Sub.snd (E := (Ek.arr 64 Ek.c128)) (F := EK3)) (Sub.comp (Sub.snd (E := (Ek.arr 64 Ek.c128)) (F := EK4)) (Sub.comp (Sub.snd (E := (Ek.int .i64)) (F := EK5)) (Sub.comp (Sub.snd (E := (Ek.int .i64)) (F := EK6)) (Sub.comp (Sub.snd (E := Ek.f64) (F := EK7)) (Sub.comp (Sub.snd (E := (Ek.int .i64)) (F := EK8)) (Sub.comp (Sub.snd (E := Ek.bool) (F := EK9)) (Sub.snd (E := Ek.bool) (F := Ek.c128)))))))))) rl68 (aslv_ix rl68 (show (0 : Int) ≤ (0 : Int) ∧ (0 : Int) < ((1 : Nat) : Int) from by decide)).1 (aslv_ix rl68 (show (0 : Int) ≤ (0 : Int) ∧ (0 : Int) < ((1 : Nat) : Int) from by decide)).2
      obtain ⟨q83, hq84, h⟩ := bnd h
      refine wp_cutN (fun a w => Fr 88 a [(9, eptr (aslv v3 1) (0 : Int) 136), (13, v20), (14, v22), (17, optr v44 0), (19, .complex .f64 (flb q76) (flb q83)), (43, vrow2), (44, .int .i64 (row2.length : Int)), (45, .int .i64 t45)] ∧ Hp S w0 w (Res.sl EK1 122 (aslv v3 1) q37.2.2 :: Res.obj 59 v44 [.int .i64 q37.1.1, .complex .f64 v40 v41, .bool q37.1.2.2] :: Res.obj 37 v35 [.complex .f64 bb31 bb32, .bool ((gt row2 t45).2)] :: Res.sl (Ek.pair (Ek.int .i64) (Ek.pair Ek.c128 Ek.bool)) 59 v20 out13 :: Res.sl Ek.c128 35 v22 far14 :: ow)) ?_ ?_
      ·
       have hp := hp64.same (Same.drew w)
       refine dr_begin' _ (fun w' => ∃ l, Hp S63 w w' l) [] (by kernel_rfl) ?_
       refine dv 0 hf ⟨_, hp⟩ fun a hf => ?_
       refine dr_nilE 1 rfl (by kernel_rfl) (by kernel_rfl) (by kernel_rfl) hf (by decide) rfl rfl (Sl.ptr (rl68.sl hp) (aslv_ix rl68 (show (0 : Int) ≤ (0 : Int) ∧ (0 : Int) < ((1 : Nat) : Int) from by decide)).1 (aslv_ix rl68 (show (0 : Int) ≤ (0 : Int) ∧ (0 : Int) < ((1 : Nat) : Int) from by decide)).2) ?_
       clear hf; intro a hf
       refine dr_takeK 2 _ rfl hf rfl (fun w ⟨_, hp⟩ => st_faP (off := 135) (sz := 1) hf (by decide) (by kernel_rfl) (by decide) rfl rfl (Sl.isP (rl68.sl hp) (aslv_ix rl68 (show (0 : Int) ≤ (0 : Int) ∧ (0 : Int) < ((1 : Nat) : Int) from by decide)).1 (aslv_ix rl68 (show (0 : Int) ≤ (0 : Int) ∧ (0 : Int) < ((1 : Nat) : Int) from by decide)).2) tk) ⟨_, hp⟩ fun a hf => ?_
       refine dr_takeK 3 _ rfl hf rfl (fun w ⟨_, hp⟩ => st_ldP hf (by decide) pl35 rfl rfl (hl71 _ _ hp) tk) ⟨_, hp⟩ fun a hf => ?_
       refine dv 4 hf ⟨_, hp⟩ fun a hf => ?_
       refine dr_takeK 5 _ rfl hf rfl (fun w ⟨_, hp⟩ => st_fa (o' := 1) hf (by decide) (off := 1) (sz := 1) (by kernel_rfl) (by decide) rfl rfl (rl70.ob hp) rfl tk) ⟨_, hp⟩ fun a hf => ?_
       refine dr_takeK 6 _ rfl hf rfl (fun w ⟨_, hp⟩ => st_ldO (u := .complex .f64 v40 v41) hf (by decide) pl35 rfl rfl (rl70.ob hp) rfl tk) ⟨_, hp⟩ fun a hf => ?_
       refine dv 7 hf ⟨_, hp⟩ fun a hf => ?_
       refine dr_takeK 8 _ rfl hf rfl (fun w ⟨_, hp⟩ => st_fs (op := .sub) rfl hf (by decide) rfl rfl rfl (show Fl.rep bb72 ((gt q37.2.2 (0 : Int)).2.2.2.2.2.2.2.2.2.1) from y74) (show Fl.rep v40 q37.1.2.1.1 from y42) hq77 tk) ⟨_, hp⟩ fun a hf => ?_
       refine dv 9 hf ⟨_, hp⟩ fun a hf => ?_
       refine dr_nilE 10 rfl (by kernel_rfl) (by kernel_rfl) (by kernel_rfl) hf (by decide) rfl rfl (Sl.ptr (rl68.sl hp) (aslv_ix rl68 (show (0 : Int) ≤ (0 : Int) ∧ (0 : Int) < ((1 : Nat) : Int) from by decide)).1 (aslv_ix rl68 (show (0 : Int) ≤ (0 : Int) ∧ (0 : Int) < ((1 : Nat) : Int) from by decide)).2) ?_
       clear hf; intro a hf
       refine dr_takeK 11 _ rfl hf rfl (fun w ⟨_, hp⟩ => st_faP (off := 135) (sz := 1) hf (by decide) (by kernel_rfl) (by decide) rfl rfl (Sl.isP (rl68.sl hp) (aslv_ix rl68 (show (0 : Int) ≤ (0 : Int) ∧ (0 : Int) < ((1 : Nat) : Int) from by decide)).1 (aslv_ix rl68 (show (0 : Int) ≤ (0 : Int) ∧ (0 : Int) < ((1 : Nat) : Int) from by decide)).2) tk) ⟨_, hp⟩ fun a hf => ?_
       refine dr_takeK 12 _ rfl hf rfl (fun w ⟨_, hp⟩ => st_ldP hf (by decide) pl35 rfl rfl (hl78 _ _ hp) tk) ⟨_, hp⟩ fun a hf => ?_
       refine dv 13 hf ⟨_, hp⟩ fun a hf => ?_
       refine dr_takeK 14 _ rfl hf rfl (fun w ⟨_, hp⟩ => st_fa (o' := 1) hf (by decide) (off := 1) (sz := 1) (by kernel_rfl) (by decide) rfl rfl (rl70.ob hp) rfl tk) ⟨_, hp⟩ fun a hf => ?_
       refine dr_takeK 15 _ rfl hf rfl (fun w ⟨_, hp⟩ => st_ldO (u := .complex .f64 v40 v41) hf (by decide) pl35 rfl rfl (rl70.ob hp) rfl tk) ⟨_, hp⟩ fun a hf => ?_
       refine dv 16 hf ⟨_, hp⟩ fun a hf => ?_
       refine dr_takeK 17 _ rfl hf rfl (fun w ⟨_, hp⟩ => st_fs (op := .sub) rfl hf (by decide) rfl rfl rfl (show Fl.rep bb80 ((gt q37.2.2 (0 : Int)).2.2.2.2.2.2.2.2.2.2) from y82) (show Fl.rep v41 q37.1.2.1.2 from y43) hq84 tk) ⟨_, hp⟩ fun a hf => ?_
       refine dv 18 hf ⟨_, hp⟩ fun a hf => ?_
       refine dv 19 hf ⟨_, hp⟩ fun a hf => ?_
       refine dr_end (by kernel_rfl) ?_ _
       have hp := bk67 _ _ hp
       have hp := bk62 _ _ hp
       exact ⟨hf.sb, hp⟩
      rintro a w ⟨hf, hp⟩
      have hp : Hp _ _ _ (_ :: _ :: _ :: _ :: ow) := (hp.pk [0, 3, 4, 1] 5 :)
      refine th_n ?_
      exact ⟨_, _, _, h, hf.sb, (farithS_rep hq77), (farithS_rep hq84), hp⟩
     replace h := ifF h hb
     refine wp_skip ?_
     have hp : Hp _ _ _ (_ :: _ :: _ :: _ :: ow) := (hp.pk [1, 3, 4, 0] 5 :)
     refine th_n ?_
     exact ⟨_, _, _, h, hf.sb, rfl, rfl, hp⟩
    rintro a w ⟨zx19, bb46, bb47, h, hf, y48, y49, hp⟩
    unfold f_feedback_run.j1 at h
    refine go ?_; intro a hf
    refine st_ldOA (m := 3) (us := [.int .i64 q37.1.1, .complex .f64 v40 v41, .bool q37.1.2.2]) hf (by decide) (by kernel_rfl) rfl rfl (hp.ob (i := 3) rfl) rfl rfl fun a _ hf => ?_
    refine st_build (E := (Ek.pair (Ek.int .i64) (Ek.pair Ek.c128 Ek.bool))) (xs := [(q37.1.1, q37.1.2.1, q37.1.2.2)]) hf (by decide) elt59 Tryz.underlying51 hp (vals := #[(0, .agg #[.int .i64 q37.1.1, .complex .f64 v40 v41, .bool q37.1.2.2])]) (cells := #[.int .i64 q37.1.1, .complex .f64 v40 v41, .bool q37.1.2.2]) rfl (by simp [hf.ev (x := (Operand.tmp 78)) rfl]) (Nat.le_of_ble_eq_true rfl) (Nat.le_of_ble_eq_true rfl) (z := .agg #[.int .i64 0, .complex .f64 0 0, .bool false]) (by kernel_rfl) (by kernel_rfl) rfl (reps_cons (cs := [.int .i64 q37.1.1, .complex .f64 v40 v41, .bool q37.1.2.2]) ⟨[.int .i64 q37.1.1], [.complex .f64 v40 v41, .bool q37.1.2.2], rfl, rfl, ⟨[.complex .f64 v40 v41], [.bool q37.1.2.2], rfl, (show Ek.c128.rep [.complex .f64 v40 v41] q37.1.2.1 from ⟨_, _, rfl, y42, y43⟩), rfl⟩⟩ (reps_nil _)) ?_
    clear hf; intro a w v50 hf hp0; clear hp; have hp := hp0; clear hp0
    replace hp : Hp _ _ _ (Res.sl (Ek.pair (Ek.int .i64) (Ek.pair Ek.c128 Ek.bool)) 59 v50 ([(q37.1.1, q37.1.2.1, q37.1.2.2)]) :: _ :: _ :: _ :: _ :: ow) := hp
    obtain ⟨hc52, h⟩ := chk h
    refine st_append (E := (Ek.pair (Ek.int .i64) (Ek.pair Ek.c128 Ek.bool))) hf (by decide) elt59 Tryz.underlying51 (by decide) hp (i := 2) rfl rfl rfl rfl (hp.sl (i := 0) rfl) hc52 ?_
    clear hf; intro a w v53 hf hp0; clear hp; have hp := hp0; clear hp0
    replace hp : Hp _ _ _ (_ :: _ :: Res.sl (Ek.pair (Ek.int .i64) (Ek.pair Ek.c128 Ek.bool)) 59 v53 (out13 ++ [(q37.1.1, q37.1.2.1, q37.1.2.2)]) :: _ :: _ :: ow) := hp
    refine go ?_; intro a hf
    refine st_build (E := Ek.c128) (xs := [zx19]) hf (by decide) elt35 Tryz.underlying54 hp (vals := #[(0, .complex .f64 bb46 bb47)]) (cells := #[.complex .f64 bb46 bb47]) rfl (by simp [hf.ev (x := (Operand.tmp 82)) rfl]) (Nat.le_of_ble_eq_true rfl) (Nat.le_of_ble_eq_true rfl) (z := .complex .f64 0 0) (by kernel_rfl) (by kernel_rfl) rfl (reps_cons (cs := [.complex .f64 bb46 bb47]) (show Ek.c128.rep [.complex .f64 bb46 bb47] zx19 from ⟨_, _, rfl, y48, y49⟩) (reps_nil _)) ?_
    clear hf; intro a w v54 hf hp0; clear hp; have hp := hp0; clear hp0
    replace hp : Hp _ _ _ (Res.sl Ek.c128 35 v54 ([zx19]) :: _ :: _ :: _ :: _ :: _ :: ow) := hp
    obtain ⟨hc56, h⟩ := chk h
    refine st_append (E := Ek.c128) hf (by decide) elt35 Tryz.underlying54 (by decide) hp (i := 4) rfl rfl rfl rfl (hp.sl (i := 0) rfl) hc56 ?_
    clear hf; intro a w v57 hf hp0; clear hp; have hp := hp0; clear hp0
    replace hp : Hp _ _ _ (_ :: _ :: _ :: _ :: Res.sl Ek.c128 35 v57 (far14 ++ [zx19]) :: _ :: ow) := hp
    refine go ?_; intro a hf
    obtain rfl := oj h
    have hp : Hp _ _ _ (_ :: _ :: _ :: ow) := (hp.pk [2, 3, 4] 6 :)
    exact rnd_l ⟨_, _, hf.sb, hp⟩
   replace h := ifF h hb
   refine wp_exit ?_
   refine th_e ?_
   obtain rfl := oj h
   have hp : Hp _ _ _ (Res.sl (Ek.pair (Ek.int .i64) (Ek.pair Ek.c128 Ek.bool)) 59 v20 out13 :: Res.sl Ek.c128 35 v22 far14 :: ow) := (hp.pk [1, 2] 3 :)
   exact rnd_r (by simp) ⟨rfl, _, _, hf.sb, hp⟩
  clear hl hf hp
  intro e a w hne hO
  obtain ⟨rfl, v24, v26, hf, hp⟩ := hO
  refine ib_same ?_
  refine go ?_; intro a hf
  obtain rfl := oj h
  exact ⟨rfl, ⟨_, _, hf.sb, hp⟩⟩

noncomputable def f_feedback_Run (hx1 : (List (Fl × Fl))) (row2 : (List ((Fl × Fl) × Bool))) : Option ((List (Int × (Fl × Fl) × Bool)) × Int) := ((f_feedback_run hx1 row2).bind fun q1 => (some (q1.1, q1.2.2)))
theorem f_feedback_Run_c {S : Nat → Prop} {w0 w : World} {ow : List Res} (hp : Hp S w0 w ow) (vhx1 : Value) (hx1 : (List (Fl × Fl))) (hhx1 : RdS Ek.c128 S w0 vhx1 hx1) (vrow2 : Value) (row2 : (List ((Fl × Fl) × Bool))) (hrow2 : RdS (Ek.pair Ek.c128 Ek.bool) S w0 vrow2 row2) {r : ((List (Int × (Fl × Fl) × Bool)) × Int)} (h : f_feedback_Run hx1 row2 = some r) :
   Calls Tryz.prog 13 #[.int .i64 (4 : Int), vhx1, vrow2] w (fun e w' => ∃ (u0 : Value), e = .returned (.tuple #[u0, .int .i64 r.2]) ∧ Hp S w0 w' (Res.sl (Ek.pair (Ek.int .i64) (Ek.pair Ek.c128 Ek.bool)) 59 u0 r.1 :: ow)) := by
  unfold f_feedback_Run at h
  refine enx (n := 21) Tryz.func13 fun a hf => ?_
  refine wp_mono (Q := fun e a w => e = .ret ∧ ∃ (u0 : Value), Fr 21 a [(6, u0), (7, .int .i64 r.2)] ∧ Hp S w0 w (Res.sl (Ek.pair (Ek.int .i64) (Ek.pair Ek.c128 Ek.bool)) 59 u0 r.1 :: ow)) ?_ ?_
  rotate_left
  ·
   rintro e a w ⟨rfl, x0, hf, hp⟩
   exact ret2 hf rfl rfl rfl ⟨x0, rfl, hp⟩
  refine go ?_; intro a hf
  obtain ⟨q1, hcall2, h⟩ := bnd h
  refine st_call hf (by decide) Tryz.func30 rfl rfl rfl rfl rfl (f_feedback_run_c hp _ _ hhx1 _ _ hrow2 hcall2) ?_
  rintro _ w ⟨v3, v4, rfl, hp⟩
  replace hp : Hp _ _ _ (Res.sl (Ek.pair (Ek.int .i64) (Ek.pair Ek.c128 Ek.bool)) 59 v3 q1.1 :: Res.sl Ek.c128 35 v4 q1.2.1 :: ow) := hp
  refine ⟨_, rfl, fun a hf => ?_⟩
  refine go ?_; intro a hf
  obtain rfl := oj h
  have hp : Hp _ _ _ (_ :: ow) := (hp.pk [0] 2 :)
  exact ⟨rfl, ⟨_, hf.sb, hp⟩⟩

noncomputable def f_points_At (size0 : Int) (label1 : Int) : Option ((Fl × Fl) × Int) := ((f_points_of size0).bind fun q1 => (if (((!q1.2) || (decide (label1 < (0 : Int)))) || (decide (size0 ≤ label1))) = true then (some ((Fl.bits 0, Fl.bits 0), (1 : Int))) else ((q1.1.2.2 label1).bind fun q11 => (some (q11, (0 : Int))))))
theorem f_points_At_c {S : Nat → Prop} {w0 w : World} {ow : List Res} (hp : Hp S w0 w ow) (size0 : Int) (label1 : Int) {r : ((Fl × Fl) × Int)} (h : f_points_At size0 label1 = some r) :
   Calls Tryz.prog 14 #[.int .i64 size0, .int .i64 label1] w (fun e w' => ∃ (b0 : Nat) (b1 : Nat), e = .returned (.tuple #[.complex .f64 b0 b1, .int .i64 r.2]) ∧ Fl.rep b0 r.1.1 ∧ Fl.rep b1 r.1.2 ∧ Hp S w0 w' (ow)) := by
  unfold f_points_At at h
  refine enx (n := 28) Tryz.func14 fun a hf => ?_
  refine wp_mono (Q := fun e a w => e = .ret ∧ ∃ (b0 : Nat) (b1 : Nat), Fr 28 a [(4, .complex .f64 b0 b1), (5, .int .i64 r.2)] ∧ Fl.rep b0 r.1.1 ∧ Fl.rep b1 r.1.2 ∧ Hp S w0 w (ow)) ?_ ?_
  rotate_left
  ·
   rintro e a w ⟨rfl, x0, x1, hf, y0, y1, hp⟩
   exact ret2 hf rfl rfl rfl ⟨x0, x1, rfl, y0, y1, hp⟩
  refine go ?_; intro a hf
  obtain ⟨q1, hcall2, h⟩ := bnd h
  refine st_call hf (by decide) Tryz.func31 rfl rfl rfl rfl rfl (f_points_of_c hp _ hcall2) ?_
  rintro _ w ⟨v3, rfl, hp⟩
  replace hp : Hp _ _ _ (Res.clo Tryz.prog v3 q1.1.2.2 :: ow) := hp
  refine ⟨_, rfl, fun a hf => ?_⟩
  refine go ?_; intro a hf
  refine st_alloc (cs := [.int .i64 (0 : Int), .int .i64 (0 : Int), .nilFunc]) (zv := .agg #[.int .i64 (0 : Int), .int .i64 (0 : Int), .nilFunc]) hf (by decide) (by kernel_rfl) rfl hp rfl ?_
  clear hf; intro a w v5 hf hp0; clear hp; have hp := hp0; clear hp0
  replace hp : Hp _ _ _ (Res.obj 91 v5 [.int .i64 (0 : Int), .int .i64 (0 : Int), .nilFunc] :: _ :: ow) := hp
  refine st_stO (us := [.int .i64 q1.1.1, .int .i64 q1.1.2.1, v3]) hf hp (i := 0) rfl rfl rfl rfl rfl (by simp only [List.all_cons, List.all_nil, hp.cloOne (i := 1) rfl]; rfl) (by kernel_rfl) (Nat.le_of_ble_eq_true rfl) ?_
  clear hf; intro a w hf hp0; clear hp; have hp := hp0; clear hp0
  replace hp : Hp _ _ _ (Res.obj 91 v5 [.int .i64 q1.1.1, .int .i64 q1.1.2.1, v3] :: _ :: ow) := hp
  refine go ?_; intro a hf
  refine wpList_cut 3 (fun a w => Fr 28 a [(0, .int .i64 size0), (1, .int .i64 label1), (6, optr v5 0), (18, .bool ((!q1.2) || (decide (label1 < (0 : Int)))))] ∧ Hp S w0 w (Res.obj 91 v5 [.int .i64 q1.1.1, .int .i64 q1.1.2.1, v3] :: Res.clo Tryz.prog v3 q1.1.2.2 :: ow)) ?_ ?_
  ·
   rcases Bool.eq_false_or_eq_true (!q1.2) with hb8 | hb8
   ·
    refine go ?_; intro a hf
    exact ⟨hf.sub ⟨rfl, rfl, rfl, (by rw [hb8]; rfl), trivial⟩, hp⟩
   refine go ?_; intro a hf
   exact ⟨hf.sub ⟨rfl, rfl, rfl, (by rw [hb8]; rfl), trivial⟩, hp⟩
  rintro a w ⟨hf, hp⟩
  refine go ?_; intro a hf
  refine wpList_cut 4 (fun a w => Fr 28 a [(1, .int .i64 label1), (6, optr v5 0), (23, .bool (((!q1.2) || (decide (label1 < (0 : Int)))) || (decide (size0 ≤ label1))))] ∧ Hp S w0 w (Res.obj 91 v5 [.int .i64 q1.1.1, .int .i64 q1.1.2.1, v3] :: Res.clo Tryz.prog v3 q1.1.2.2 :: ow)) ?_ ?_
  ·
   rcases Bool.eq_false_or_eq_true ((!q1.2) || (decide (label1 < (0 : Int)))) with hb10 | hb10
   ·
    refine go ?_; intro a hf
    exact ⟨hf.sub ⟨rfl, rfl, (by rw [hb10]; rfl), trivial⟩, hp⟩
   refine go ?_; intro a hf
   exact ⟨hf.sub ⟨rfl, rfl, (by rw [hb10]; rfl), trivial⟩, hp⟩
  rintro a w ⟨hf, hp⟩
  refine goT ?_
  refine wp_if hf rfl (fun hb => ?_) (fun hb => ?_)
  ·
   replace h := ifT h hb
   refine go ?_; intro a hf
   obtain rfl := oj h
   have hp : Hp _ _ _ (ow) := (hp.pk [] 2 :)
   exact ⟨rfl, ⟨_, _, hf.sb, rfl, rfl, hp⟩⟩
  replace h := ifF h hb
  refine wp_skip ?_
  refine goT ?_
  refine st_fa (o' := 2) hf (by decide) (off := 2) (sz := 1) (by kernel_rfl) (by decide) rfl rfl (hp.ob (i := 0) rfl) rfl fun a _ hf => ?_
  refine st_ldO (u := v3) hf (by decide) pl89 rfl rfl (hp.ob (i := 0) rfl) rfl fun a _ hf => ?_
  refine go ?_; intro a hf
  obtain ⟨q11, hcall12, h⟩ := bnd h
  obtain ⟨S13, hp14, rd15, up16, bk17⟩ := Hp.lendC hp (i := 1) rfl
  refine st_callC rd15 hcall12 hf (by decide) hp14 rfl rfl rfl ?_
  clear hf; intro a w v18 v19 y20 y21 hp0 hf; have hp0 := bk17 _ _ hp0; clear hp; have hp := hp0; clear hp0
  replace hp : Hp _ _ _ (_ :: _ :: ow) := hp
  refine go ?_; intro a hf
  obtain rfl := oj h
  have hp : Hp _ _ _ (ow) := (hp.pk [] 2 :)
  exact ⟨rfl, ⟨_, _, hf.sb, y20, y21, hp⟩⟩

noncomputable def f_foghorntop_awake  : Option Bool := ((f_feedback_Run ([(Fl.bits 4607182418800017408, Fl.bits 0)]) ([((Fl.bits 4607182418800017408, Fl.bits 4607182418800017408), false), ((Fl.bits 0, Fl.bits 0), true)])).bind fun q5 => ((f_points_At (4 : Int) (0 : Int)).bind fun q19 => ((f_points_Label (4 : Int) q19.1).bind fun q25 => ((if (((((q5.2 == (0 : Int)) && (q19.2 == (0 : Int))) && (q25.2 == (0 : Int))) && (q25.1 == (0 : Int))) && ((q5.1.length : Int) == (2 : Int))) = true then (if 0 ≤ (0 : Int) ∧ (0 : Int) < (q5.1.length : Int) then (some (ceq ((gt q5.1 (0 : Int)).2.1) (Fl.bits 4607182418800017408, Fl.bits 4607182418800017408))) else none) else (some false)).bind fun z37 => ((if z37 = true then (if 0 ≤ (0 : Int) ∧ (0 : Int) < (q5.1.length : Int) then (some (!((gt q5.1 (0 : Int)).2.2))) else none) else (some false)).bind fun z45 => ((if z45 = true then (if 0 ≤ (1 : Int) ∧ (1 : Int) < (q5.1.length : Int) then (some ((gt q5.1 (1 : Int)).2.2)) else none) else (some false)).bind fun z49 => (some z49)))))))
theorem f_foghorntop_awake_c {S : Nat → Prop} {w0 w : World} {ow : List Res} (hp : Hp S w0 w ow) {r : Bool} (h : f_foghorntop_awake = some r) :
   Calls Tryz.prog 4 #[] w (fun e w' => e = .returned (.bool r) ∧ Hp S w0 w' (ow)) := by
  unfold f_foghorntop_awake at h
  refine enx (n := 63) Tryz.func4 fun a hf => ?_
  refine wp_mono (Q := fun e a w => e = .ret ∧ Fr 63 a [(0, .bool r)] ∧ Hp S w0 w (ow)) ?_ ?_
  rotate_left
  ·
   rintro e a w ⟨rfl, hf, hp⟩
   exact ret1 hf rfl rfl ⟨rfl, hp⟩
  refine go ?_; intro a hf
  refine st_build (E := Ek.c128) (xs := [(Fl.bits 4607182418800017408, Fl.bits 0)]) hf (by decide) elt35 Tryz.underlying54 hp (vals := #[(0, .complex .f64 4607182418800017408 0)]) (cells := #[.complex .f64 4607182418800017408 0]) rfl (by simp [hf.ev (x := (Operand.const (.complex .f64 4607182418800017408 0))) rfl]) (Nat.le_of_ble_eq_true rfl) (Nat.le_of_ble_eq_true rfl) (z := .complex .f64 0 0) (by kernel_rfl) (by kernel_rfl) rfl (reps_cons (cs := [.complex .f64 4607182418800017408 0]) (show Ek.c128.rep [.complex .f64 4607182418800017408 0] (Fl.bits 4607182418800017408, Fl.bits 0) from ⟨_, _, rfl, rfl, rfl⟩) (reps_nil _)) ?_
  clear hf; intro a w v1 hf hp0; clear hp; have hp := hp0; clear hp0
  replace hp : Hp _ _ _ (Res.sl Ek.c128 35 v1 ([(Fl.bits 4607182418800017408, Fl.bits 0)]) :: ow) := hp
  refine st_buildA (vals := [(0, .complex .f64 4607182418800017408 4607182418800017408)]) (cells := [.complex .f64 4607182418800017408 4607182418800017408, .bool false]) hf (by decide) rfl (by simp [hf.ev (x := (Operand.const (.complex .f64 4607182418800017408 4607182418800017408))) rfl]) (fun w => by kernel_rfl) fun a _ hf => ?_
  refine st_buildA (vals := [(1, .bool true)]) (cells := [.complex .f64 0 0, .bool true]) hf (by decide) rfl (by simp [hf.ev (x := (Operand.const (.bool true))) rfl]) (fun w => by kernel_rfl) fun a _ hf => ?_
  refine st_build (E := (Ek.pair Ek.c128 Ek.bool)) (xs := [((Fl.bits 4607182418800017408, Fl.bits 4607182418800017408), false), ((Fl.bits 0, Fl.bits 0), true)]) hf (by decide) elt37 Tryz.underlying33 hp (vals := #[(0, .agg #[.complex .f64 4607182418800017408 4607182418800017408, .bool false]), (1, .agg #[.complex .f64 0 0, .bool true])]) (cells := #[.complex .f64 4607182418800017408 4607182418800017408, .bool false, .complex .f64 0 0, .bool true]) rfl (by simp [hf.ev (x := (Operand.tmp 9)) rfl, hf.ev (x := (Operand.tmp 10)) rfl]) (Nat.le_of_ble_eq_true rfl) (Nat.le_of_ble_eq_true rfl) (z := .agg #[.complex .f64 0 0, .bool false]) (by kernel_rfl) (by kernel_rfl) rfl (reps_cons (cs := [.complex .f64 4607182418800017408 4607182418800017408, .bool false]) ⟨[.complex .f64 4607182418800017408 4607182418800017408], [.bool false], rfl, (show Ek.c128.rep [.complex .f64 4607182418800017408 4607182418800017408] (Fl.bits 4607182418800017408, Fl.bits 4607182418800017408) from ⟨_, _, rfl, rfl, rfl⟩), rfl⟩ (reps_cons (cs := [.complex .f64 0 0, .bool true]) ⟨[.complex .f64 0 0], [.bool true], rfl, (show Ek.c128.rep [.complex .f64 0 0] (Fl.bits 0, Fl.bits 0) from ⟨_, _, rfl, rfl, rfl⟩), rfl⟩ (reps_nil _))) ?_
  clear hf; intro a w v3 hf hp0; clear hp; have hp := hp0; clear hp0
  replace hp : Hp _ _ _ (Res.sl (Ek.pair Ek.c128 Ek.bool) 37 v3 ([((Fl.bits 4607182418800017408, Fl.bits 4607182418800017408), false), ((Fl.bits 0, Fl.bits 0), true)]) :: _ :: ow) := hp
  obtain ⟨q5, hcall6, h⟩ := bnd h
  obtain ⟨S7, hp8, rd9, up10, bk11⟩ := Hp.lendS hp (i := 1) rfl
  obtain ⟨S12, hp13, rd14, up15, bk16⟩ := Hp.lendS hp8 (i := 0) rfl
  refine st_call hf (by decide) Tryz.func13 rfl rfl rfl rfl rfl (f_feedback_Run_c hp13 _ _ ((rd9.now hp8).mono up15) _ _ rd14 hcall6) ?_
  rintro _ w ⟨v17, rfl, hp0⟩
  have hp0 := bk16 _ _ hp0
  have hp0 := bk11 _ _ hp0
  clear hp; have hp := hp0; clear hp0
  replace hp : Hp _ _ _ (_ :: _ :: Res.sl (Ek.pair (Ek.int .i64) (Ek.pair Ek.c128 Ek.bool)) 59 v17 q5.1 :: ow) := hp
  refine ⟨_, rfl, fun a hf => ?_⟩
  refine go ?_; intro a hf
  obtain ⟨q19, hcall20, h⟩ := bnd h
  refine st_call hf (by decide) Tryz.func14 rfl rfl rfl rfl rfl (f_points_At_c hp _ _ hcall20) ?_
  rintro _ w ⟨v21, v22, rfl, y23, y24, hp⟩
  replace hp : Hp _ _ _ (_ :: _ :: _ :: ow) := hp
  refine ⟨_, rfl, fun a hf => ?_⟩
  refine go ?_; intro a hf
  obtain ⟨q25, hcall26, h⟩ := bnd h
  refine st_call hf (by decide) Tryz.func15 rfl rfl rfl rfl rfl (f_points_Label_c hp _ _ _ _ (show Fl.rep v21 (q19.1).1 from y23) (show Fl.rep v22 (q19.1).2 from y24) hcall26) ?_
  rintro _ w ⟨rfl, hp⟩
  replace hp : Hp _ _ _ (_ :: _ :: _ :: ow) := hp
  refine ⟨_, rfl, fun a hf => ?_⟩
  refine go ?_; intro a hf
  refine wpList_cut 3 (fun a w => Fr 63 a [(1, v17), (5, .int .i64 q25.1), (6, .int .i64 q25.2), (29, .bool ((q5.2 == (0 : Int)) && (q19.2 == (0 : Int))))] ∧ Hp S w0 w (Res.sl Ek.c128 35 v1 ([(Fl.bits 4607182418800017408, Fl.bits 0)]) :: Res.sl (Ek.pair Ek.c128 Ek.bool) 37 v3 ([((Fl.bits 4607182418800017408, Fl.bits 4607182418800017408), false), ((Fl.bits 0, Fl.bits 0), true)]) :: Res.sl (Ek.pair (Ek.int .i64) (Ek.pair Ek.c128 Ek.bool)) 59 v17 q5.1 :: ow)) ?_ ?_
  ·
   rcases Bool.eq_false_or_eq_true (q5.2 == (0 : Int)) with hb28 | hb28
   ·
    refine go ?_; intro a hf
    exact ⟨hf.sub ⟨rfl, rfl, rfl, (by rw [hb28]; rfl), trivial⟩, hp⟩
   refine go ?_; intro a hf
   exact ⟨hf.sub ⟨rfl, rfl, rfl, (by rw [hb28]; rfl), trivial⟩, hp⟩
  rintro a w ⟨hf, hp⟩
  refine go ?_; intro a hf
  refine wpList_cut 3 (fun a w => Fr 63 a [(1, v17), (5, .int .i64 q25.1), (33, .bool (((q5.2 == (0 : Int)) && (q19.2 == (0 : Int))) && (q25.2 == (0 : Int))))] ∧ Hp S w0 w (Res.sl Ek.c128 35 v1 ([(Fl.bits 4607182418800017408, Fl.bits 0)]) :: Res.sl (Ek.pair Ek.c128 Ek.bool) 37 v3 ([((Fl.bits 4607182418800017408, Fl.bits 4607182418800017408), false), ((Fl.bits 0, Fl.bits 0), true)]) :: Res.sl (Ek.pair (Ek.int .i64) (Ek.pair Ek.c128 Ek.bool)) 59 v17 q5.1 :: ow)) ?_ ?_
  ·
   rcases Bool.eq_false_or_eq_true ((q5.2 == (0 : Int)) && (q19.2 == (0 : Int))) with hb30 | hb30
   ·
    refine go ?_; intro a hf
    exact ⟨hf.sub ⟨rfl, rfl, (by rw [hb30]; rfl), trivial⟩, hp⟩
   refine go ?_; intro a hf
   exact ⟨hf.sub ⟨rfl, rfl, (by rw [hb30]; rfl), trivial⟩, hp⟩
  rintro a w ⟨hf, hp⟩
  refine go ?_; intro a hf
  refine wpList_cut 3 (fun a w => Fr 63 a [(1, v17), (37, .bool ((((q5.2 == (0 : Int)) && (q19.2 == (0 : Int))) && (q25.2 == (0 : Int))) && (q25.1 == (0 : Int))))] ∧ Hp S w0 w (Res.sl Ek.c128 35 v1 ([(Fl.bits 4607182418800017408, Fl.bits 0)]) :: Res.sl (Ek.pair Ek.c128 Ek.bool) 37 v3 ([((Fl.bits 4607182418800017408, Fl.bits 4607182418800017408), false), ((Fl.bits 0, Fl.bits 0), true)]) :: Res.sl (Ek.pair (Ek.int .i64) (Ek.pair Ek.c128 Ek.bool)) 59 v17 q5.1 :: ow)) ?_ ?_
  ·
   rcases Bool.eq_false_or_eq_true (((q5.2 == (0 : Int)) && (q19.2 == (0 : Int))) && (q25.2 == (0 : Int))) with hb32 | hb32
   ·
    refine go ?_; intro a hf
    exact ⟨hf.sub ⟨rfl, (by rw [hb32]; rfl), trivial⟩, hp⟩
   refine go ?_; intro a hf
   exact ⟨hf.sub ⟨rfl, (by rw [hb32]; rfl), trivial⟩, hp⟩
  rintro a w ⟨hf, hp⟩
  refine go ?_; intro a hf
  refine wpList_cut 4 (fun a w => Fr 63 a [(1, v17), (42, .bool (((((q5.2 == (0 : Int)) && (q19.2 == (0 : Int))) && (q25.2 == (0 : Int))) && (q25.1 == (0 : Int))) && ((q5.1.length : Int) == (2 : Int))))] ∧ Hp S w0 w (Res.sl Ek.c128 35 v1 ([(Fl.bits 4607182418800017408, Fl.bits 0)]) :: Res.sl (Ek.pair Ek.c128 Ek.bool) 37 v3 ([((Fl.bits 4607182418800017408, Fl.bits 4607182418800017408), false), ((Fl.bits 0, Fl.bits 0), true)]) :: Res.sl (Ek.pair (Ek.int .i64) (Ek.pair Ek.c128 Ek.bool)) 59 v17 q5.1 :: ow)) ?_ ?_
  ·
   rcases Bool.eq_false_or_eq_true ((((q5.2 == (0 : Int)) && (q19.2 == (0 : Int))) && (q25.2 == (0 : Int))) && (q25.1 == (0 : Int))) with hb34 | hb34
   ·
    refine go ?_; intro a hf
    refine st_len (E := (Ek.pair (Ek.int .i64) (Ek.pair Ek.c128 Ek.bool))) hf (by decide) Tryz.underlying51 (wantY hf rfl rfl hb34) rfl (hp.sl (i := 2) rfl) fun a _ hf => ?_
    refine go ?_; intro a hf
    exact ⟨hf.sub ⟨rfl, (by rw [hb34]; rfl), trivial⟩, hp⟩
   refine go ?_; intro a hf
   exact ⟨hf.sub ⟨rfl, (by rw [hb34]; rfl), trivial⟩, hp⟩
  rintro a w ⟨hf, hp⟩
  refine go ?_; intro a hf
  obtain ⟨z37, hz35, h⟩ := bnd h
  refine wpList_cut 6 (fun a w => Fr 63 a [(1, v17), (49, .bool z37)] ∧ Hp S w0 w (Res.sl Ek.c128 35 v1 ([(Fl.bits 4607182418800017408, Fl.bits 0)]) :: Res.sl (Ek.pair Ek.c128 Ek.bool) 37 v3 ([((Fl.bits 4607182418800017408, Fl.bits 4607182418800017408), false), ((Fl.bits 0, Fl.bits 0), true)]) :: Res.sl (Ek.pair (Ek.int .i64) (Ek.pair Ek.c128 Ek.bool)) 59 v17 q5.1 :: ow)) ?_ ?_
  ·
   rcases Bool.eq_false_or_eq_true (((((q5.2 == (0 : Int)) && (q19.2 == (0 : Int))) && (q25.2 == (0 : Int))) && (q25.1 == (0 : Int))) && ((q5.1.length : Int) == (2 : Int))) with hb36 | hb36
   ·
    replace hz35 := ifT hz35 hb36
    refine go ?_; intro a hf
    obtain ⟨hc38, hz35⟩ := chk hz35
    refine st_index (E := (Ek.pair (Ek.int .i64) (Ek.pair Ek.c128 Ek.bool))) hf (by decide) Tryz.underlying51 elt59 (wantY hf rfl rfl hb36) rfl rfl (hp.sl (i := 2) rfl) hc38.1 hc38.2 fun a _ hf => ?_
    refine st_faP (off := 1) (sz := 1) hf (by decide) (by kernel_rfl) (by decide) (wantY hf rfl rfl hb36) rfl (Sl.isP (hp.sl (i := 2) rfl) hc38.1 hc38.2) fun a _ hf => ?_
    refine st_ldQC (yv := (gt q5.1 (0 : Int)).2.1) hf (by decide) pl35 (wantY hf rfl rfl hb36) rfl (Sl.part (E := (Ek.pair (Ek.int .i64) (Ek.pair Ek.c128 Ek.bool))) (F := Ek.c128) (o := 1) (Sub.comp (Sub.snd (E := (Ek.int .i64)) (F := (Ek.pair Ek.c128 Ek.bool))) (Sub.fst (E := Ek.c128) (F := Ek.bool))) (hp.sl (i := 2) rfl) hc38.1 hc38.2) ?_
    clear hf; intro a bb39 bb40 y41 y42 ha hf; clear ha
    refine st_ccmp (r_ceq (x := (gt q5.1 (0 : Int)).2.1) (y := (Fl.bits 4607182418800017408, Fl.bits 4607182418800017408)) y41 y42 rfl rfl) hf (by decide) (wantY hf rfl rfl hb36) rfl rfl fun a _ hf => ?_
    obtain rfl := oj hz35
    refine go ?_; intro a hf
    exact ⟨hf.sb, hp⟩
   replace hz35 := ifF hz35 hb36
   obtain rfl := oj hz35
   refine go ?_; intro a hf
   exact ⟨hf.sb, hp⟩
  rintro a w ⟨hf, hp⟩
  refine go ?_; intro a hf
  obtain ⟨z45, hz43, h⟩ := bnd h
  refine wpList_cut 6 (fun a w => Fr 63 a [(1, v17), (56, .bool z45)] ∧ Hp S w0 w (Res.sl Ek.c128 35 v1 ([(Fl.bits 4607182418800017408, Fl.bits 0)]) :: Res.sl (Ek.pair Ek.c128 Ek.bool) 37 v3 ([((Fl.bits 4607182418800017408, Fl.bits 4607182418800017408), false), ((Fl.bits 0, Fl.bits 0), true)]) :: Res.sl (Ek.pair (Ek.int .i64) (Ek.pair Ek.c128 Ek.bool)) 59 v17 q5.1 :: ow)) ?_ ?_
  ·
   rcases Bool.eq_false_or_eq_true z37 with hb44 | hb44
   ·
    replace hz43 := ifT hz43 hb44
    refine go ?_; intro a hf
    obtain ⟨hc46, hz43⟩ := chk hz43
    refine st_index (E := (Ek.pair (Ek.int .i64) (Ek.pair Ek.c128 Ek.bool))) hf (by decide) Tryz.underlying51 elt59 (wantY hf rfl rfl hb44) rfl rfl (hp.sl (i := 2) rfl) hc46.1 hc46.2 fun a _ hf => ?_
    refine st_faP (off := 2) (sz := 1) hf (by decide) (by kernel_rfl) (by decide) (wantY hf rfl rfl hb44) rfl (Sl.isP (hp.sl (i := 2) rfl) hc46.1 hc46.2) fun a _ hf => ?_
    refine st_ldQ (F := Ek.bool) (yv := (gt q5.1 (0 : Int)).2.2) hf (by decide) pl4 (fun x => .bool x) (fun _ _ h => h) (wantY hf rfl rfl hb44) rfl (Sl.part (E := (Ek.pair (Ek.int .i64) (Ek.pair Ek.c128 Ek.bool))) (F := Ek.bool) (o := 2) (Sub.comp (Sub.snd (E := (Ek.int .i64)) (F := (Ek.pair Ek.c128 Ek.bool))) (Sub.snd (E := Ek.c128) (F := Ek.bool))) (hp.sl (i := 2) rfl) hc46.1 hc46.2) fun a _ hf => ?_
    obtain rfl := oj hz43
    refine go ?_; intro a hf
    exact ⟨hf.sb, hp⟩
   replace hz43 := ifF hz43 hb44
   obtain rfl := oj hz43
   refine go ?_; intro a hf
   exact ⟨hf.sb, hp⟩
  rintro a w ⟨hf, hp⟩
  refine go ?_; intro a hf
  obtain ⟨z49, hz47, h⟩ := bnd h
  refine wpList_cut 5 (fun a w => Fr 63 a [(62, .bool z49)] ∧ Hp S w0 w (Res.sl Ek.c128 35 v1 ([(Fl.bits 4607182418800017408, Fl.bits 0)]) :: Res.sl (Ek.pair Ek.c128 Ek.bool) 37 v3 ([((Fl.bits 4607182418800017408, Fl.bits 4607182418800017408), false), ((Fl.bits 0, Fl.bits 0), true)]) :: Res.sl (Ek.pair (Ek.int .i64) (Ek.pair Ek.c128 Ek.bool)) 59 v17 q5.1 :: ow)) ?_ ?_
  ·
   rcases Bool.eq_false_or_eq_true z45 with hb48 | hb48
   ·
    replace hz47 := ifT hz47 hb48
    refine go ?_; intro a hf
    obtain ⟨hc50, hz47⟩ := chk hz47
    refine st_index (E := (Ek.pair (Ek.int .i64) (Ek.pair Ek.c128 Ek.bool))) hf (by decide) Tryz.underlying51 elt59 (wantY hf rfl rfl hb48) rfl rfl (hp.sl (i := 2) rfl) hc50.1 hc50.2 fun a _ hf => ?_
    refine st_faP (off := 2) (sz := 1) hf (by decide) (by kernel_rfl) (by decide) (wantY hf rfl rfl hb48) rfl (Sl.isP (hp.sl (i := 2) rfl) hc50.1 hc50.2) fun a _ hf => ?_
    refine st_ldQ (F := Ek.bool) (yv := (gt q5.1 (1 : Int)).2.2) hf (by decide) pl4 (fun x => .bool x) (fun _ _ h => h) (wantY hf rfl rfl hb48) rfl (Sl.part (E := (Ek.pair (Ek.int .i64) (Ek.pair Ek.c128 Ek.bool))) (F := Ek.bool) (o := 2) (Sub.comp (Sub.snd (E := (Ek.int .i64)) (F := (Ek.pair Ek.c128 Ek.bool))) (Sub.snd (E := Ek.c128) (F := Ek.bool))) (hp.sl (i := 2) rfl) hc50.1 hc50.2) fun a _ hf => ?_
    obtain rfl := oj hz47
    refine go ?_; intro a hf
    exact ⟨hf.sb, hp⟩
   replace hz47 := ifF hz47 hb48
   obtain rfl := oj hz47
   refine go ?_; intro a hf
   exact ⟨hf.sb, hp⟩
  rintro a w ⟨hf, hp⟩
  refine go ?_; intro a hf
  obtain rfl := oj h
  have hp : Hp _ _ _ (ow) := (hp.pk [] 3 :)
  exact ⟨rfl, ⟨hf.sb, hp⟩⟩

noncomputable def f_math_bits_Len32.j2 (xx0 : Int) (n2 : Int) : Option Int := (if 0 ≤ (IntKind.u8.wrap xx0) ∧ (IntKind.u8.wrap xx0) < (bap21.size : Int) then (some (IntKind.i64.wrap (n2 + (IntKind.i64.wrap (bt bap21 (IntKind.u8.wrap xx0)))))) else none)
noncomputable def f_math_bits_Len32.j1 (xx0 : Int) (n2 : Int) : Option Int := (if (decide ((256 : Int) ≤ xx0)) = true then (f_math_bits_Len32.j2 (ishr .u32 xx0 (8 : Int)) (IntKind.i64.wrap (n2 + (8 : Int)))) else (f_math_bits_Len32.j2 xx0 n2))
noncomputable def f_math_bits_Len32 (xx0 : Int) : Option Int := (if (decide ((65536 : Int) ≤ xx0)) = true then (f_math_bits_Len32.j1 (ishr .u32 xx0 (16 : Int)) (16 : Int)) else (f_math_bits_Len32.j1 xx0 (0 : Int)))
theorem f_math_bits_Len32_c {S : Nat → Prop} {w0 w : World} {ow : List Res} (hp : Hp S w0 w ow) (xx0 : Int) {r : Int} (h : f_math_bits_Len32 xx0 = some r) :
   Calls Tryz.prog 42 #[.int .u32 xx0] w (fun e w' => e = .returned (.int .i64 r) ∧ Hp S w0 w' (ow)) := by
  unfold f_math_bits_Len32 at h
  refine enx (n := 19) Tryz.func42 fun a hf => ?_
  refine wp_mono (Q := fun e a w => e = .ret ∧ Fr 19 a [(2, .int .i64 r)] ∧ Hp S w0 w (ow)) ?_ ?_
  rotate_left
  ·
   rintro e a w ⟨rfl, hf, hp⟩
   exact ret1 hf rfl rfl ⟨rfl, hp⟩
  refine wp_seq ?_
  refine wp_reg ?_
  refine st_assign hf rfl rfl (by decide) fun a _ hf => ?_
  refine st_nil hf ?_
  refine th_n ?_
  refine wp_seq_cut (fun a w => ∃ (xx0 : Int) (n2 : Int), f_math_bits_Len32.j1 xx0 n2 = some r ∧ Fr 19 a [(0, .int .u32 xx0), (2, .int .i64 n2)] ∧ Hp S w0 w (ow)) ?_ ?_
  ·
   refine go ?_; intro a hf
   refine wp_if hf rfl (fun hb => ?_) (fun hb => ?_)
   ·
    replace h := ifT h hb
    refine go ?_; intro a hf
    refine st_ishr hf (by decide) rfl rfl rfl (by decide) fun a _ hf => ?_
    refine go ?_; intro a hf
    exact ⟨_, _, h, hf.sb, hp⟩
   replace h := ifF h hb
   refine wp_skip ?_
   refine th_n ?_
   exact ⟨_, _, h, hf.sb, hp⟩
  rintro a w ⟨xx0, n2, h, hf, hp⟩
  unfold f_math_bits_Len32.j1 at h
  refine wp_seq_cut (fun a w => ∃ (xx0 : Int) (n2 : Int), f_math_bits_Len32.j2 xx0 n2 = some r ∧ Fr 19 a [(0, .int .u32 xx0), (2, .int .i64 n2)] ∧ Hp S w0 w (ow)) ?_ ?_
  ·
   refine go ?_; intro a hf
   refine wp_if hf rfl (fun hb => ?_) (fun hb => ?_)
   ·
    replace h := ifT h hb
    refine go ?_; intro a hf
    refine st_ishr hf (by decide) rfl rfl rfl (by decide) fun a _ hf => ?_
    refine go ?_; intro a hf
    exact ⟨_, _, h, hf.sb, hp⟩
   replace h := ifF h hb
   refine wp_skip ?_
   refine th_n ?_
   exact ⟨_, _, h, hf.sb, hp⟩
  rintro a w ⟨xx0, n2, h, hf, hp⟩
  unfold f_math_bits_Len32.j2 at h
  refine go ?_; intro a hf
  refine st_conv_ii hf (by decide) (by rw [Tryz.underlying25]; rfl) Tryz.underlying5 rfl rfl fun a _ hf => ?_
  obtain ⟨hc1, h⟩ := chk h
  refine st_sidx hf (by decide) Tryz.underlying9 rfl rfl rfl hc1.1 hc1.2 fun a _ hf => ?_
  refine st_conv_ii hf (by decide) (by rw [Tryz.underlying5]; rfl) Tryz.underlying3 rfl rfl fun a _ hf => ?_
  refine go ?_; intro a hf
  obtain rfl := oj h
  exact ⟨rfl, ⟨hf.sb, hp⟩⟩

noncomputable def f_trellis_Code_Check (cL : Int) (cO : Int) (cT : Int) : Option Int := ((if (((decide (cL < (2 : Int))) || (decide ((7 : Int) < cL))) || (decide ((imin cO cT) < (1 : Int)))) = true then (some true) else ((f_math_bits_Len32 (imax cO cT)).bind fun q15 => (some (q15 != cL)))).bind fun z17 => (if z17 = true then (some (1 : Int)) else (some (0 : Int))))
theorem f_trellis_Code_Check_c {S : Nat → Prop} {w0 w : World} {ow : List Res} (hp : Hp S w0 w ow) (cL : Int) (cO : Int) (cT : Int) {r : Int} (h : f_trellis_Code_Check cL cO cT = some r) :
   Calls Tryz.prog 24 #[.agg #[.int .i64 cL, .int .u32 cO, .int .u32 cT]] w (fun e w' => e = .returned (.int .i64 r) ∧ Hp S w0 w' (ow)) := by
  unfold f_trellis_Code_Check at h
  refine enx (n := 30) Tryz.func24 fun a hf => ?_
  refine wp_mono (Q := fun e a w => e = .ret ∧ Fr 30 a [(2, .int .i64 r)] ∧ Hp S w0 w (ow)) ?_ ?_
  rotate_left
  ·
   rintro e a w ⟨rfl, hf, hp⟩
   exact ret1 hf rfl rfl ⟨rfl, hp⟩
  refine goT ?_
  refine st_boxO (cs := [.int .i64 cL, .int .u32 cO, .int .u32 cT]) hf (by decide) hp rfl rfl rfl ?_
  clear hf; intro a w v1 hf hp0; clear hp; have hp := hp0; clear hp0
  replace hp : Hp _ _ _ (Res.obj 27 v1 [.int .i64 cL, .int .u32 cO, .int .u32 cT] :: ow) := hp
  refine go ?_; intro a hf
  obtain ⟨S3, hp4, rd5, up6, bk7⟩ := Hp.lendO hp (i := 0) rfl
  have rl8 := rd5
  obtain ⟨z17, hz13, h⟩ := bnd h
  refine wp_cutN (fun a w => Fr 30 a [(29, .bool z17)] ∧ Hp S w0 w (Res.obj 27 v1 [.int .i64 cL, .int .u32 cO, .int .u32 cT] :: ow)) ?_ ?_
  ·
   have hp := hp4.same (Same.drew w)
   rcases Bool.eq_false_or_eq_true (decide (cL < (2 : Int))) with hb10 | hb10
   ·
    have hb12 : ((decide (cL < (2 : Int))) || (decide ((7 : Int) < cL))) = true := by rw [hb10]; rfl
    skip
    have hb14 : (((decide (cL < (2 : Int))) || (decide ((7 : Int) < cL))) || (decide ((imin cO cT) < (1 : Int)))) = true := by rw [hb12]; rfl
    skip
    replace hz13 := ifT hz13 hb14
    replace hz13 := Option.some.inj hz13
    refine dr_begin' _ (fun w' => ∃ l, Hp S3 w w' l) [] (by kernel_rfl) ?_
    refine dr_takeK 0 _ rfl hf rfl (fun w ⟨_, hp⟩ => st_fa (o' := 0) hf (by decide) (off := 0) (sz := 1) (by kernel_rfl) (by decide) rfl rfl (rl8.ob hp) rfl tk) ⟨_, hp⟩ fun a hf => ?_
    refine dr_takeK 1 _ rfl hf rfl (fun w ⟨_, hp⟩ => st_ldO (u := .int .i64 cL) hf (by decide) pl3 rfl rfl (rl8.ob hp) rfl tk) ⟨_, hp⟩ fun a hf => ?_
    refine dv 2 hf ⟨_, hp⟩ fun a hf => ?_
    refine dv 3 hf ⟨_, hp⟩ fun a hf => ?_
    refine dr_outK 4 rfl hf rfl (wantN hf rfl rfl hb10) ⟨_, hp⟩ fun a hf => ?_
    refine dr_outK 5 rfl hf rfl (wantN hf rfl rfl hb10) ⟨_, hp⟩ fun a hf => ?_
    refine dr_outK 6 rfl hf rfl (wantN hf rfl rfl hb10) ⟨_, hp⟩ fun a hf => ?_
    refine dr_takeK 7 _ rfl hf rfl (fun w ⟨_, hp⟩ => st_pick (v := .bool ((decide (cL < (2 : Int))) || (decide ((7 : Int) < cL)))) hf rfl rfl (fun _ => by rw [show ((decide (cL < (2 : Int))) || (decide ((7 : Int) < cL))) = true from by rw [hb10]; rfl]; rfl) (fun hb' => absurd (hb10.symm.trans hb') (by decide)) (by decide) tk) ⟨_, hp⟩ fun a hf => ?_
    refine dv 8 hf ⟨_, hp⟩ fun a hf => ?_
    refine dr_outK 9 rfl hf rfl (wantN hf rfl rfl hb12) ⟨_, hp⟩ fun a hf => ?_
    refine dr_outK 10 rfl hf rfl (wantN hf rfl rfl hb12) ⟨_, hp⟩ fun a hf => ?_
    refine dr_outK 11 rfl hf rfl (wantN hf rfl rfl hb12) ⟨_, hp⟩ fun a hf => ?_
    refine dr_outK 12 rfl hf rfl (wantN hf rfl rfl hb12) ⟨_, hp⟩ fun a hf => ?_
    refine dr_outK 13 rfl hf rfl (wantN hf rfl rfl hb12) ⟨_, hp⟩ fun a hf => ?_
    refine dr_outK 14 rfl hf rfl (wantN hf rfl rfl hb12) ⟨_, hp⟩ fun a hf => ?_
    refine dr_takeK 15 _ rfl hf rfl (fun w ⟨_, hp⟩ => st_pick (v := .bool (((decide (cL < (2 : Int))) || (decide ((7 : Int) < cL))) || (decide ((imin cO cT) < (1 : Int))))) hf rfl rfl (fun _ => by rw [show (((decide (cL < (2 : Int))) || (decide ((7 : Int) < cL))) || (decide ((imin cO cT) < (1 : Int)))) = true from by rw [hb12]; rfl]; rfl) (fun hb' => absurd (hb12.symm.trans hb') (by decide)) (by decide) tk) ⟨_, hp⟩ fun a hf => ?_
    refine dv 16 hf ⟨_, hp⟩ fun a hf => ?_
    refine dr_outK 17 rfl hf rfl (wantN hf rfl rfl hb14) ⟨_, hp⟩ fun a hf => ?_
    refine dr_outK 18 rfl hf rfl (wantN hf rfl rfl hb14) ⟨_, hp⟩ fun a hf => ?_
    refine dr_outK 19 rfl hf rfl (wantN hf rfl rfl hb14) ⟨_, hp⟩ fun a hf => ?_
    refine dr_outK 20 rfl hf rfl (wantN hf rfl rfl hb14) ⟨_, hp⟩ fun a hf => ?_
    refine dr_outK 21 rfl hf rfl (wantN hf rfl rfl hb14) ⟨_, hp⟩ fun a hf => ?_
    refine dr_outK 22 rfl hf rfl (wantN hf rfl rfl hb14) ⟨_, hp⟩ fun a hf => ?_
    refine dr_outK 23 rfl hf rfl (wantN hf rfl rfl hb14) ⟨_, hp⟩ fun a hf => ?_
    refine dr_outK 24 rfl hf rfl (wantN hf rfl rfl hb14) ⟨_, hp⟩ fun a hf => ?_
    refine dr_outK 25 rfl hf rfl (wantN hf rfl rfl hb14) ⟨_, hp⟩ fun a hf => ?_
    refine dr_takeK 26 _ rfl hf rfl (fun w ⟨_, hp⟩ => st_pick (v := .bool z17) hf rfl rfl (fun _ => by rw [← hz13]; rfl) (fun hb' => absurd (hb14.symm.trans hb') (by decide)) (by decide) tk) ⟨_, hp⟩ fun a hf => ?_
    refine dr_end (by kernel_rfl) ?_ _
    have hp := bk7 _ _ hp
    exact ⟨hf.sb, hp⟩
   skip
   rcases Bool.eq_false_or_eq_true ((decide (cL < (2 : Int))) || (decide ((7 : Int) < cL))) with hb12 | hb12
   ·
    have hb14 : (((decide (cL < (2 : Int))) || (decide ((7 : Int) < cL))) || (decide ((imin cO cT) < (1 : Int)))) = true := by rw [hb12]; rfl
    skip
    replace hz13 := ifT hz13 hb14
    replace hz13 := Option.some.inj hz13
    refine dr_begin' _ (fun w' => ∃ l, Hp S3 w w' l) [] (by kernel_rfl) ?_
    refine dr_takeK 0 _ rfl hf rfl (fun w ⟨_, hp⟩ => st_fa (o' := 0) hf (by decide) (off := 0) (sz := 1) (by kernel_rfl) (by decide) rfl rfl (rl8.ob hp) rfl tk) ⟨_, hp⟩ fun a hf => ?_
    refine dr_takeK 1 _ rfl hf rfl (fun w ⟨_, hp⟩ => st_ldO (u := .int .i64 cL) hf (by decide) pl3 rfl rfl (rl8.ob hp) rfl tk) ⟨_, hp⟩ fun a hf => ?_
    refine dv 2 hf ⟨_, hp⟩ fun a hf => ?_
    refine dv 3 hf ⟨_, hp⟩ fun a hf => ?_
    refine dr_takeK 4 _ rfl hf (wantY hf rfl rfl hb10) (fun w ⟨_, hp⟩ => st_fa (o' := 0) hf (by decide) (off := 0) (sz := 1) (by kernel_rfl) (by decide) (wantY hf rfl rfl hb10) rfl (rl8.ob hp) rfl tk) ⟨_, hp⟩ fun a hf => ?_
    refine dr_takeK 5 _ rfl hf (wantY hf rfl rfl hb10) (fun w ⟨_, hp⟩ => st_ldO (u := .int .i64 cL) hf (by decide) pl3 (wantY hf rfl rfl hb10) rfl (rl8.ob hp) rfl tk) ⟨_, hp⟩ fun a hf => ?_
    refine dvY 6 hf hb10 ⟨_, hp⟩ fun a hf => ?_
    refine dr_takeK 7 _ rfl hf rfl (fun w ⟨_, hp⟩ => st_pick (v := .bool ((decide (cL < (2 : Int))) || (decide ((7 : Int) < cL)))) hf rfl rfl (fun hb' => absurd (hb10.symm.trans hb') (by decide)) (fun _ => by rw [show ((decide (cL < (2 : Int))) || (decide ((7 : Int) < cL))) = (decide ((7 : Int) < cL)) from by rw [hb10]; rfl]; rfl) (by decide) tk) ⟨_, hp⟩ fun a hf => ?_
    refine dv 8 hf ⟨_, hp⟩ fun a hf => ?_
    refine dr_outK 9 rfl hf rfl (wantN hf rfl rfl hb12) ⟨_, hp⟩ fun a hf => ?_
    refine dr_outK 10 rfl hf rfl (wantN hf rfl rfl hb12) ⟨_, hp⟩ fun a hf => ?_
    refine dr_outK 11 rfl hf rfl (wantN hf rfl rfl hb12) ⟨_, hp⟩ fun a hf => ?_
    refine dr_outK 12 rfl hf rfl (wantN hf rfl rfl hb12) ⟨_, hp⟩ fun a hf => ?_
    refine dr_outK 13 rfl hf rfl (wantN hf rfl rfl hb12) ⟨_, hp⟩ fun a hf => ?_
    refine dr_outK 14 rfl hf rfl (wantN hf rfl rfl hb12) ⟨_, hp⟩ fun a hf => ?_
    refine dr_takeK 15 _ rfl hf rfl (fun w ⟨_, hp⟩ => st_pick (v := .bool (((decide (cL < (2 : Int))) || (decide ((7 : Int) < cL))) || (decide ((imin cO cT) < (1 : Int))))) hf rfl rfl (fun _ => by rw [show (((decide (cL < (2 : Int))) || (decide ((7 : Int) < cL))) || (decide ((imin cO cT) < (1 : Int)))) = true from by rw [hb12]; rfl]; rfl) (fun hb' => absurd (hb12.symm.trans hb') (by decide)) (by decide) tk) ⟨_, hp⟩ fun a hf => ?_
    refine dv 16 hf ⟨_, hp⟩ fun a hf => ?_
    refine dr_outK 17 rfl hf rfl (wantN hf rfl rfl hb14) ⟨_, hp⟩ fun a hf => ?_
    refine dr_outK 18 rfl hf rfl (wantN hf rfl rfl hb14) ⟨_, hp⟩ fun a hf => ?_
    refine dr_outK 19 rfl hf rfl (wantN hf rfl rfl hb14) ⟨_, hp⟩ fun a hf => ?_
    refine dr_outK 20 rfl hf rfl (wantN hf rfl rfl hb14) ⟨_, hp⟩ fun a hf => ?_
    refine dr_outK 21 rfl hf rfl (wantN hf rfl rfl hb14) ⟨_, hp⟩ fun a hf => ?_
    refine dr_outK 22 rfl hf rfl (wantN hf rfl rfl hb14) ⟨_, hp⟩ fun a hf => ?_
    refine dr_outK 23 rfl hf rfl (wantN hf rfl rfl hb14) ⟨_, hp⟩ fun a hf => ?_
    refine dr_outK 24 rfl hf rfl (wantN hf rfl rfl hb14) ⟨_, hp⟩ fun a hf => ?_
    refine dr_outK 25 rfl hf rfl (wantN hf rfl rfl hb14) ⟨_, hp⟩ fun a hf => ?_
    refine dr_takeK 26 _ rfl hf rfl (fun w ⟨_, hp⟩ => st_pick (v := .bool z17) hf rfl rfl (fun _ => by rw [← hz13]; rfl) (fun hb' => absurd (hb14.symm.trans hb') (by decide)) (by decide) tk) ⟨_, hp⟩ fun a hf => ?_
    refine dr_end (by kernel_rfl) ?_ _
    have hp := bk7 _ _ hp
    exact ⟨hf.sb, hp⟩
   skip
   rcases Bool.eq_false_or_eq_true (((decide (cL < (2 : Int))) || (decide ((7 : Int) < cL))) || (decide ((imin cO cT) < (1 : Int)))) with hb14 | hb14
   ·
    replace hz13 := ifT hz13 hb14
    replace hz13 := Option.some.inj hz13
    refine dr_begin' _ (fun w' => ∃ l, Hp S3 w w' l) [] (by kernel_rfl) ?_
    refine dr_takeK 0 _ rfl hf rfl (fun w ⟨_, hp⟩ => st_fa (o' := 0) hf (by decide) (off := 0) (sz := 1) (by kernel_rfl) (by decide) rfl rfl (rl8.ob hp) rfl tk) ⟨_, hp⟩ fun a hf => ?_
    refine dr_takeK 1 _ rfl hf rfl (fun w ⟨_, hp⟩ => st_ldO (u := .int .i64 cL) hf (by decide) pl3 rfl rfl (rl8.ob hp) rfl tk) ⟨_, hp⟩ fun a hf => ?_
    refine dv 2 hf ⟨_, hp⟩ fun a hf => ?_
    refine dv 3 hf ⟨_, hp⟩ fun a hf => ?_
    refine dr_takeK 4 _ rfl hf (wantY hf rfl rfl hb10) (fun w ⟨_, hp⟩ => st_fa (o' := 0) hf (by decide) (off := 0) (sz := 1) (by kernel_rfl) (by decide) (wantY hf rfl rfl hb10) rfl (rl8.ob hp) rfl tk) ⟨_, hp⟩ fun a hf => ?_
    refine dr_takeK 5 _ rfl hf (wantY hf rfl rfl hb10) (fun w ⟨_, hp⟩ => st_ldO (u := .int .i64 cL) hf (by decide) pl3 (wantY hf rfl rfl hb10) rfl (rl8.ob hp) rfl tk) ⟨_, hp⟩ fun a hf => ?_
    refine dvY 6 hf hb10 ⟨_, hp⟩ fun a hf => ?_
    refine dr_takeK 7 _ rfl hf rfl (fun w ⟨_, hp⟩ => st_pick (v := .bool ((decide (cL < (2 : Int))) || (decide ((7 : Int) < cL)))) hf rfl rfl (fun hb' => absurd (hb10.symm.trans hb') (by decide)) (fun _ => by rw [show ((decide (cL < (2 : Int))) || (decide ((7 : Int) < cL))) = (decide ((7 : Int) < cL)) from by rw [hb10]; rfl]; rfl) (by decide) tk) ⟨_, hp⟩ fun a hf => ?_
    refine dv 8 hf ⟨_, hp⟩ fun a hf => ?_
    refine dr_takeK 9 _ rfl hf (wantY hf rfl rfl hb12) (fun w ⟨_, hp⟩ => st_fa (o' := 1) hf (by decide) (off := 1) (sz := 1) (by kernel_rfl) (by decide) (wantY hf rfl rfl hb12) rfl (rl8.ob hp) rfl tk) ⟨_, hp⟩ fun a hf => ?_
    refine dr_takeK 10 _ rfl hf (wantY hf rfl rfl hb12) (fun w ⟨_, hp⟩ => st_ldO (u := .int .u32 cO) hf (by decide) pl25 (wantY hf rfl rfl hb12) rfl (rl8.ob hp) rfl tk) ⟨_, hp⟩ fun a hf => ?_
    refine dr_takeK 11 _ rfl hf (wantY hf rfl rfl hb12) (fun w ⟨_, hp⟩ => st_fa (o' := 2) hf (by decide) (off := 2) (sz := 1) (by kernel_rfl) (by decide) (wantY hf rfl rfl hb12) rfl (rl8.ob hp) rfl tk) ⟨_, hp⟩ fun a hf => ?_
    refine dr_takeK 12 _ rfl hf (wantY hf rfl rfl hb12) (fun w ⟨_, hp⟩ => st_ldO (u := .int .u32 cT) hf (by decide) pl25 (wantY hf rfl rfl hb12) rfl (rl8.ob hp) rfl tk) ⟨_, hp⟩ fun a hf => ?_
    refine dr_takeK 13 _ rfl hf (wantY hf rfl rfl hb12) (fun w ⟨_, hp⟩ => st_imin hf (by decide) (wantY hf rfl rfl hb12) rfl rfl tk) ⟨_, hp⟩ fun a hf => ?_
    refine dvY 14 hf hb12 ⟨_, hp⟩ fun a hf => ?_
    refine dr_takeK 15 _ rfl hf rfl (fun w ⟨_, hp⟩ => st_pick (v := .bool (((decide (cL < (2 : Int))) || (decide ((7 : Int) < cL))) || (decide ((imin cO cT) < (1 : Int))))) hf rfl rfl (fun hb' => absurd (hb12.symm.trans hb') (by decide)) (fun _ => by rw [show (((decide (cL < (2 : Int))) || (decide ((7 : Int) < cL))) || (decide ((imin cO cT) < (1 : Int)))) = (decide ((imin cO cT) < (1 : Int))) from by rw [hb12]; rfl]; rfl) (by decide) tk) ⟨_, hp⟩ fun a hf => ?_
    refine dv 16 hf ⟨_, hp⟩ fun a hf => ?_
    refine dr_outK 17 rfl hf rfl (wantN hf rfl rfl hb14) ⟨_, hp⟩ fun a hf => ?_
    refine dr_outK 18 rfl hf rfl (wantN hf rfl rfl hb14) ⟨_, hp⟩ fun a hf => ?_
    refine dr_outK 19 rfl hf rfl (wantN hf rfl rfl hb14) ⟨_, hp⟩ fun a hf => ?_
    refine dr_outK 20 rfl hf rfl (wantN hf rfl rfl hb14) ⟨_, hp⟩ fun a hf => ?_
    refine dr_outK 21 rfl hf rfl (wantN hf rfl rfl hb14) ⟨_, hp⟩ fun a hf => ?_
    refine dr_outK 22 rfl hf rfl (wantN hf rfl rfl hb14) ⟨_, hp⟩ fun a hf => ?_
    refine dr_outK 23 rfl hf rfl (wantN hf rfl rfl hb14) ⟨_, hp⟩ fun a hf => ?_
    refine dr_outK 24 rfl hf rfl (wantN hf rfl rfl hb14) ⟨_, hp⟩ fun a hf => ?_
    refine dr_outK 25 rfl hf rfl (wantN hf rfl rfl hb14) ⟨_, hp⟩ fun a hf => ?_
    refine dr_takeK 26 _ rfl hf rfl (fun w ⟨_, hp⟩ => st_pick (v := .bool z17) hf rfl rfl (fun _ => by rw [← hz13]; rfl) (fun hb' => absurd (hb14.symm.trans hb') (by decide)) (by decide) tk) ⟨_, hp⟩ fun a hf => ?_
    refine dr_end (by kernel_rfl) ?_ _
    have hp := bk7 _ _ hp
    exact ⟨hf.sb, hp⟩
   skip
   replace hz13 := ifF hz13 hb14
   obtain ⟨q15, hcall16, hz13⟩ := bnd hz13
   replace hz13 := Option.some.inj hz13
   refine dr_begin' _ (fun w' => ∃ l, Hp S3 w w' l) [] (by kernel_rfl) ?_
   refine dr_takeK 0 _ rfl hf rfl (fun w ⟨_, hp⟩ => st_fa (o' := 0) hf (by decide) (off := 0) (sz := 1) (by kernel_rfl) (by decide) rfl rfl (rl8.ob hp) rfl tk) ⟨_, hp⟩ fun a hf => ?_
   refine dr_takeK 1 _ rfl hf rfl (fun w ⟨_, hp⟩ => st_ldO (u := .int .i64 cL) hf (by decide) pl3 rfl rfl (rl8.ob hp) rfl tk) ⟨_, hp⟩ fun a hf => ?_
   refine dv 2 hf ⟨_, hp⟩ fun a hf => ?_
   refine dv 3 hf ⟨_, hp⟩ fun a hf => ?_
   refine dr_takeK 4 _ rfl hf (wantY hf rfl rfl hb10) (fun w ⟨_, hp⟩ => st_fa (o' := 0) hf (by decide) (off := 0) (sz := 1) (by kernel_rfl) (by decide) (wantY hf rfl rfl hb10) rfl (rl8.ob hp) rfl tk) ⟨_, hp⟩ fun a hf => ?_
   refine dr_takeK 5 _ rfl hf (wantY hf rfl rfl hb10) (fun w ⟨_, hp⟩ => st_ldO (u := .int .i64 cL) hf (by decide) pl3 (wantY hf rfl rfl hb10) rfl (rl8.ob hp) rfl tk) ⟨_, hp⟩ fun a hf => ?_
   refine dvY 6 hf hb10 ⟨_, hp⟩ fun a hf => ?_
   refine dr_takeK 7 _ rfl hf rfl (fun w ⟨_, hp⟩ => st_pick (v := .bool ((decide (cL < (2 : Int))) || (decide ((7 : Int) < cL)))) hf rfl rfl (fun hb' => absurd (hb10.symm.trans hb') (by decide)) (fun _ => by rw [show ((decide (cL < (2 : Int))) || (decide ((7 : Int) < cL))) = (decide ((7 : Int) < cL)) from by rw [hb10]; rfl]; rfl) (by decide) tk) ⟨_, hp⟩ fun a hf => ?_
   refine dv 8 hf ⟨_, hp⟩ fun a hf => ?_
   refine dr_takeK 9 _ rfl hf (wantY hf rfl rfl hb12) (fun w ⟨_, hp⟩ => st_fa (o' := 1) hf (by decide) (off := 1) (sz := 1) (by kernel_rfl) (by decide) (wantY hf rfl rfl hb12) rfl (rl8.ob hp) rfl tk) ⟨_, hp⟩ fun a hf => ?_
   refine dr_takeK 10 _ rfl hf (wantY hf rfl rfl hb12) (fun w ⟨_, hp⟩ => st_ldO (u := .int .u32 cO) hf (by decide) pl25 (wantY hf rfl rfl hb12) rfl (rl8.ob hp) rfl tk) ⟨_, hp⟩ fun a hf => ?_
   refine dr_takeK 11 _ rfl hf (wantY hf rfl rfl hb12) (fun w ⟨_, hp⟩ => st_fa (o' := 2) hf (by decide) (off := 2) (sz := 1) (by kernel_rfl) (by decide) (wantY hf rfl rfl hb12) rfl (rl8.ob hp) rfl tk) ⟨_, hp⟩ fun a hf => ?_
   refine dr_takeK 12 _ rfl hf (wantY hf rfl rfl hb12) (fun w ⟨_, hp⟩ => st_ldO (u := .int .u32 cT) hf (by decide) pl25 (wantY hf rfl rfl hb12) rfl (rl8.ob hp) rfl tk) ⟨_, hp⟩ fun a hf => ?_
   refine dr_takeK 13 _ rfl hf (wantY hf rfl rfl hb12) (fun w ⟨_, hp⟩ => st_imin hf (by decide) (wantY hf rfl rfl hb12) rfl rfl tk) ⟨_, hp⟩ fun a hf => ?_
   refine dvY 14 hf hb12 ⟨_, hp⟩ fun a hf => ?_
   refine dr_takeK 15 _ rfl hf rfl (fun w ⟨_, hp⟩ => st_pick (v := .bool (((decide (cL < (2 : Int))) || (decide ((7 : Int) < cL))) || (decide ((imin cO cT) < (1 : Int))))) hf rfl rfl (fun hb' => absurd (hb12.symm.trans hb') (by decide)) (fun _ => by rw [show (((decide (cL < (2 : Int))) || (decide ((7 : Int) < cL))) || (decide ((imin cO cT) < (1 : Int)))) = (decide ((imin cO cT) < (1 : Int))) from by rw [hb12]; rfl]; rfl) (by decide) tk) ⟨_, hp⟩ fun a hf => ?_
   refine dv 16 hf ⟨_, hp⟩ fun a hf => ?_
   refine dr_takeK 17 _ rfl hf (wantY hf rfl rfl hb14) (fun w ⟨_, hp⟩ => st_fa (o' := 1) hf (by decide) (off := 1) (sz := 1) (by kernel_rfl) (by decide) (wantY hf rfl rfl hb14) rfl (rl8.ob hp) rfl tk) ⟨_, hp⟩ fun a hf => ?_
   refine dr_takeK 18 _ rfl hf (wantY hf rfl rfl hb14) (fun w ⟨_, hp⟩ => st_ldO (u := .int .u32 cO) hf (by decide) pl25 (wantY hf rfl rfl hb14) rfl (rl8.ob hp) rfl tk) ⟨_, hp⟩ fun a hf => ?_
   refine dr_takeK 19 _ rfl hf (wantY hf rfl rfl hb14) (fun w ⟨_, hp⟩ => st_fa (o' := 2) hf (by decide) (off := 2) (sz := 1) (by kernel_rfl) (by decide) (wantY hf rfl rfl hb14) rfl (rl8.ob hp) rfl tk) ⟨_, hp⟩ fun a hf => ?_
   refine dr_takeK 20 _ rfl hf (wantY hf rfl rfl hb14) (fun w ⟨_, hp⟩ => st_ldO (u := .int .u32 cT) hf (by decide) pl25 (wantY hf rfl rfl hb14) rfl (rl8.ob hp) rfl tk) ⟨_, hp⟩ fun a hf => ?_
   refine dr_takeK 21 _ rfl hf (wantY hf rfl rfl hb14) (fun w ⟨_, hp⟩ => st_imax hf (by decide) (wantY hf rfl rfl hb14) rfl rfl tk) ⟨_, hp⟩ fun a hf => ?_
   refine dr_takeK 23 _ rfl hf (wantY hf rfl rfl hb14) (fun w ⟨_, hp⟩ => st_fa (o' := 0) hf (by decide) (off := 0) (sz := 1) (by kernel_rfl) (by decide) (wantY hf rfl rfl hb14) rfl (rl8.ob hp) rfl tk) ⟨_, hp⟩ fun a hf => ?_
   refine dr_takeK 24 _ rfl hf (wantY hf rfl rfl hb14) (fun w ⟨_, hp⟩ => st_ldO (u := .int .i64 cL) hf (by decide) pl3 (wantY hf rfl rfl hb14) rfl (rl8.ob hp) rfl tk) ⟨_, hp⟩ fun a hf => ?_
   refine dr_one 22 rfl (by kernel_rfl) ?_
   refine st_call hf (by decide) Tryz.func42 rfl rfl (wantY hf rfl rfl hb14) rfl rfl (f_math_bits_Len32_c hp _ hcall16) ?_
   rintro _ w ⟨rfl, hp⟩
   replace hp : Hp _ _ _ (ow) := hp
   refine ⟨_, rfl, fun a hf => ?_⟩
   refine nx hf (fun _ _ => ⟨_, hp⟩) ?_
   refine dvY 25 hf hb14 ⟨_, hp⟩ fun a hf => ?_
   refine dr_takeK 26 _ rfl hf rfl (fun w ⟨_, hp⟩ => st_pick (v := .bool z17) hf rfl rfl (fun hb' => absurd (hb14.symm.trans hb') (by decide)) (fun _ => by rw [← hz13]; rfl) (by decide) tk) ⟨_, hp⟩ fun a hf => ?_
   refine dr_end (by kernel_rfl) ?_ _
   have hp := bk7 _ _ hp
   exact ⟨hf.sb, hp⟩
  rintro a w ⟨hf, hp⟩
  refine th_n ?_
  refine wp_if hf rfl (fun hb => ?_) (fun hb => ?_)
  ·
   replace h := ifT h hb
   refine go ?_; intro a hf
   obtain rfl := oj h
   have hp : Hp _ _ _ (ow) := (hp.pk [] 1 :)
   exact ⟨rfl, ⟨hf.sb, hp⟩⟩
  replace h := ifF h hb
  refine wp_skip ?_
  refine go ?_; intro a hf
  obtain rfl := oj h
  have hp : Hp _ _ _ (ow) := (hp.pk [] 1 :)
  exact ⟨rfl, ⟨hf.sb, hp⟩⟩

noncomputable def f_math_bits_OnesCount32 (xx0 : Int) : Option Int := (if 0 ≤ (ishr .u32 xx0 (24 : Int)) ∧ (ishr .u32 xx0 (24 : Int)) < (bap20.size : Int) then (if 0 ≤ (iand .u32 (ishr .u32 xx0 (16 : Int)) (255 : Int)) ∧ (iand .u32 (ishr .u32 xx0 (16 : Int)) (255 : Int)) < (bap20.size : Int) then (if 0 ≤ (iand .u32 (ishr .u32 xx0 (8 : Int)) (255 : Int)) ∧ (iand .u32 (ishr .u32 xx0 (8 : Int)) (255 : Int)) < (bap20.size : Int) then (if 0 ≤ (iand .u32 xx0 (255 : Int)) ∧ (iand .u32 xx0 (255 : Int)) < (bap20.size : Int) then (some (IntKind.i64.wrap (IntKind.u8.wrap ((IntKind.u8.wrap ((IntKind.u8.wrap ((bt bap20 (ishr .u32 xx0 (24 : Int))) + (bt bap20 (iand .u32 (ishr .u32 xx0 (16 : Int)) (255 : Int))))) + (bt bap20 (iand .u32 (ishr .u32 xx0 (8 : Int)) (255 : Int))))) + (bt bap20 (iand .u32 xx0 (255 : Int))))))) else none) else none) else none) else none)
theorem f_math_bits_OnesCount32_c {S : Nat → Prop} {w0 w : World} {ow : List Res} (hp : Hp S w0 w ow) (xx0 : Int) {r : Int} (h : f_math_bits_OnesCount32 xx0 = some r) :
   Calls Tryz.prog 34 #[.int .u32 xx0] w (fun e w' => e = .returned (.int .i64 r) ∧ Hp S w0 w' (ow)) := by
  unfold f_math_bits_OnesCount32 at h
  refine enx (n := 21) Tryz.func34 fun a hf => ?_
  refine wp_mono (Q := fun e a w => e = .ret ∧ Fr 21 a [(2, .int .i64 r)] ∧ Hp S w0 w (ow)) ?_ ?_
  rotate_left
  ·
   rintro e a w ⟨rfl, hf, hp⟩
   exact ret1 hf rfl rfl ⟨rfl, hp⟩
  refine go ?_; intro a hf
  obtain ⟨hc1, h⟩ := chk h
  obtain ⟨hc2, h⟩ := chk h
  obtain ⟨hc3, h⟩ := chk h
  obtain ⟨hc4, h⟩ := chk h
  refine wp_cutN (fun a w => Fr 21 a [(2, .int .i64 (IntKind.i64.wrap (IntKind.u8.wrap ((IntKind.u8.wrap ((IntKind.u8.wrap ((bt bap20 (ishr .u32 xx0 (24 : Int))) + (bt bap20 (iand .u32 (ishr .u32 xx0 (16 : Int)) (255 : Int))))) + (bt bap20 (iand .u32 (ishr .u32 xx0 (8 : Int)) (255 : Int))))) + (bt bap20 (iand .u32 xx0 (255 : Int)))))))] ∧ Hp S w0 w (ow)) ?_ ?_
  ·
   have hp := hp.same (Same.drew w)
   refine dr_begin' _ (fun w' => ∃ l, Hp S w0 w' l) [] (by kernel_rfl) ?_
   refine dv 0 hf ⟨_, hp⟩ fun a hf => ?_
   refine dr_takeK 1 _ rfl hf rfl (fun w ⟨_, hp⟩ => st_ishr hf (by decide) rfl rfl rfl (by decide) tk) ⟨_, hp⟩ fun a hf => ?_
   refine dr_takeK 2 _ rfl hf rfl (fun w ⟨_, hp⟩ => st_sidx hf (by decide) Tryz.underlying9 rfl rfl rfl hc1.1 hc1.2 tk) ⟨_, hp⟩ fun a hf => ?_
   refine dv 3 hf ⟨_, hp⟩ fun a hf => ?_
   refine dr_takeK 4 _ rfl hf rfl (fun w ⟨_, hp⟩ => st_ishr hf (by decide) rfl rfl rfl (by decide) tk) ⟨_, hp⟩ fun a hf => ?_
   refine dv 5 hf ⟨_, hp⟩ fun a hf => ?_
   refine dr_takeK 6 _ rfl hf rfl (fun w ⟨_, hp⟩ => st_sidx hf (by decide) Tryz.underlying9 rfl rfl rfl hc2.1 hc2.2 tk) ⟨_, hp⟩ fun a hf => ?_
   refine dv 7 hf ⟨_, hp⟩ fun a hf => ?_
   refine dv 8 hf ⟨_, hp⟩ fun a hf => ?_
   refine dr_takeK 9 _ rfl hf rfl (fun w ⟨_, hp⟩ => st_ishr hf (by decide) rfl rfl rfl (by decide) tk) ⟨_, hp⟩ fun a hf => ?_
   refine dv 10 hf ⟨_, hp⟩ fun a hf => ?_
   refine dr_takeK 11 _ rfl hf rfl (fun w ⟨_, hp⟩ => st_sidx hf (by decide) Tryz.underlying9 rfl rfl rfl hc3.1 hc3.2 tk) ⟨_, hp⟩ fun a hf => ?_
   refine dv 12 hf ⟨_, hp⟩ fun a hf => ?_
   refine dv 13 hf ⟨_, hp⟩ fun a hf => ?_
   refine dv 14 hf ⟨_, hp⟩ fun a hf => ?_
   refine dr_takeK 15 _ rfl hf rfl (fun w ⟨_, hp⟩ => st_sidx hf (by decide) Tryz.underlying9 rfl rfl rfl hc4.1 hc4.2 tk) ⟨_, hp⟩ fun a hf => ?_
   refine dv 16 hf ⟨_, hp⟩ fun a hf => ?_
   refine dr_takeK 17 _ rfl hf rfl (fun w ⟨_, hp⟩ => st_conv_ii hf (by decide) (by rw [Tryz.underlying5]; rfl) Tryz.underlying3 rfl rfl tk) ⟨_, hp⟩ fun a hf => ?_
   refine dv 18 hf ⟨_, hp⟩ fun a hf => ?_
   refine dr_end (by kernel_rfl) ?_ _
   exact ⟨hf.sb, hp⟩
  rintro a w ⟨hf, hp⟩
  refine goT ?_
  obtain rfl := oj h
  exact ⟨rfl, ⟨hf.sb, hp⟩⟩

end Go.Proofs.YtgdhjjdgghilhaaGreat
