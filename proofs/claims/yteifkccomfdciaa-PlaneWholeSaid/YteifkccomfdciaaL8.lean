/- PlaneWhole: the given statement, from the walk and the plain proof. Printed by lawrow.py on the frame of the kit's shell. -/
import Derived.Test.YteifkccomfdciaaRows
import Derived.WalkKit
import Derived.ProofKit
import Derived.OpenShut
import Derived.ShutString
import Derived.ChangeOld
import Derived.Below
import Derived.SizedLaws
import Derived.Test.YteifkccomfdciaaGlZ
import Derived.Test.YteifkccomfdciaaU8
namespace Go.Proofs.Yteifkccomfdciaa.planeWhole
open Go.ChangeShapes Go.WideShapes Go.ChangeAt Go.RowKit
open Go.ChangeMaps (open_string shut_string)
set_option linter.unusedVariables false

theorem own : ownKnob Try.prog.godebug = none := by kernel_rfl
theorem laidOut : laidOutB Try.prog = true := by kernel_rfl

set_option maxRecDepth 100000 in
theorem lifted (os : Os) (started : os.Started) (H : Type) (enc : TypeId × Value → H) :
    ReturnsInHanded {} Try.checked os 10 .any (Rows.planeWholeSpec.pre6 enc Try.prog Try.f10 Rows.planeWholeRow.domain false) (Rows.planeWholeSpec.post enc Try.prog Try.f10 false true false false) := by
  refine returnsInHanded_of_change_sized (C := Try.checked) own started (by kernel_rfl) Try.func10
    (ChangeSpec.witness6 (enc := enc) (C := Try.checked) false ⟨#[], #[.agg #[.int .i64 0, .int .i64 0], .agg #[.int .i64 0, .int .i64 0], .agg #[.int .i64 0, .int .u32 0, .float .f64 0, .float .f64 0]], []⟩ 8 (by kernel_rfl) (by kernel_rfl) (by kernel_rfl) (by kernel_rfl)) ?_
  intro W base args ds gs before hval0 hW hcnd hsz0 _
  have hsz : (DataW.weightsEach Try.prog (Try.f10.params.toList ++ Rows.planeWholeSpec.plain.varTypes Try.prog) (ds ++ gs)).all (· ≤ reachBytes) = true := hsz0
  have hval : ∀ (j : Nat) t v, Try.f10.params[j]? = some t → args[j]? = some v → Value.okWide Try.prog W .any base t v := hval0
  have hW' := hW
  obtain ⟨p, q, hA0, hV, rfl, hfz, hnd⟩ := hW
  have hA : DataW.TrodAll enc Try.prog W 0 (fun _ => true) true Try.f10.params.toList args.toList ds p := hA0
  rw [Try.params10] at hA hval hsz
  obtain ⟨v0, vs0, d0, ds0, p0, q0, hargs, rfl, rfl, h0, r0⟩ := trodAll_cons hA
  obtain ⟨v1, vs1, d1, ds1, p1, q1, rfl, rfl, rfl, h1, r1⟩ := trodAll_cons r0
  obtain ⟨v2, vs2, d2, ds2, p2, q2, rfl, rfl, rfl, h2, r2⟩ := trodAll_cons r1
  obtain ⟨rfl, rfl, rfl⟩ := trodAll_nil r2
  obtain rfl : args = #[v0, v1, v2] := by cases args; simp_all
  obtain ⟨rfl, rfl⟩ := trodVars_none hV
  have k0 := h0
  have lt0 : ∀ x ∈ p0, x.block < W.heap.size := by obtain ⟨m, hm⟩ := k0; exact DataW.trod_lt m _ _ _ hm
  obtain ⟨cs0, rfl, l0_0, D0, rfl, _, F0⟩ := GL.openAgg (N := 2) Try.underlying74 (by kernel_rfl) (hval 0 74 v0 rfl rfl) h0
  obtain ⟨c0_0, t0_0, rfl, l0_1⟩ := GL.len_succ l0_0
  obtain ⟨c0_1, t0_1, rfl, l0_2⟩ := GL.len_succ l0_1
  obtain rfl := List.eq_nil_of_length_eq_zero l0_2
  obtain ⟨_, _, _, M0_0, K0_0⟩ := GL.openFld1 F0 0 _ rfl (by kernel_rfl) rfl
  obtain ⟨a0_0, rfl, w0_0⟩ := GL.fldI Try.underlying2 K0_0
  obtain ⟨_, _, _, M0_1, K0_1⟩ := GL.openFld1 F0 1 _ rfl (by kernel_rfl) rfl
  obtain ⟨a0_1, rfl, w0_1⟩ := GL.fldI Try.underlying2 K0_1
  have k1 := h1
  have lt1 : ∀ x ∈ p1, x.block < W.heap.size := by obtain ⟨m, hm⟩ := k1; exact DataW.trod_lt m _ _ _ hm
  obtain ⟨cs1, rfl, l1_0, D1, rfl, _, F1⟩ := GL.openAgg (N := 2) Try.underlying74 (by kernel_rfl) (hval 1 74 v1 rfl rfl) h1
  obtain ⟨c1_0, t1_0, rfl, l1_1⟩ := GL.len_succ l1_0
  obtain ⟨c1_1, t1_1, rfl, l1_2⟩ := GL.len_succ l1_1
  obtain rfl := List.eq_nil_of_length_eq_zero l1_2
  obtain ⟨_, _, _, M1_0, K1_0⟩ := GL.openFld1 F1 0 _ rfl (by kernel_rfl) rfl
  obtain ⟨a1_0, rfl, w1_0⟩ := GL.fldI Try.underlying2 K1_0
  obtain ⟨_, _, _, M1_1, K1_1⟩ := GL.openFld1 F1 1 _ rfl (by kernel_rfl) rfl
  obtain ⟨a1_1, rfl, w1_1⟩ := GL.fldI Try.underlying2 K1_1
  have k2 := h2
  have lt2 : ∀ x ∈ p2, x.block < W.heap.size := by obtain ⟨m, hm⟩ := k2; exact DataW.trod_lt m _ _ _ hm
  obtain ⟨cs2, rfl, l2_0, D2, rfl, _, F2⟩ := GL.openAgg (N := 4) Try.underlying76 (by kernel_rfl) (hval 2 76 v2 rfl rfl) h2
  obtain ⟨c2_0, t2_0, rfl, l2_1⟩ := GL.len_succ l2_0
  obtain ⟨c2_1, t2_1, rfl, l2_2⟩ := GL.len_succ l2_1
  obtain ⟨c2_2, t2_2, rfl, l2_3⟩ := GL.len_succ l2_2
  obtain ⟨c2_3, t2_3, rfl, l2_4⟩ := GL.len_succ l2_3
  obtain rfl := List.eq_nil_of_length_eq_zero l2_4
  obtain ⟨_, _, _, M2_0, K2_0⟩ := GL.openFld1 F2 0 _ rfl (by kernel_rfl) rfl
  obtain ⟨a2_0, rfl, w2_0⟩ := GL.fldI Try.underlying3 K2_0
  obtain ⟨_, _, _, M2_1, K2_1⟩ := GL.openFld1 F2 1 _ rfl (by kernel_rfl) rfl
  obtain ⟨a2_1, rfl, w2_1⟩ := GL.fldI Try.underlying66 K2_1
  obtain ⟨_, _, K2_2⟩ := GL.openFldK F2 2 _ rfl (k := 2) (by kernel_rfl) (l := [c2_2, c2_3]) rfl
  obtain ⟨_, _, _, K2_2_0, K2_2_1⟩ := GL.arr2 Try.underlying23 (by kernel_rfl) K2_2
  obtain ⟨a2_2_0, rfl, w2_2_0⟩ := GL.fldF Try.underlying22 K2_2_0
  obtain ⟨a2_2_1, rfl, w2_2_1⟩ := GL.fldF Try.underlying22 K2_2_1
  clear hA0 hval0
  refine (f_foghornlaw03_PlaneWhole_c (GL.Hp.begin W) a0_0 a0_1 a1_0 a1_1 a2_0 a2_1 a2_2_0 (.bits a2_2_0) rfl a2_2_1 (.bits a2_2_1) rfl (whole_true a0_0 w0_0 a0_1 w0_1 a1_0 w1_0 a1_1 w1_1 a2_0 w2_0 a2_1 w2_1 a2_2_0 w2_2_0 a2_2_1 w2_2_1)).mono fun e W' hE => ?_
  obtain ⟨he, hp⟩ := hE
  have bel := hp.below
  subst he
  exact ⟨_, rfl, _, _, _, [], _, [], hW', trodAll_mk1 (shut_bool Try.underlying4 _), (trodAll_cons_mk (Below.trod laidOut (by kernel_rfl) (of_decide_eq_true (by kernel_rfl)) k0 bel lt0) (trodAll_cons_mk (Below.trod laidOut (by kernel_rfl) (of_decide_eq_true (by kernel_rfl)) k1 bel lt1) (trodAll_cons_mk (Below.trod laidOut (by kernel_rfl) (of_decide_eq_true (by kernel_rfl)) k2 bel lt2) trodAll_mk0))), rfl, bel.frame _, fun h => by cases h⟩

theorem over : Rows.planeWholeRow.holds Try.pinned (OpenSpec.ofChange Rows.planeWholeSpec) :=
  OpenClaim.holds_of_wide 10 Try.f10 rfl rfl rfl rfl rfl rfl rfl ⟨rfl, rfl, rfl, rfl, rfl⟩ rfl rfl rfl rfl rfl (by kernel_rfl) Try.func10 (by kernel_rfl)
    (of_decide_eq_true (by kernel_rfl)) (by unfold Func.isWrapper; first | (rw [if_pos (by decide +kernel)]; kernel_rfl) | (rw [if_neg (by decide +kernel)]; exact ⟨rfl, rfl⟩))
    (fun os started H enc _ => lifted os started H enc)

theorem proved : Rows.PlaneWholeSaid := over
#print axioms proved
end Go.Proofs.Yteifkccomfdciaa.planeWhole
