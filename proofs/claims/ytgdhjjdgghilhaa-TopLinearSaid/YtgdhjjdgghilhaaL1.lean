/- TopLinear: the given statement, from the walk and the plain proof. Printed by lawrow.py on the frame of the kit's shell. -/
import Derived.Test.YtgdhjjdgghilhaaRows
import Derived.WalkKit
import Derived.ProofKit
import Derived.OpenShut
import Derived.ShutString
import Derived.ChangeOld
import Derived.Below
import Derived.SizedLaws
import Derived.Test.YtgdhjjdgghilhaaGlZ
import Derived.Test.YtgdhjjdgghilhaaU1
namespace Go.Proofs.Ytgdhjjdgghilhaa.topLinear
open Go.ChangeShapes Go.WideShapes Go.ChangeAt Go.RowKit
open Go.ChangeMaps (open_string shut_string)
set_option linter.unusedVariables false
set_option linter.unusedSimpArgs false

theorem own : ownKnob Try.prog.godebug = none := by kernel_rfl
theorem laidOut : laidOutB Try.prog = true := by kernel_rfl

set_option maxRecDepth 100000 in
theorem lifted (os : Os) (started : os.Started) (H : Type) (enc : TypeId × Value → H) :
    ReturnsInHanded {} Try.checked os 3 .any (Rows.topLinearSpec.pre6 enc Try.prog Try.f3 Rows.topLinearRow.domain false) (Rows.topLinearSpec.post enc Try.prog Try.f3 false true false false) := by
  refine returnsInHanded_of_change_sized (C := Try.checked) own started (by kernel_rfl) Try.func3
    (ChangeSpec.witness6 (enc := enc) (C := Try.checked) false ⟨#[], #[.agg #[.int .i64 0, .int .i64 0, .int .i64 0, .int .i64 0, .slice none 0 0, .int .i64 0, .int .i64 0, .int .i64 0, .slice none 0 0], .slice none 0 0, .slice none 0 0, .int .i64 0], []⟩ 8 (by kernel_rfl) (by kernel_rfl) (by kernel_rfl) (by kernel_rfl)) ?_
  intro W base args ds gs before hval0 hW hcnd hsz0 _
  have hsz : (DataW.weightsEach Try.prog (Try.f3.params.toList ++ Rows.topLinearSpec.plain.varTypes Try.prog) (ds ++ gs)).all (· ≤ reachBytes) = true := hsz0
  have hval : ∀ (j : Nat) t v, Try.f3.params[j]? = some t → args[j]? = some v → Value.okWide Try.prog W .any base t v := hval0
  have hW' := hW
  obtain ⟨p, q, hA0, hV, rfl, hfz, hnd⟩ := hW
  have hA : DataW.TrodAll enc Try.prog W 0 (fun _ => true) true Try.f3.params.toList args.toList ds p := hA0
  rw [Try.params3] at hA hval hsz
  obtain ⟨v0, vs0, d0, ds0, p0, q0, hargs, rfl, rfl, h0, r0⟩ := trodAll_cons hA
  obtain ⟨v1, vs1, d1, ds1, p1, q1, rfl, rfl, rfl, h1, r1⟩ := trodAll_cons r0
  obtain ⟨v2, vs2, d2, ds2, p2, q2, rfl, rfl, rfl, h2, r2⟩ := trodAll_cons r1
  obtain ⟨v3, vs3, d3, ds3, p3, q3, rfl, rfl, rfl, h3, r3⟩ := trodAll_cons r2
  obtain ⟨rfl, rfl, rfl⟩ := trodAll_nil r3
  obtain rfl : args = #[v0, v1, v2, v3] := by cases args; simp_all
  obtain ⟨rfl, rfl⟩ := trodVars_none hV
  have k0 := h0
  have lt0 : ∀ x ∈ p0, x.block < W.heap.size := by obtain ⟨m, hm⟩ := k0; exact DataW.trod_lt m _ _ _ hm
  obtain ⟨cs0, rfl, l0_0, D0, rfl, _, F0⟩ := GL.openAgg (N := 9) Try.underlying25 (by kernel_rfl) (hval 0 25 v0 rfl rfl) h0
  obtain ⟨c0_0, t0_0, rfl, l0_1⟩ := GL.len_succ l0_0
  obtain ⟨c0_1, t0_1, rfl, l0_2⟩ := GL.len_succ l0_1
  obtain ⟨c0_2, t0_2, rfl, l0_3⟩ := GL.len_succ l0_2
  obtain ⟨c0_3, t0_3, rfl, l0_4⟩ := GL.len_succ l0_3
  obtain ⟨c0_4, t0_4, rfl, l0_5⟩ := GL.len_succ l0_4
  obtain ⟨c0_5, t0_5, rfl, l0_6⟩ := GL.len_succ l0_5
  obtain ⟨c0_6, t0_6, rfl, l0_7⟩ := GL.len_succ l0_6
  obtain ⟨c0_7, t0_7, rfl, l0_8⟩ := GL.len_succ l0_7
  obtain ⟨c0_8, t0_8, rfl, l0_9⟩ := GL.len_succ l0_8
  obtain rfl := List.eq_nil_of_length_eq_zero l0_9
  obtain ⟨_, _, _, M0_0, K0_0⟩ := GL.openFld1 F0 0 _ rfl (by kernel_rfl) rfl
  obtain ⟨a0_0, rfl, w0_0⟩ := GL.fldI Try.underlying3 K0_0
  obtain ⟨_, _, _, M0_1, K0_1⟩ := GL.openFld1 F0 1 _ rfl (by kernel_rfl) rfl
  obtain ⟨a0_1, rfl, w0_1⟩ := GL.fldI Try.underlying3 K0_1
  obtain ⟨_, _, _, M0_2, K0_2⟩ := GL.openFld1 F0 2 _ rfl (by kernel_rfl) rfl
  obtain ⟨a0_2, rfl, w0_2⟩ := GL.fldI Try.underlying3 K0_2
  obtain ⟨_, _, _, M0_3, K0_3⟩ := GL.openFld1 F0 3 _ rfl (by kernel_rfl) rfl
  obtain ⟨a0_3, rfl, w0_3⟩ := GL.fldI Try.underlying3 K0_3
  obtain ⟨_, _, _, M0_4, K0_4⟩ := GL.openFld1 F0 4 _ rfl (by kernel_rfl) rfl
  obtain ⟨a0_4, s0_4, w0_4, e0_4⟩ := GL.fldS2 Try.underlying22 (by kernel_rfl) (GL.OpenC.int Try.underlying3) K0_4
  obtain ⟨_, _, _, M0_5, K0_5⟩ := GL.openFld1 F0 5 _ rfl (by kernel_rfl) rfl
  obtain ⟨a0_5, rfl, w0_5⟩ := GL.fldI Try.underlying3 K0_5
  obtain ⟨_, _, _, M0_6, K0_6⟩ := GL.openFld1 F0 6 _ rfl (by kernel_rfl) rfl
  obtain ⟨a0_6, rfl, w0_6⟩ := GL.fldI Try.underlying3 K0_6
  obtain ⟨_, _, _, M0_7, K0_7⟩ := GL.openFld1 F0 7 _ rfl (by kernel_rfl) rfl
  obtain ⟨a0_7, rfl, w0_7⟩ := GL.fldI Try.underlying3 K0_7
  obtain ⟨_, _, _, M0_8, K0_8⟩ := GL.openFld1 F0 8 _ rfl (by kernel_rfl) rfl
  obtain ⟨a0_8, s0_8, w0_8, e0_8⟩ := GL.fldS2 Try.underlying23 (by kernel_rfl) (GL.OpenC.bool Try.underlying4) K0_8
  have k1 := h1
  have lt1 : ∀ x ∈ p1, x.block < W.heap.size := by obtain ⟨m, hm⟩ := k1; exact DataW.trod_lt m _ _ _ hm
  obtain ⟨a1, s1, w1, e1⟩ := GL.openS Try.underlying22 (by kernel_rfl) (GL.OpenC.int Try.underlying3) (okWide_slice Try.underlying22 (hval 1 22 v1 rfl rfl)) h1
  have k2 := h2
  have lt2 : ∀ x ∈ p2, x.block < W.heap.size := by obtain ⟨m, hm⟩ := k2; exact DataW.trod_lt m _ _ _ hm
  obtain ⟨a2, s2, w2, e2⟩ := GL.openS Try.underlying22 (by kernel_rfl) (GL.OpenC.int Try.underlying3) (okWide_slice Try.underlying22 (hval 2 22 v2 rfl rfl)) h2
  obtain ⟨a3, rfl, rfl, rfl, w3⟩ := open_int Try.underlying3 (hval 3 3 v3 rfl rfl) h3
  clear hA0 hval0
  refine (f_foghorntop_TopLinear_c (GL.Hp.begin W) a0_0 a0_1 a0_2 a0_3 c0_4 a0_4 s0_4 a0_5 a0_6 a0_7 c0_8 a0_8 s0_8 v1 a1 s1 v2 a2 s2 a3 (linear_law a0_0 w0_0 a0_1 w0_1 a0_2 w0_2 a0_3 w0_3 a0_4 w0_4 (GL.reachS (n := 8) (GL.reachAgg hsz 0 rfl rfl Try.underlying25) 4 rfl M0_4 Try.underlying22 (by kernel_rfl) e0_4) a0_5 w0_5 a0_6 w0_6 a0_7 w0_7 a0_8 w0_8 (GL.reachS (n := 1) (GL.reachAgg hsz 0 rfl rfl Try.underlying25) 8 rfl M0_8 Try.underlying23 (by kernel_rfl) e0_8) a1 w1 (GL.reachS (n := 8) hsz 1 rfl rfl Try.underlying22 (by kernel_rfl) e1) a2 w2 (GL.reachS (n := 8) hsz 2 rfl rfl Try.underlying22 (by kernel_rfl) e2) a3 w3)).mono fun e W' hE => ?_
  obtain ⟨he, hp⟩ := hE
  have bel := hp.below
  subst he
  exact ⟨_, rfl, _, _, _, [], _, [], hW', trodAll_mk1 (shut_bool Try.underlying4 _), (trodAll_cons_mk (Below.trod laidOut (by kernel_rfl) (of_decide_eq_true (by kernel_rfl)) k0 bel lt0) (trodAll_cons_mk (Below.trod laidOut (by kernel_rfl) (of_decide_eq_true (by kernel_rfl)) k1 bel lt1) (trodAll_cons_mk (Below.trod laidOut (by kernel_rfl) (of_decide_eq_true (by kernel_rfl)) k2 bel lt2) (trodAll_cons_mk (shut_int Try.underlying3 w3) trodAll_mk0)))), rfl, bel.frame _, fun h => by cases h⟩

theorem over : Rows.topLinearRow.holds Try.pinned (OpenSpec.ofChange Rows.topLinearSpec) :=
  OpenClaim.holds_of_wide 3 Try.f3 rfl rfl rfl rfl rfl rfl rfl ⟨rfl, rfl, rfl, rfl, rfl⟩ rfl rfl rfl rfl rfl (by kernel_rfl) Try.func3 (by kernel_rfl)
    (of_decide_eq_true (by kernel_rfl)) (by unfold Func.isWrapper; first | (rw [if_pos (by decide +kernel)]; kernel_rfl) | (rw [if_neg (by decide +kernel)]; exact ⟨rfl, rfl⟩))
    (fun os started H enc _ => lifted os started H enc)

theorem proved : Rows.TopLinearSaid := over
#print axioms proved
end Go.Proofs.Ytgdhjjdgghilhaa.topLinear
