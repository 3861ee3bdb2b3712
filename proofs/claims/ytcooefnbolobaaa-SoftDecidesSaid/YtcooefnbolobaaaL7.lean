/- SoftDecides: the given statement, from the walk and the plain proof. Printed by lawrow.py on the frame of the kit's shell. -/
import Derived.Test.YtcooefnbolobaaaRows
import Derived.WalkKit
import Derived.ProofKit
import Derived.OpenShut
import Derived.ShutString
import Derived.ChangeOld
import Derived.Below
import Derived.SizedLaws
import Derived.Test.YtcooefnbolobaaaGlZ
import Derived.Test.YtcooefnbolobaaaU7
namespace Go.Proofs.Ytcooefnbolobaaa.softDecides
open Go.ChangeShapes Go.WideShapes Go.ChangeAt Go.RowKit
open Go.ChangeMaps (open_string shut_string)
set_option linter.unusedVariables false
set_option linter.unusedSimpArgs false

theorem own : ownKnob Try.prog.godebug = none := by kernel_rfl
theorem laidOut : laidOutB Try.prog = true := by kernel_rfl

set_option maxRecDepth 100000 in
theorem lifted (os : Os) (started : os.Started) (H : Type) (enc : TypeId × Value → H) :
    ReturnsInHanded {} Try.checked os 5 .any (Rows.softDecidesSpec.pre6 enc Try.prog Try.f5 Rows.softDecidesRow.domain false) (Rows.softDecidesSpec.post enc Try.prog Try.f5 false true false false) := by
  refine returnsInHanded_of_change_sized (C := Try.checked) own started (by kernel_rfl) Try.func5
    (ChangeSpec.witness6 (enc := enc) (C := Try.checked) false ⟨#[], #[.agg #[.int .i64 0, .int .u32 0, .int .u32 0], .slice none 0 0], []⟩ 8 (by kernel_rfl) (by kernel_rfl) (by kernel_rfl) (by kernel_rfl)) ?_
  intro W base args ds gs before hval0 hW hcnd hsz0 _
  have hsz : (DataW.weightsEach Try.prog (Try.f5.params.toList ++ Rows.softDecidesSpec.plain.varTypes Try.prog) (ds ++ gs)).all (· ≤ reachBytes) = true := hsz0
  have hval : ∀ (j : Nat) t v, Try.f5.params[j]? = some t → args[j]? = some v → Value.okWide Try.prog W .any base t v := hval0
  have hW' := hW
  obtain ⟨p, q, hA0, hV, rfl, hfz, hnd⟩ := hW
  have hA : DataW.TrodAll enc Try.prog W 0 (fun _ => true) true Try.f5.params.toList args.toList ds p := hA0
  rw [Try.params5] at hA hval hsz
  obtain ⟨v0, vs0, d0, ds0, p0, q0, hargs, rfl, rfl, h0, r0⟩ := trodAll_cons hA
  obtain ⟨v1, vs1, d1, ds1, p1, q1, rfl, rfl, rfl, h1, r1⟩ := trodAll_cons r0
  obtain ⟨rfl, rfl, rfl⟩ := trodAll_nil r1
  obtain rfl : args = #[v0, v1] := by cases args; simp_all
  obtain ⟨rfl, rfl⟩ := trodVars_none hV
  have k0 := h0
  have lt0 : ∀ x ∈ p0, x.block < W.heap.size := by obtain ⟨m, hm⟩ := k0; exact DataW.trod_lt m _ _ _ hm
  obtain ⟨cs0, rfl, l0_0, D0, rfl, _, F0⟩ := GL.openAgg (N := 3) Try.underlying24 (by kernel_rfl) (hval 0 24 v0 rfl rfl) h0
  obtain ⟨c0_0, t0_0, rfl, l0_1⟩ := GL.len_succ l0_0
  obtain ⟨c0_1, t0_1, rfl, l0_2⟩ := GL.len_succ l0_1
  obtain ⟨c0_2, t0_2, rfl, l0_3⟩ := GL.len_succ l0_2
  obtain rfl := List.eq_nil_of_length_eq_zero l0_3
  obtain ⟨_, _, _, M0_0, K0_0⟩ := GL.openFld1 F0 0 _ rfl (by kernel_rfl) rfl
  obtain ⟨a0_0, rfl, w0_0⟩ := GL.fldI Try.underlying3 K0_0
  obtain ⟨_, _, _, M0_1, K0_1⟩ := GL.openFld1 F0 1 _ rfl (by kernel_rfl) rfl
  obtain ⟨a0_1, rfl, w0_1⟩ := GL.fldI Try.underlying22 K0_1
  obtain ⟨_, _, _, M0_2, K0_2⟩ := GL.openFld1 F0 2 _ rfl (by kernel_rfl) rfl
  obtain ⟨a0_2, rfl, w0_2⟩ := GL.fldI Try.underlying22 K0_2
  have k1 := h1
  have lt1 : ∀ x ∈ p1, x.block < W.heap.size := by obtain ⟨m, hm⟩ := k1; exact DataW.trod_lt m _ _ _ hm
  obtain ⟨a1, s1, w1, e1⟩ := GL.openS Try.underlying26 (by kernel_rfl) (GL.OpenC.struct3 Try.underlying62 (by kernel_rfl) rfl rfl rfl (by kernel_rfl) (by kernel_rfl) (by kernel_rfl) (GL.OpenC.int Try.underlying21) (GL.OpenC.int Try.underlying21) (GL.OpenC.bool Try.underlying4)) (okWide_slice Try.underlying26 (hval 1 26 v1 rfl rfl)) h1
  clear hA0 hval0
  refine (f_foghornlaw23_SoftDecides_c (GL.Hp.begin W) a0_0 a0_1 a0_2 v1 a1 s1 (decides_true a0_0 w0_0 a0_1 w0_1 a0_2 w0_2 a1 w1 (GL.reachS (n := 12) hsz 1 rfl rfl Try.underlying26 (by kernel_rfl) e1))).mono fun e W' hE => ?_
  obtain ⟨he, hp⟩ := hE
  have bel := hp.below
  subst he
  exact ⟨_, rfl, _, _, _, [], _, [], hW', trodAll_mk1 (shut_bool Try.underlying4 _), (trodAll_cons_mk (Below.trod laidOut (by kernel_rfl) (of_decide_eq_true (by kernel_rfl)) k0 bel lt0) (trodAll_cons_mk (Below.trod laidOut (by kernel_rfl) (of_decide_eq_true (by kernel_rfl)) k1 bel lt1) trodAll_mk0)), rfl, bel.frame _, fun h => by cases h⟩

theorem over : Rows.softDecidesRow.holds Try.pinned (OpenSpec.ofChange Rows.softDecidesSpec) :=
  OpenClaim.holds_of_wide 5 Try.f5 rfl rfl rfl rfl rfl rfl rfl ⟨rfl, rfl, rfl, rfl, rfl⟩ rfl rfl rfl rfl rfl (by kernel_rfl) Try.func5 (by kernel_rfl)
    (of_decide_eq_true (by kernel_rfl)) (by unfold Func.isWrapper; first | (rw [if_pos (by decide +kernel)]; kernel_rfl) | (rw [if_neg (by decide +kernel)]; exact ⟨rfl, rfl⟩))
    (fun os started H enc _ => lifted os started H enc)

theorem proved : Rows.SoftDecidesSaid := over
#print axioms proved
end Go.Proofs.Ytcooefnbolobaaa.softDecides
