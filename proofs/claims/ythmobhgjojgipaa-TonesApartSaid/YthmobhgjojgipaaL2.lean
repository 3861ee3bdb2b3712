/- TonesApart: the given statement, from the walk and the plain proof. Printed by lawrow.py on the frame of the kit's shell. -/
import Derived.Test.YthmobhgjojgipaaRows
import Derived.WalkKit
import Derived.ProofKit
import Derived.OpenShut
import Derived.ShutString
import Derived.ChangeOld
import Derived.Below
import Derived.SizedLaws
import Derived.Test.YthmobhgjojgipaaGlZ
import Derived.Test.YthmobhgjojgipaaU2
namespace Go.Proofs.Ythmobhgjojgipaa.tonesApart
open Go.ChangeShapes Go.WideShapes Go.ChangeAt Go.RowKit
open Go.ChangeMaps (open_string shut_string)
set_option linter.unusedVariables false

theorem own : ownKnob Try.prog.godebug = none := by kernel_rfl
theorem laidOut : laidOutB Try.prog = true := by kernel_rfl

set_option maxRecDepth 100000 in
theorem lifted (os : Os) (started : os.Started) (H : Type) (enc : TypeId × Value → H) :
    ReturnsInHanded {} Try.checked os 4 .any (Rows.tonesApartSpec.pre6 enc Try.prog Try.f4 Rows.tonesApartRow.domain false) (Rows.tonesApartSpec.post enc Try.prog Try.f4 false true false false) := by
  refine returnsInHanded_of_change_sized (C := Try.checked) own started (by kernel_rfl) Try.func4
    (ChangeSpec.witness6 (enc := enc) (C := Try.checked) false ⟨#[], #[.agg #[.int .i64 0, .int .i64 0, .int .i64 0, .int .i64 0], .int .i16 0, .int .i16 0], []⟩ 8 (by kernel_rfl) (by kernel_rfl) (by kernel_rfl) (by kernel_rfl)) ?_
  intro W base args ds gs before hval0 hW hcnd hsz0 _
  have hsz : (DataW.weightsEach Try.prog (Try.f4.params.toList ++ Rows.tonesApartSpec.plain.varTypes Try.prog) (ds ++ gs)).all (· ≤ reachBytes) = true := hsz0
  have hval : ∀ (j : Nat) t v, Try.f4.params[j]? = some t → args[j]? = some v → Value.okWide Try.prog W .any base t v := hval0
  have hW' := hW
  obtain ⟨p, q, hA0, hV, rfl, hfz, hnd⟩ := hW
  have hA : DataW.TrodAll enc Try.prog W 0 (fun _ => true) true Try.f4.params.toList args.toList ds p := hA0
  rw [Try.params4] at hA hval hsz
  obtain ⟨v0, vs0, d0, ds0, p0, q0, hargs, rfl, rfl, h0, r0⟩ := trodAll_cons hA
  obtain ⟨v1, vs1, d1, ds1, p1, q1, rfl, rfl, rfl, h1, r1⟩ := trodAll_cons r0
  obtain ⟨v2, vs2, d2, ds2, p2, q2, rfl, rfl, rfl, h2, r2⟩ := trodAll_cons r1
  obtain ⟨rfl, rfl, rfl⟩ := trodAll_nil r2
  obtain rfl : args = #[v0, v1, v2] := by cases args; simp_all
  obtain ⟨rfl, rfl⟩ := trodVars_none hV
  have k0 := h0
  have lt0 : ∀ x ∈ p0, x.block < W.heap.size := by obtain ⟨m, hm⟩ := k0; exact DataW.trod_lt m _ _ _ hm
  obtain ⟨cs0, rfl, l0_0, D0, rfl, _, F0⟩ := GL.openAgg (N := 4) Try.underlying40 (by kernel_rfl) (hval 0 40 v0 rfl rfl) h0
  obtain ⟨c0_0, t0_0, rfl, l0_1⟩ := GL.len_succ l0_0
  obtain ⟨c0_1, t0_1, rfl, l0_2⟩ := GL.len_succ l0_1
  obtain ⟨c0_2, t0_2, rfl, l0_3⟩ := GL.len_succ l0_2
  obtain ⟨c0_3, t0_3, rfl, l0_4⟩ := GL.len_succ l0_3
  obtain rfl := List.eq_nil_of_length_eq_zero l0_4
  obtain ⟨_, _, _, M0_0, K0_0⟩ := GL.openFld1 F0 0 _ rfl (by kernel_rfl) rfl
  obtain ⟨a0_0, rfl, w0_0⟩ := GL.fldI Try.underlying3 K0_0
  obtain ⟨_, _, _, M0_1, K0_1⟩ := GL.openFld1 F0 1 _ rfl (by kernel_rfl) rfl
  obtain ⟨a0_1, rfl, w0_1⟩ := GL.fldI Try.underlying3 K0_1
  obtain ⟨_, _, _, M0_2, K0_2⟩ := GL.openFld1 F0 2 _ rfl (by kernel_rfl) rfl
  obtain ⟨a0_2, rfl, w0_2⟩ := GL.fldI Try.underlying3 K0_2
  obtain ⟨_, _, _, M0_3, K0_3⟩ := GL.openFld1 F0 3 _ rfl (by kernel_rfl) rfl
  obtain ⟨a0_3, rfl, w0_3⟩ := GL.fldI Try.underlying3 K0_3
  obtain ⟨a1, rfl, rfl, rfl, w1⟩ := open_int Try.underlying41 (hval 1 41 v1 rfl rfl) h1
  obtain ⟨a2, rfl, rfl, rfl, w2⟩ := open_int Try.underlying41 (hval 2 41 v2 rfl rfl) h2
  clear hA0 hval0
  refine (f_foghornlaw09_TonesApart_c (GL.Hp.begin W) a0_0 a0_1 a0_2 a0_3 a1 a2 (apart_true a0_0 w0_0 a0_1 w0_1 a0_2 w0_2 a0_3 w0_3 a1 w1 a2 w2)).mono fun e W' hE => ?_
  obtain ⟨he, hp⟩ := hE
  have bel := hp.below
  subst he
  exact ⟨_, rfl, _, _, _, [], _, [], hW', trodAll_mk1 (shut_bool Try.underlying4 _), (trodAll_cons_mk (Below.trod laidOut (by kernel_rfl) (of_decide_eq_true (by kernel_rfl)) k0 bel lt0) (trodAll_cons_mk (shut_int Try.underlying41 w1) (trodAll_cons_mk (shut_int Try.underlying41 w2) trodAll_mk0))), rfl, bel.frame _, fun h => by cases h⟩

theorem over : Rows.tonesApartRow.holds Try.pinned (OpenSpec.ofChange Rows.tonesApartSpec) :=
  OpenClaim.holds_of_wide 4 Try.f4 rfl rfl rfl rfl rfl rfl rfl ⟨rfl, rfl, rfl, rfl, rfl⟩ rfl rfl rfl rfl rfl (by kernel_rfl) Try.func4 (by kernel_rfl)
    (of_decide_eq_true (by kernel_rfl)) (by unfold Func.isWrapper; first | (rw [if_pos (by decide +kernel)]; kernel_rfl) | (rw [if_neg (by decide +kernel)]; exact ⟨rfl, rfl⟩))
    (fun os started H enc _ => lifted os started H enc)

theorem proved : Rows.TonesApartSaid := over
#print axioms proved
end Go.Proofs.Ythmobhgjojgipaa.tonesApart
