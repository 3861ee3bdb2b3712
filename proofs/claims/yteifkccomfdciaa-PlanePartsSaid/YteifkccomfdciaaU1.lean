/- PlaneParts: the plain law. -/
import Derived.Test.YteifkccomfdciaaG1
import Derived.Test.YteifkccomfdciaaGlK
import Derived.Test.YteifkccomfdciaaGlW
set_option linter.unusedVariables false
set_option linter.unusedSimpArgs false
set_option maxRecDepth 8000
namespace Go.Proofs.Yteifkccomfdciaa
open GL Go

/-! ### A float against itself -/
theorem fcmp_self (x : Fl) : fcmp x x = some .eq ∨ fcmp x x = none := by
  cases x with
  | nan => exact .inr rfl
  | bits b =>
    simp only [fcmp, Ieee.Format.order]
    cases FloatKind.f64.format.read b with
    | nan s t => exact .inr rfl
    | infinity s => left; simp [Ieee.Datum.order]
    | number s m e => left; simp [Ieee.Datum.order]
theorem floats_self (x : Fl) : f_foghornlaw03_floats x x = some true := by
  unfold f_foghornlaw03_floats feq fne
  rcases fcmp_self x with h | h <;> rw [h] <;> rfl
theorem part_self (x : Fl) (s : Bool) : f_foghornref03_part x x s = some true := by
  unfold f_foghornref03_part feq fne
  rcases fcmp_self x with h | h
  · rw [h]
    cases x with
    | nan => cases h
    | bits b => cases s <;> simp [f_math_Signbit, fbits]
  · rw [h]; rfl
theorem Same_self (z : Fl × Fl) (s : Bool) : f_foghornref03_Same z z s = some true := by
  unfold f_foghornref03_Same
  rw [part_self]
  simp only [Option.bind_some, if_true]
  rw [part_self]; rfl
/-! ### Quarters -/
theorem fneg_fneg (x : Fl) : fneg (fneg x) = x := by
  cases x with
  | nan => rfl
  | bits b =>
    simp only [fneg, Fl.bits.injEq]
    show (b ^^^ 2 ^ 63) ^^^ 2 ^ 63 = b
    rw [Nat.xor_assoc, Nat.xor_self, Nat.xor_zero]
def tn (z : Fl × Fl) : Nat → Fl × Fl
  | 0 => z
  | i + 1 => (fneg (tn z i).2, (tn z i).1)
theorem iand3 (n : Int) : iand .i64 n 3 = n % 4 := by
  have h3 : (BitVec.ofInt IntKind.i64.bits n &&& BitVec.ofInt IntKind.i64.bits 3).toNat = (n % 4).toNat := by
    rw [BitVec.toNat_and]
    show (BitVec.ofInt 64 n).toNat &&& (BitVec.ofInt 64 3).toNat = _
    have e3 : (BitVec.ofInt 64 3).toNat = 2 ^ 2 - 1 := by decide
    rw [e3, Nat.and_two_pow_sub_one_eq_mod, BitVec.toNat_ofInt]
    omega
  unfold iand
  rw [h3, w64 (by omega) (by omega)]; omega
theorem rturn_ok (z : Fl × Fl) (n : Int) (h : -9223372036854775808 ≤ n ∧ n < 9223372036854775808) : f_foghornref03_Turn z n = some (tn z (n % 4).toNat) := by
  have key : ∀ m : Nat, m < 4 → f_foghornref03_Turn.j1 z (m : Int) = some (tn z m) := by
    intro m hm
    have := loop_for (f := f_foghornref03_Turn.s1 (m : Int)) m (fun i => tn z i) (tn z m) (fun i hi => by
      simp only [f_foghornref03_Turn.s1, f_foghornref03_Turn.s1c]
      rw [if_pos (by rw [decide_eq_true_eq]; omega), w64 (by omega) (by omega)]; rfl) (by
      simp only [f_foghornref03_Turn.s1, f_foghornref03_Turn.s1c]
      rw [if_neg (by simp)])
    unfold f_foghornref03_Turn.j1
    rw [show ((z, (0 : Int)) : (Fl × Fl) × Int) = (tn z 0, (0 : Int)) from rfl, this]; rfl
  have hm := Int.tmod_def n 4
  unfold f_foghornref03_Turn
  by_cases hn : n.tmod 4 < 0
  · rw [if_pos (by rw [decide_eq_true_eq]; exact hn)]
    have e : IntKind.i64.wrap (n.tmod 4 + 4) = (((n % 4).toNat : Nat) : Int) := by
      have := Int.lt_tmod_of_pos n (show (0 : Int) < 4 by decide)
      have h1 : n.tmod 4 + 4 = n % 4 := by have := Int.emod_emod_of_dvd n (show (4 : Int) ∣ 4 from ⟨1, rfl⟩); omega
      rw [w64 (by omega) (by omega)]; omega
    rw [e]; exact key _ (by omega)
  · rw [if_neg (by rw [decide_eq_true_eq]; exact hn)]
    have := Int.tmod_lt_of_pos n (show (0 : Int) < 4 by decide)
    have e : n.tmod 4 = (((n % 4).toNat : Nat) : Int) := by omega
    rw [e]; exact key _ (by omega)
theorem turn_ok (z : Fl × Fl) (n : Int) : f_plane_Turn z n = some (tn z (n % 4).toNat) := by
  unfold f_plane_Turn
  rw [iand3]
  have h : n % 4 = 0 ∨ n % 4 = 1 ∨ n % 4 = 2 ∨ n % 4 = 3 := by omega
  rcases h with h | h | h | h <;> rw [h] <;> simp [tn, fneg_fneg]
theorem awake_true : f_foghornlaw03_awake = some true := by
  have h1 : loop (f_plane_Gauss_Class.s1 3) (3, 2, 0, 0) = some 1 := loop_iff.2 ⟨4, by decide +kernel⟩
  have h2 : f_plane_Gauss_Class 3 2 3 = some (1, 0) := by
    unfold f_plane_Gauss_Class
    rw [h1]; rfl
  have h3 : f_plane_Mul (Fl.bits 4607182418800017408, Fl.bits 4611686018427387904) (Fl.bits 4613937818241073152, Fl.bits 13830554455654793216) = some (Fl.bits 4617315517961601024, Fl.bits 4617315517961601024) := by decide +kernel
  have h4 : f_plane_Turn (Fl.bits 4607182418800017408, Fl.bits 4611686018427387904) 1 = some (Fl.bits 13835058055282163712, Fl.bits 4607182418800017408) := by decide +kernel
  unfold f_foghornlaw03_awake
  rw [h2, h3, h4]
  decide +kernel
theorem parts_true (a0 : Nat) (u0 : (Lit.float .f64 a0).wf = true) (a1 : Nat) (u1 : (Lit.float .f64 a1).wf = true) (b0 : Nat) (u2 : (Lit.float .f64 b0).wf = true) (b1 : Nat) (u3 : (Lit.float .f64 b1).wf = true) (n : Int) (w : (Lit.int .i64 n).wf = true) :
    f_foghornlaw03_PlaneParts (.bits a0) (.bits a1) (.bits b0) (.bits b1) n = some true := by
  generalize Fl.bits a0 = x0
  generalize Fl.bits a1 = x1
  generalize Fl.bits b0 = y0
  generalize Fl.bits b1 = y1
  have hn := wf64 w
  have e1 : f_foghornlaw03_number x0 x1 = some (x0, x1) := rfl
  have e2 : f_foghornlaw03_number y0 y1 = some (y0, y1) := rfl
  have e3 : f_foghornref03_Mul (x0, x1) (y0, y1) = f_plane_Mul (x0, x1) (y0, y1) := rfl
  have e4 : f_foghornref03_Conj (x0, x1) = f_plane_Conj (x0, x1) := rfl
  have e5 : ∀ z, f_foghornref03_Norm z = f_plane_Norm z := fun z => rfl
  have e6 : f_foghornref03_Apart (x0, x1) (y0, y1) = f_plane_Apart (x0, x1) (y0, y1) := rfl
  have p1 : f_plane_Mul (x0, x1) (y0, y1) = some (fsub (fmul x0 y0) (fmul x1 y1), fadd (fmul x0 y1) (fmul x1 y0)) := rfl
  have p2 : f_plane_Conj (x0, x1) = some (x0, fneg x1) := rfl
  have p3 : ∀ z, f_plane_Norm z = some (fadd (fmul z.1 z.1) (fmul z.2 z.2)) := fun z => rfl
  have p4 : f_plane_Apart (x0, x1) (y0, y1) = some (fadd (fmul (fsub x0 y0) (fsub x0 y0)) (fmul (fsub x1 y1) (fsub x1 y1))) := rfl
  unfold f_foghornlaw03_PlaneParts
  rw [e1, e2]
  simp only [Option.bind_some]
  rw [e3, e4, e5, e6, p1, p2, p3, p4, turn_ok, rturn_ok _ _ hn, awake_true]
  simp only [Option.bind_some]
  rw [Same_self]
  simp only [Option.bind_some, if_true]
  rw [Same_self]
  simp only [Option.bind_some, if_true]
  rw [Same_self]
  simp only [Option.bind_some, if_true]
  rw [floats_self]
  simp only [Option.bind_some, if_true]
  rw [floats_self]
  rfl

end Go.Proofs.Yteifkccomfdciaa
