/- Own library, part W: plain helpers: bits of words. -/
import Derived.Test.YtgdhjjdgghilhaaGlK
set_option linter.unusedVariables false
set_option linter.unusedSimpArgs false
namespace GL
open Go

theorem ofInt_toNat (m a : Nat) : (BitVec.ofInt m (a : Int)).toNat = a % 2 ^ m := by
  rw [BitVec.ofInt_natCast, BitVec.toNat_ofNat]
theorem iand64 {a b : Nat} (ha : a < 9223372036854775808) (hb : b < 9223372036854775808) : iand .i64 (a : Int) (b : Int) = ((a &&& b : Nat) : Int) := by
  unfold iand
  have hle : a &&& b ≤ a := Nat.and_le_left
  rw [BitVec.toNat_and, show IntKind.i64.bits = 64 from rfl, ofInt_toNat, ofInt_toNat, Nat.mod_eq_of_lt (by omega), Nat.mod_eq_of_lt (by omega), w64 (by omega) (by omega)]
theorem ishr_nat {k : IntKind} {a s : Nat} (hs : s ≤ k.bits) : ishr k (a : Int) (s : Int) = ((a / 2 ^ s : Nat) : Int) := by
  unfold ishr
  rw [Int.toNat_natCast, Nat.min_eq_left hs, show (2 : Int) ^ s = ((2 ^ s : Nat) : Int) by simp, Int.fdiv_eq_ediv_of_nonneg _ (Int.natCast_nonneg _)]; rfl
theorem imin_nat (a b : Nat) : imin (a : Int) (b : Int) = ((min a b : Nat) : Int) := by
  unfold imin; split <;> omega
theorem tdiv_nat (a b : Nat) : ((a : Int)).tdiv (b : Int) = ((a / b : Nat) : Int) := by
  rw [Int.tdiv_eq_ediv_of_nonneg (by omega)]; rfl
end GL
