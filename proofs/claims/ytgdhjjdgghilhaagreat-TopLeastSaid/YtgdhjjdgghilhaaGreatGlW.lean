/- Own library, part W: plain helpers: bits of words. -/
import Derived.Test.YtgdhjjdgghilhaaGreatGlK
set_option linter.unusedVariables false
set_option linter.unusedSimpArgs false
namespace GL
open Go

theorem w32 {x : Int} (h0 : 0 ≤ x) (h1 : x < 4294967296) : IntKind.u32.wrap x = x := by
  simp [IntKind.wrap, IntKind.bits, IntKind.signed, IntKind.min, IntKind.max]
  omega
theorem w32s {x : Int} (h0 : -2147483648 ≤ x) (h1 : x < 2147483648) : IntKind.i32.wrap x = x := by
  simp [IntKind.wrap, IntKind.bits, IntKind.signed, IntKind.min, IntKind.max]
  omega
theorem ofInt_toNat (m a : Nat) : (BitVec.ofInt m (a : Int)).toNat = a % 2 ^ m := by
  rw [BitVec.ofInt_natCast, BitVec.toNat_ofNat]
theorem iand32 {a b : Nat} (ha : a < 4294967296) (hb : b < 4294967296) : iand .u32 (a : Int) (b : Int) = ((a &&& b : Nat) : Int) := by
  unfold iand
  have hle : a &&& b ≤ a := Nat.and_le_left
  rw [BitVec.toNat_and, show IntKind.u32.bits = 32 from rfl, ofInt_toNat, ofInt_toNat, Nat.mod_eq_of_lt (by omega), Nat.mod_eq_of_lt (by omega), w32 (by omega) (by omega)]
theorem ior32 {a b : Nat} (ha : a < 4294967296) (hb : b < 4294967296) : ior .u32 (a : Int) (b : Int) = ((a ||| b : Nat) : Int) := by
  unfold ior
  have hle : a ||| b < 2 ^ 32 := Nat.or_lt_two_pow (by omega) (by omega)
  rw [BitVec.toNat_or, show IntKind.u32.bits = 32 from rfl, ofInt_toNat, ofInt_toNat, Nat.mod_eq_of_lt (by omega), Nat.mod_eq_of_lt (by omega), w32 (by omega) (by omega)]
theorem ishl32 {a s : Nat} (hs : s ≤ 32) (h : a * 2 ^ s < 4294967296) : ishl .u32 (a : Int) (s : Int) = ((a * 2 ^ s : Nat) : Int) := by
  unfold ishl
  rw [show IntKind.u32.bits = 32 from rfl, Int.toNat_natCast, Nat.min_eq_left hs, show (2 : Int) ^ s = ((2 ^ s : Nat) : Int) by simp, ← Int.natCast_mul, w32 (by omega) (by omega)]
theorem ishl64 {a s : Nat} (hs : s ≤ 64) (h : a * 2 ^ s < 9223372036854775808) : ishl .i64 (a : Int) (s : Int) = ((a * 2 ^ s : Nat) : Int) := by
  unfold ishl
  rw [show IntKind.i64.bits = 64 from rfl, Int.toNat_natCast, Nat.min_eq_left hs, show (2 : Int) ^ s = ((2 ^ s : Nat) : Int) by simp, ← Int.natCast_mul, w64 (by omega) (by omega)]
theorem ishr_nat {k : IntKind} {a s : Nat} (hs : s ≤ k.bits) : ishr k (a : Int) (s : Int) = ((a / 2 ^ s : Nat) : Int) := by
  unfold ishr
  rw [Int.toNat_natCast, Nat.min_eq_left hs, show (2 : Int) ^ s = ((2 ^ s : Nat) : Int) by simp, Int.fdiv_eq_ediv_of_nonneg _ (Int.natCast_nonneg _)]; rfl
theorem imin_nat (a b : Nat) : imin (a : Int) (b : Int) = ((min a b : Nat) : Int) := by
  unfold imin; split <;> omega
theorem imax_nat (a b : Nat) : imax (a : Int) (b : Int) = ((max a b : Nat) : Int) := by
  unfold imax; split <;> omega
theorem tmod_nat (a b : Nat) : ((a : Int)).tmod (b : Int) = ((a % b : Nat) : Int) := by
  rw [Int.tmod_eq_emod_of_nonneg (by omega)]; rfl
theorem tdiv_nat (a b : Nat) : ((a : Int)).tdiv (b : Int) = ((a / b : Nat) : Int) := by
  rw [Int.tdiv_eq_ediv_of_nonneg (by omega)]; rfl
end GL
