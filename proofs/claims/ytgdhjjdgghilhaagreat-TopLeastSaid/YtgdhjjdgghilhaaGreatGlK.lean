/- Own library, part K: plain helpers: words in range, lists by index, loops that count. -/
import Derived.Test.YtgdhjjdgghilhaaGreatGlI
import Derived.Laws.BitsLemmas
set_option linter.unusedVariables false
set_option linter.unusedSimpArgs false
namespace GL
open Go

theorem w64 {x : Int} (h0 : -9223372036854775808 ≤ x) (h1 : x < 9223372036854775808) : IntKind.i64.wrap x = x := by
  rw [IntKind.wrap_i64]; omega
variable {α : Type} [Inhabited α]

theorem gt_get {xs : List α} {i : Int} (h0 : 0 ≤ i) (h1 : i < xs.length) : gt xs i = xs[i.toNat]'(by omega) := by
  unfold gt
  rw [List.getD_eq_getElem?_getD, List.getElem?_eq_getElem (by omega)]; rfl
theorem gt_nat {xs : List α} {i : Nat} (h : i < xs.length) : gt xs (i : Int) = xs[i] := by
  unfold gt
  rw [Int.toNat_natCast, List.getD_eq_getElem?_getD, List.getElem?_eq_getElem h]; rfl
theorem gt_mem {xs : List α} {i : Int} (h0 : 0 ≤ i) (h1 : i < xs.length) : gt xs i ∈ xs := by
  rw [gt_get h0 h1]; exact List.getElem_mem _

theorem loop_for {σ R : Type} {f : σ × Int → Option ((σ × Int) ⊕ R)} (n : Nat) (g : Nat → σ) (r : R)
    (h1 : ∀ i : Nat, i < n → f (g i, (i : Int)) = some (.inl (g (i + 1), ((i + 1 : Nat) : Int)))) (h2 : f (g n, (n : Int)) = some (.inr r)) : loop f (g 0, 0) = some r := by
  have : ∀ k i : Nat, i + k = n → loop f (g i, (i : Int)) = some r := by
    intro k
    induction k with
    | zero => intro i hi; obtain rfl : i = n := by omega
              exact loop_done h2
    | succ k ih => intro i hi; rw [loop_step (h1 i (by omega))]; exact ih (i + 1) (by omega)
  exact this n 0 (by omega)
theorem loop_for1 {R : Type} {f : Int → Option (Int ⊕ R)} (n : Nat) (r : R)
    (h1 : ∀ i : Nat, i < n → f (i : Int) = some (.inl ((i + 1 : Nat) : Int))) (h2 : f (n : Int) = some (.inr r)) : loop f 0 = some r := by
  have : ∀ k i : Nat, i + k = n → loop f (i : Int) = some r := by
    intro k
    induction k with
    | zero => intro i hi; obtain rfl : i = n := by omega
              exact loop_done h2
    | succ k ih => intro i hi; rw [loop_step (h1 i (by omega))]; exact ih (i + 1) (by omega)
  exact this n 0 (by omega)

end GL
