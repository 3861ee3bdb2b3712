/- Own library, part K: plain helpers: words in range, lists by index, loops that count. -/
import Derived.Test.YtcooefnbolobaaaGlI
import Derived.Laws.BitsLemmas
set_option linter.unusedVariables false
set_option linter.unusedSimpArgs false
namespace GL
open Go

theorem w64 {x : Int} (h0 : -9223372036854775808 ≤ x) (h1 : x < 9223372036854775808) : IntKind.i64.wrap x = x := by
  rw [IntKind.wrap_i64]; omega
theorem wf64 {x : Int} (h : (Lit.int .i64 x).wf = true) : -9223372036854775808 ≤ x ∧ x < 9223372036854775808 := by
  simp [Lit.wf, IntKind.min, IntKind.max, IntKind.bits, IntKind.signed] at h
  omega
theorem wf_u8 {x : Int} (h : (Lit.int .u8 x).wf = true) : 0 ≤ x ∧ x < 256 := by
  simp [Lit.wf, IntKind.min, IntKind.max, IntKind.bits, IntKind.signed] at h
  omega

variable {α : Type} [Inhabited α]

theorem gt_get {xs : List α} {i : Int} (h0 : 0 ≤ i) (h1 : i < xs.length) : gt xs i = xs[i.toNat]'(by omega) := by
  unfold gt
  rw [List.getD_eq_getElem?_getD, List.getElem?_eq_getElem (by omega)]; rfl
theorem gt_nat {xs : List α} {i : Nat} (h : i < xs.length) : gt xs (i : Int) = xs[i] := by
  unfold gt
  rw [Int.toNat_natCast, List.getD_eq_getElem?_getD, List.getElem?_eq_getElem h]; rfl
theorem gt_mem {xs : List α} {i : Int} (h0 : 0 ≤ i) (h1 : i < xs.length) : gt xs i ∈ xs := by
  rw [gt_get h0 h1]; exact List.getElem_mem _

/-- A loop over a counter with a state, 'n' rounds, that goes on as 'g' says. -/
theorem loop_for {σ R : Type} {f : σ × Int → Option ((σ × Int) ⊕ R)} (n : Nat) (g : Nat → σ) (r : R)
    (h1 : ∀ i : Nat, i < n → f (g i, (i : Int)) = some (.inl (g (i + 1), ((i + 1 : Nat) : Int)))) (h2 : f (g n, (n : Int)) = some (.inr r)) : loop f (g 0, 0) = some r := by
  have : ∀ k i : Nat, i + k = n → loop f (g i, (i : Int)) = some r := by
    intro k
    induction k with
    | zero => intro i hi; obtain rfl : i = n := by omega
              exact loop_done h2
    | succ k ih => intro i hi; rw [loop_step (h1 i (by omega))]; exact ih (i + 1) (by omega)
  exact this n 0 (by omega)
/-- The same with the counter alone. -/
theorem loop_for1 {R : Type} {f : Int → Option (Int ⊕ R)} (n : Nat) (r : R)
    (h1 : ∀ i : Nat, i < n → f (i : Int) = some (.inl ((i + 1 : Nat) : Int))) (h2 : f (n : Int) = some (.inr r)) : loop f 0 = some r := by
  have : ∀ k i : Nat, i + k = n → loop f (i : Int) = some r := by
    intro k
    induction k with
    | zero => intro i hi; obtain rfl : i = n := by omega
              exact loop_done h2
    | succ k ih => intro i hi; rw [loop_step (h1 i (by omega))]; exact ih (i + 1) (by omega)
  exact this n 0 (by omega)

/-- Comparing two lists of one length, element by element: equal lists. -/
theorem loop_same {R : Type} {f : Int → Option (Int ⊕ (Unit ⊕ R))} (a : List α) (neq : α → α → Bool) (hn : ∀ x, neq x x = false) (hl : (a.length : Int) < 9223372036854775807) (r : R)
    (hf : ∀ i, f i = (if (decide (i < (a.length : Int))) = true then (if 0 ≤ i ∧ i < (a.length : Int) then (if 0 ≤ i ∧ i < (a.length : Int) then (if (neq (gt a i) (gt a i)) = true then (some (Sum.inr (Sum.inr r))) else (some (Sum.inl (IntKind.i64.wrap (i + 1))))) else none) else none) else (some (Sum.inr (Sum.inl ()))))) :
    loop f 0 = some (.inl ()) := by
  refine loop_for1 a.length _ (fun i hi => ?_) ?_
  · rw [hf, if_pos (by simpa using hi), if_pos (by omega), if_pos (by omega), hn, if_neg (by simp), w64 (by omega) (by omega)]; rfl
  · rw [hf, if_neg (by simp)]
end GL
