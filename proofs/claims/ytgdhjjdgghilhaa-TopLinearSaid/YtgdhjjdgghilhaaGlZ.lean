/- Own library, part Z: from what a law is handed to what her walk is told: small arrays, structs in slices. -/
import Derived.Test.YtgdhjjdgghilhaaGlV
import Derived.OpenShut
set_option linter.unusedVariables false
set_option linter.unusedSimpArgs false
namespace GL
open Go Go.Deep Go.ChangeShapes Go.WideShapes Go.RowKit

variable {α β γ : Type} {P : Program}
section
variable {H : Type} {enc : TypeId × Value → H} {w : World} {base : Nat} {spare : Nat → Bool} {held : Bool}
end
end GL
namespace GL
open Go Go.Deep Go.ChangeShapes Go.WideShapes Go.RowKit
/-- a slice that is a field, and how long it is -/
theorem fldS2 {α H : Type} {enc : TypeId × Value → H} {P : Program} {w : World} {base : Nat} {spare : Nat → Bool} {held : Bool} {E : Ek α} {T e : TypeId} {good : α → Prop} {n : Nat} {c : Value} {d : DataW H} {ps : List MemPlace} (ht : P.underlying T = some (.slice e)) (hc : P.cellsOf e = E.n) (ho : OpenC P E e good)
    (hy : DataW.trod enc P w base spare held n T [c] = some (d, ps)) :
    ∃ xs : List α, RdS E (fun k => k < w.heap.size) w c xs ∧ (∀ x ∈ xs, good x) ∧ (0 < xs.length → ∃ el sp, d = .slice el sp ∧ el.length = xs.length) := by
  have hsl : ∃ a l cp, c = .slice a l cp := by
    rcases open_slice ht hy with ⟨hcs, _⟩ | ⟨x, l, cp, m, n', D, Pl, hcs, _⟩
    · simp at hcs; exact ⟨_, _, _, hcs⟩
    · simp at hcs; exact ⟨_, _, _, hcs⟩
  obtain ⟨a, l, cp, rfl⟩ := hsl
  exact openS ht hc ho ⟨a, l, cp, rfl⟩ ⟨n, by simpa [Value.cells] using hy⟩
/-- the weights of a struct's fields -/
theorem reachAgg {H : Type} {P : Program} {ts : List TypeId} {ds parts : List (DataW H)} {t : TypeId} {fs : Array Field} (hsz : (DataW.weightsEach P ts ds).all (· ≤ reachBytes) = true) (j : Nat) (ht : ts[j]? = some t) (hd : ds[j]? = some (.agg parts))
    (hu : P.underlying t = some (.struct fs)) : (DataW.weightsEach P (fs.toList.map (·.type)) parts).all (· ≤ reachBytes) = true := by
  rw [List.all_eq_true] at hsz ⊢
  exact fun n hn => hsz n (DataW.weights_mem_each ht hd n (by simp only [DataW.weights, hu]; exact hn))
end GL

