/- Own library, part V: from what a law is handed to what her walk is told: structs. -/
import Derived.Test.YtgdhjjdgghilhaaGlQ
import Derived.ChangeArms
set_option linter.unusedVariables false
set_option linter.unusedSimpArgs false
namespace GL
open Go Go.Deep Go.ChangeShapes Go.WideShapes Go.RowKit

variable {α β : Type} {P : Program}
theorem len_succ {l : List α} {n : Nat} (h : l.length = n + 1) : ∃ a t, l = a :: t ∧ t.length = n := by
  cases l with
  | nil => simp at h
  | cons a t => exact ⟨a, t, rfl, by simpa using h⟩

section
variable {H : Type} {enc : TypeId × Value → H} {w : World} {base : Nat} {spare : Nat → Bool} {held : Bool}
theorem openAgg {t : TypeId} {fs : Array Field} {N : Nat} {v : Value} {d : DataW H} {ps : List MemPlace} {W : World} {r : Reach} {b0 : Nat} (ht : P.underlying t = some (.struct fs)) (hN : P.cellsOf t = N) (hv : Value.okWide P W r b0 t v) (h : DataW.Trod enc P w base spare held t v d ps) :
    ∃ cs : List Value, v = .agg cs.toArray ∧ cs.length = N ∧ ∃ ds : List (DataW H), d = .agg ds ∧ ds.length = fs.size ∧
      ∀ (i : Nat) (f : Field), fs[i]? = some f → ∃ di pi n, ds[i]? = some di ∧ DataW.trod enc P w base spare held n f.type ((cs.drop f.offset).take (P.cellsOf f.type)) = some (di, pi) := by
  have hva : ∃ cs : Array Value, v = .agg cs := by
    unfold Value.okWide at hv
    rw [ht] at hv
    obtain ⟨cs, h1, _⟩ := hv
    exact ⟨cs, h1⟩
  obtain ⟨cs, rfl⟩ := hva
  obtain ⟨fuel, hf⟩ := h
  obtain ⟨xs, n, _, hx, hl, hxl, hF⟩ := DataW.trod_struct ht hf
  simp only [Prod.mk.injEq] at hx
  refine ⟨cs.toList, by simp, by rw [← hN]; simpa [Value.cells] using hl, xs.map (·.1), hx.1, by simpa using hxl, fun i f hi => ?_⟩
  have hil : i < xs.length := by rw [hxl]; exact (Array.getElem?_eq_some_iff.1 hi).1
  have := hF i f hi
  rw [List.getElem?_eq_getElem hil] at this
  exact ⟨xs[i].1, xs[i].2, n, by simp [List.getElem?_eq_getElem hil], by simpa [Value.cells] using this⟩
theorem openFld1 {fs : Array Field} {cs : List Value} {ds : List (DataW H)}
    (hF : ∀ (i : Nat) (f : Field), fs[i]? = some f → ∃ di pi n, ds[i]? = some di ∧ DataW.trod enc P w base spare held n f.type ((cs.drop f.offset).take (P.cellsOf f.type)) = some (di, pi))
    (i : Nat) (f : Field) (hf : fs[i]? = some f) (h1 : P.cellsOf f.type = 1) {c : Value} (hc : cs[f.offset]? = some c) :
    ∃ di pi n, ds[i]? = some di ∧ DataW.trod enc P w base spare held n f.type [c] = some (di, pi) := by
  obtain ⟨di, pi, n, h2, h3⟩ := hF i f hf
  have ho := (List.getElem?_eq_some_iff.1 hc).1
  rw [h1, List.drop_eq_getElem_cons ho] at h3
  rw [List.getElem?_eq_getElem ho] at hc
  rw [Option.some.inj hc] at h3
  exact ⟨di, pi, n, h2, by simpa using h3⟩
theorem fldI {T : TypeId} {k : IntKind} {n : Nat} {c : Value} {y : DataW H × List MemPlace} (h : P.underlying T = some (.int k)) (hy : DataW.trod enc P w base spare held n T [c] = some y) : ∃ a, c = .int k a ∧ (Lit.int k a).wf = true := by
  obtain ⟨a, h1, h2⟩ := OpenC.int h _ _ _ _ _ _ _ _ _ hy
  exact ⟨a, by simpa [Ek.int] using h1, h2⟩
end
end GL
