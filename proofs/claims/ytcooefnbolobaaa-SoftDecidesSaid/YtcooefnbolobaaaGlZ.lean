/- Own library, part Z: from what a law is handed to what her walk is told: small arrays, structs in slices. -/
import Derived.Test.YtcooefnbolobaaaGlV
import Derived.OpenShut
set_option linter.unusedVariables false
set_option linter.unusedSimpArgs false
namespace GL
open Go Go.Deep Go.ChangeShapes Go.WideShapes Go.RowKit

variable {α β γ : Type} {P : Program}
section
variable {H : Type} {enc : TypeId × Value → H} {w : World} {base : Nat} {spare : Nat → Bool} {held : Bool}
theorem len_two {l : List α} (h : l.length = 2) : ∃ a b, l = [a, b] := by
  match l, h with
  | [a, b], _ => exact ⟨a, b, rfl⟩
theorem len_three {l : List α} (h : l.length = 3) : ∃ a b c, l = [a, b, c] := by
  match l, h with
  | [a, b, c], _ => exact ⟨a, b, c, rfl⟩
theorem arr2 {T e : TypeId} {n : Nat} {c0 c1 : Value} {y : DataW H × List MemPlace} (h : P.underlying T = some (.array 2 e)) (hc : P.cellsOf e = 1) (hy : DataW.trod enc P w base spare held n T [c0, c1] = some y) :
    ∃ m y0 y1, DataW.trod enc P w base spare held m e [c0] = some y0 ∧ DataW.trod enc P w base spare held m e [c1] = some y1 := by
  obtain ⟨xs, m, _, _, _, hxl, hel⟩ := DataW.trod_array h hy
  obtain ⟨x0, x1, rfl⟩ := len_two hxl
  have h0 := hel 0 (by decide); have h1 := hel 1 (by decide)
  rw [hc] at h0 h1
  exact ⟨m, x0, x1, h0, h1⟩
theorem arr2_len {T e : TypeId} {n : Nat} {cs : List Value} {y : DataW H × List MemPlace} (h : P.underlying T = some (.array 2 e)) (hT : P.cellsOf T = 2) (hy : DataW.trod enc P w base spare held n T cs = some y) : ∃ c0 c1, cs = [c0, c1] := by
  obtain ⟨xs, m, _, _, hl, _⟩ := DataW.trod_array h hy
  exact len_two (by rw [hl, hT])
theorem fldF {T : TypeId} {n : Nat} {c : Value} {y : DataW H × List MemPlace} (h : P.underlying T = some (.float .f64)) (hy : DataW.trod enc P w base spare held n T [c] = some y) : ∃ b, c = .float .f64 b ∧ (Lit.float .f64 b).wf = true := by
  obtain ⟨a, h1, b, rfl, h2⟩ := OpenC.f64 h _ _ _ _ _ _ _ _ _ hy
  obtain ⟨b', h3, h4⟩ := h1
  obtain rfl : b' = b := h4
  exact ⟨b', by simpa using h3, h2⟩
theorem openArr {t e : TypeId} {v : Value} {d : DataW H} {ps : List MemPlace} {W : World} {r : Reach} {b0 : Nat} (ht : P.underlying t = some (.array 2 e)) (hN : P.cellsOf t = 2) (hc : P.cellsOf e = 1) (hv : Value.okWide P W r b0 t v) (h : DataW.Trod enc P w base spare held t v d ps) :
    ∃ c0 c1, v = .agg #[c0, c1] ∧ ∃ m y0 y1, DataW.trod enc P w base spare held m e [c0] = some y0 ∧ DataW.trod enc P w base spare held m e [c1] = some y1 := by
  have hva : ∃ cs : Array Value, v = .agg cs := by
    unfold Value.okWide at hv
    rw [ht] at hv
    obtain ⟨cs, h1, _⟩ := hv
    exact ⟨cs, h1⟩
  obtain ⟨⟨cs⟩, rfl⟩ := hva
  obtain ⟨fuel, hf⟩ := h
  have hf' : DataW.trod enc P w base spare held fuel t cs = some (d, ps) := by simpa [Value.cells] using hf
  obtain ⟨c0, c1, rfl⟩ := arr2_len ht hN hf'
  exact ⟨c0, c1, rfl, arr2 ht hc hf'⟩
theorem openFldK {fs : Array Field} {cs : List Value} {ds : List (DataW H)}
    (hF : ∀ (i : Nat) (f : Field), fs[i]? = some f → ∃ di pi n, ds[i]? = some di ∧ DataW.trod enc P w base spare held n f.type ((cs.drop f.offset).take (P.cellsOf f.type)) = some (di, pi))
    (i : Nat) (f : Field) (hf : fs[i]? = some f) {k : Nat} (hk : P.cellsOf f.type = k) {l : List Value} (hc : (cs.drop f.offset).take k = l) :
    ∃ n y, DataW.trod enc P w base spare held n f.type l = some y := by
  obtain ⟨di, pi, n, h2, h3⟩ := hF i f hf
  rw [hk, hc] at h3
  exact ⟨n, _, h3⟩
end
theorem OpenC.arr2 {E : Ek α} {T e : TypeId} {good : α → Prop} (h : P.underlying T = some (.array 2 e)) (hc : P.cellsOf e = 1) (hT : P.cellsOf T = 2) (ho : OpenC P E e good) : OpenC P (Ek.pair E E) T (fun x => good x.1 ∧ good x.2) := by
  intro H enc w base spare held n cs y hy
  obtain ⟨c0, c1, rfl⟩ := arr2_len h hT hy
  obtain ⟨m, y0, y1, h0, h1⟩ := GL.arr2 h hc hy
  obtain ⟨x0, r0, g0⟩ := ho _ _ _ _ _ _ _ _ _ h0
  obtain ⟨x1, r1, g1⟩ := ho _ _ _ _ _ _ _ _ _ h1
  exact ⟨(x0, x1), ⟨[c0], [c1], rfl, r0, r1⟩, g0, g1⟩
theorem OpenC.struct3 {A : Ek α} {B : Ek β} {C : Ek γ} {T : TypeId} {f0 f1 f2 : Field} {ga : α → Prop} {gb : β → Prop} {gc : γ → Prop} (h : P.underlying T = some (.struct #[f0, f1, f2])) (hT : P.cellsOf T = 3)
    (o0 : f0.offset = 0) (o1 : f1.offset = 1) (o2 : f2.offset = 2) (h0 : P.cellsOf f0.type = 1) (h1 : P.cellsOf f1.type = 1) (h2 : P.cellsOf f2.type = 1)
    (p0 : OpenC P A f0.type ga) (p1 : OpenC P B f1.type gb) (p2 : OpenC P C f2.type gc) : OpenC P (Ek.pair A (Ek.pair B C)) T (fun x => ga x.1 ∧ gb x.2.1 ∧ gc x.2.2) := by
  intro H enc w base spare held n cs y hy
  obtain ⟨xs, m, _, _, hl, hxl, hF⟩ := DataW.trod_struct h hy
  rw [hT] at hl
  obtain ⟨c0, c1, c2, rfl⟩ := len_three hl
  obtain ⟨x0, x1, x2, rfl⟩ := len_three (l := xs) (by simpa using hxl)
  have e0 := hF 0 f0 rfl; have e1 := hF 1 f1 rfl; have e2 := hF 2 f2 rfl
  rw [o0, h0] at e0; rw [o1, h1] at e1; rw [o2, h2] at e2
  obtain ⟨a, r0, g0⟩ := p0 _ _ _ _ _ _ _ _ _ e0
  obtain ⟨b, r1, g1⟩ := p1 _ _ _ _ _ _ _ _ _ e1
  obtain ⟨c, r2, g2⟩ := p2 _ _ _ _ _ _ _ _ _ e2
  exact ⟨(a, b, c), ⟨[c0], [c1, c2], rfl, r0, ⟨[c1], [c2], rfl, r1, r2⟩⟩, g0, g1, g2⟩
theorem len_four {l : List α} (h : l.length = 4) : ∃ a b c d, l = [a, b, c, d] := by
  match l, h with
  | [a, b, c, d], _ => exact ⟨a, b, c, d, rfl⟩
theorem OpenC.struct4 {δ : Type} {A : Ek α} {B : Ek β} {C : Ek γ} {D : Ek δ} {T : TypeId} {f0 f1 f2 f3 : Field} {ga : α → Prop} {gb : β → Prop} {gc : γ → Prop} {gd : δ → Prop} (s0 s1 s2 s3 : Nat) (h : P.underlying T = some (.struct #[f0, f1, f2, f3])) (hT : P.cellsOf T = s0 + s1 + s2 + s3)
    (o0 : f0.offset = 0) (o1 : f1.offset = s0) (o2 : f2.offset = s0 + s1) (o3 : f3.offset = s0 + s1 + s2) (h0 : P.cellsOf f0.type = s0) (h1 : P.cellsOf f1.type = s1) (h2 : P.cellsOf f2.type = s2) (h3 : P.cellsOf f3.type = s3)
    (p0 : OpenC P A f0.type ga) (p1 : OpenC P B f1.type gb) (p2 : OpenC P C f2.type gc) (p3 : OpenC P D f3.type gd) : OpenC P (Ek.pair A (Ek.pair B (Ek.pair C D))) T (fun x => ga x.1 ∧ gb x.2.1 ∧ gc x.2.2.1 ∧ gd x.2.2.2) := by
  intro H enc w base spare held n cs y hy
  obtain ⟨xs, m, _, _, hl, hxl, hF⟩ := DataW.trod_struct h hy
  rw [hT] at hl
  obtain ⟨x0, x1, x2, x3, rfl⟩ := len_four (l := xs) (by simpa using hxl)
  have e0 := hF 0 f0 rfl; have e1 := hF 1 f1 rfl; have e2 := hF 2 f2 rfl; have e3 := hF 3 f3 rfl
  rw [o0, h0] at e0; rw [o1, h1] at e1; rw [o2, h2] at e2; rw [o3, h3] at e3
  obtain ⟨a, r0, g0⟩ := p0 _ _ _ _ _ _ _ _ _ e0
  obtain ⟨b, r1, g1⟩ := p1 _ _ _ _ _ _ _ _ _ e1
  obtain ⟨c, r2, g2⟩ := p2 _ _ _ _ _ _ _ _ _ e2
  obtain ⟨d, r3, g3⟩ := p3 _ _ _ _ _ _ _ _ _ e3
  refine ⟨(a, b, c, d), ⟨cs.take s0, cs.drop s0, (List.take_append_drop _ _).symm, by simpa using r0, ⟨(cs.drop s0).take s1, (cs.drop s0).drop s1, (List.take_append_drop _ _).symm, r1, ⟨((cs.drop s0).drop s1).take s2, ((cs.drop s0).drop s1).drop s2, (List.take_append_drop _ _).symm, ?_, ?_⟩⟩⟩, g0, g1, g2, g3⟩
  · rw [List.drop_drop]; exact r2
  · rw [List.drop_drop, List.drop_drop]
    rw [List.take_of_length_le (by simp; omega)] at r3
    rw [show s0 + (s1 + s2) = s0 + s1 + s2 by omega]
    exact r3
end GL
namespace GL
open Go Go.Deep Go.ChangeShapes Go.WideShapes Go.RowKit
/-- a slice that is a field, and how long it is -/
theorem fldS2 {α H : Type} {enc : TypeId × Value → H} {P : Program} {w : World} {base : Nat} {spare : Nat → Bool} {held : Bool} {E : Ek α} {T e : TypeId} {good : α → Prop} {n : Nat} {c : Value} {d : DataW H} {ps : List MemPlace} (ht : P.underlying T = some (.slice e)) (hc : P.cellsOf e = E.n) (ho : OpenC P E e good)
    (hy : DataW.trod enc P w base spare held n T [c] = some (d, ps)) :
    ∃ xs : List α, RdS E (fun k => k < w.heap.size) w c xs ∧ (∀ x ∈ xs, good x) ∧ (0 < xs.length → ∃ el sp, d = .slice el sp ∧ el.length = xs.length) := by
  have hsl : ∃ a l cp, c = .slice a l cp := by
    rcases open_slice ht hy with ⟨hcs, _⟩ | ⟨x, l, cp, m, n', D, Pl, hcs, _⟩
    · simp at hcs; exact ⟨_, _, _, hcs⟩
    · simp at hcs; exact ⟨_, _, _, hcs⟩
  obtain ⟨a, l, cp, rfl⟩ := hsl
  exact openS ht hc ho ⟨a, l, cp, rfl⟩ ⟨n, by simpa [Value.cells] using hy⟩
/-- the weights of a struct's fields -/
theorem reachAgg {H : Type} {P : Program} {ts : List TypeId} {ds parts : List (DataW H)} {t : TypeId} {fs : Array Field} (hsz : (DataW.weightsEach P ts ds).all (· ≤ reachBytes) = true) (j : Nat) (ht : ts[j]? = some t) (hd : ds[j]? = some (.agg parts))
    (hu : P.underlying t = some (.struct fs)) : (DataW.weightsEach P (fs.toList.map (·.type)) parts).all (· ≤ reachBytes) = true := by
  rw [List.all_eq_true] at hsz ⊢
  exact fun n hn => hsz n (DataW.weights_mem_each ht hd n (by simp only [DataW.weights, hu]; exact hn))
end GL

