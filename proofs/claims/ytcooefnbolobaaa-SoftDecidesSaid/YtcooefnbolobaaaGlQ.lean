/- Own library, part Q: from what a law is handed to what her walk is told: slices of slices. -/
import Derived.Test.YtcooefnbolobaaaGlJ
import Derived.Test.YtcooefnbolobaaaGlP
set_option linter.unusedVariables false
set_option linter.unusedSimpArgs false
namespace GL
open Go Go.Deep Go.ChangeShapes Go.WideShapes Go.RowKit

variable {α β : Type} {P : Program}

theorem openR {E : Ek α} {t e1 e : TypeId} {good : α → Prop} (ht : P.underlying t = some (.slice e1)) (h1 : P.cellsOf e1 = 1) (he : P.underlying e1 = some (.slice e)) (hc : P.cellsOf e = E.n) (ho : OpenC P E e good)
    {H : Type} {enc : TypeId × Value → H} {w : World} {base : Nat} {spare : Nat → Bool} {held : Bool} {v : Value} {d : DataW H} {ps : List MemPlace}
    (hv : ∃ a len cap, v = .slice a len cap) (h : DataW.Trod enc P w base spare held t v d ps) :
    ∃ (vs : List Value) (xss : List (List α)), RdR (RowK.sl E e) (fun k => k < w.heap.size) w v vs (xss.map some) ∧ (∀ xs ∈ xss, ∀ x ∈ xs, good x) ∧
      (0 < xss.length → ∃ el sp, d = .slice el sp ∧ el.length = xss.length ∧
        ∀ (i : Nat) (xs : List α), xss[i]? = some xs → 0 < xs.length → ∃ el' sp', el[i]? = some (.slice el' sp') ∧ el'.length = xs.length) := by
  have hoV : OpenC P Ek.val e1 (fun _ => True) := by
    intro H enc w base spare held n cs y hy
    rcases open_slice he hy with ⟨hcs, _⟩ | ⟨x, l, c, m, n', D, Pl, hcs, _⟩
    · exact ⟨_, ⟨hcs, rfl⟩, trivial⟩
    · exact ⟨_, ⟨hcs, rfl⟩, trivial⟩
  obtain ⟨vs, hs, _, hlen⟩ := openS (E := Ek.val) ht h1 hoV hv h
  by_cases h0 : vs.length = 0
  · have : vs = [] := List.eq_nil_of_length_eq_zero h0
    subst this
    exact ⟨[], [], ⟨hs, rfl, by simp⟩, by simp, by simp⟩
  · obtain ⟨A, cap, rfl, c1, c2, c3⟩ := id hs
    obtain ⟨b, o, cs, rfl, hb, hr, hcell⟩ := c3 (by omega)
    obtain ⟨fuel, hf⟩ := h
    rcases open_slice1 ht h1 hf with ⟨hcs, _⟩ | ⟨x, l, c, m, n, V, D, Pl, hcs, _, hl, hm, hmm, hd, hx⟩
    · simp [Value.cells] at hcs
    · simp only [Value.cells, List.cons.injEq, Value.slice.injEq, Option.some.injEq, and_true] at hcs
      obtain ⟨rfl, rfl, rfl⟩ := hcs
      have hlm : vs.length ≤ m := by rw [hmm]; split <;> omega
      have each : ∀ i, i < vs.length → ∃ xs : List α, vs[i]? = some (V i) ∧ RdS E (fun k => k < w.heap.size) w (V i) xs ∧ (∀ x ∈ xs, good x) ∧ (0 < xs.length → ∃ el sp, D i = .slice el sp ∧ el.length = xs.length) := fun i hi => by
        obtain ⟨k1, k2⟩ := hx i (by omega)
        have hsl : ∃ a l c, V i = .slice a l c := by
          rcases open_slice he k2 with ⟨hcs, _⟩ | ⟨x, l, c, m, n', D, Pl, hcs, _⟩
          · simp at hcs; exact ⟨_, _, _, hcs⟩
          · simp at hcs; exact ⟨_, _, _, hcs⟩
        have hvi : vs[i]? = some (V i) := by
          have e1 := (hr.2 i vs[i] (List.getElem?_eq_getElem hi)).1
          have e2 := hcell i (by have := hr.1; simp only [Ek.val, Nat.mul_one] at this; omega)
          have e3 := congrArg (·[0]?) e1
          simp only [Ek.val, Nat.mul_one, List.getElem?_take_of_lt (Nat.lt_succ_self 0), List.getElem?_drop, Nat.add_zero, List.getElem?_cons_zero] at e3
          rw [Addr.add_lit, e2, e3] at k1
          rw [List.getElem?_eq_getElem hi]; exact k1
        obtain ⟨a, l, c, hVi⟩ := hsl
        obtain ⟨xs, j1, j2, j3⟩ := openS he hc ho ⟨a, l, c, hVi⟩ ⟨n, by rw [hVi] at k2 ⊢; simpa [Value.cells] using k2⟩
        exact ⟨xs, hvi, j1, j2, j3⟩
      haveI : Inhabited (List α) := ⟨[]⟩
      obtain ⟨X, hX⟩ := choose_lt each
      have hg : ∀ (i : Nat) (xs : List α), ((List.range vs.length).map X)[i]? = some xs → i < vs.length ∧ xs = X i := fun i xs hi => by
        have hi' := (List.getElem?_eq_some_iff.1 hi).1
        simp only [List.length_map, List.length_range] at hi'
        refine ⟨hi', ?_⟩
        rw [List.getElem?_map, List.getElem?_range hi'] at hi
        simpa using hi.symm
      refine ⟨vs, (List.range vs.length).map X, ⟨hs, by simp, fun k u y a b => ?_⟩, fun xs hxs => ?_, fun _ => ⟨_, _, (Prod.mk.inj hd).1, by simp, fun i xs hi h0 => ?_⟩⟩
      · have hk := (List.getElem?_eq_some_iff.1 a).1
        obtain ⟨k1, k2, _, _⟩ := hX k hk
        rw [k1] at a
        obtain rfl := Option.some.inj a
        rw [List.getElem?_map, List.getElem?_map, List.getElem?_range hk] at b
        simp at b
        subst b
        exact k2
      · obtain ⟨i, hi, rfl⟩ := List.mem_map.1 hxs
        exact (hX i (by simpa using hi)).2.2.1
      · obtain ⟨hi', rfl⟩ := hg i xs hi
        obtain ⟨el, sp, h1, h2⟩ := (hX i hi').2.2.2 h0
        refine ⟨el, sp, ?_, h2⟩
        rw [List.getElem?_map, List.getElem?_range hi']
        simp [h1]

theorem weightsAll_mem {H : Type} {e : TypeId} {n : Nat} : ∀ {el : List (DataW H)} {i : Nat} {d : DataW H}, el[i]? = some d → n ∈ d.weights P e → n ∈ DataW.weightsAll P e el
  | d0 :: el, 0, d, hi, hn => by
    simp at hi; subst hi
    simp only [DataW.weightsAll, List.mem_append]; exact .inl hn
  | d0 :: el, i + 1, d, hi, hn => by
    simp only [DataW.weightsAll, List.mem_append]; exact .inr (weightsAll_mem (by simpa using hi) hn)
  | [], _, _, hi, _ => by simp at hi

theorem reachR {H : Type} {ts : List TypeId} {ds : List (DataW H)} {n : Nat} {d : DataW H} {xss : List (List α)} {e1 e t : TypeId} (hsz : (DataW.weightsEach P ts ds).all (· ≤ reachBytes) = true) (j : Nat) (ht : ts[j]? = some t) (hd : ds[j]? = some d)
    (hu : P.underlying t = some (.slice e1)) (he : P.underlying e1 = some (.slice e)) (hb1 : P.bytesOf e1 = 24) (hb : P.bytesOf e = n)
    (h : 0 < xss.length → ∃ el sp, d = .slice el sp ∧ el.length = xss.length ∧
        ∀ (i : Nat) (xs : List α), xss[i]? = some xs → 0 < xs.length → ∃ el' sp', el[i]? = some (.slice el' sp') ∧ el'.length = xs.length) :
    xss.length * 24 ≤ 140737488351232 ∧ ∀ xs ∈ xss, xs.length * n ≤ 140737488351232 := by
  by_cases h0 : 0 < xss.length
  · obtain ⟨el, sp, rfl, hl, hin⟩ := h h0
    constructor
    · have := sized_slice hsz ht hd hu
      rw [hb1] at this
      simp only [reachBytes, Nat.add_mul, hl] at this
      omega
    · intro xs hxs
      obtain ⟨i, hi, rfl⟩ := List.getElem_of_mem hxs
      by_cases h1 : 0 < xss[i].length
      · obtain ⟨el', sp', k1, k2⟩ := hin i _ (List.getElem?_eq_getElem hi) h1
        have hm : (el'.length + sp'.length) * P.bytesOf e ∈ DataW.weights P t (.slice el sp) := by
          simp only [DataW.weights, hu]
          exact List.mem_cons_of_mem _ (List.mem_append_left _ (weightsAll_mem k1 (by simp only [DataW.weights, he]; exact List.mem_cons_self)))
        have := List.all_eq_true.1 hsz _ (DataW.weights_mem_each ht hd _ hm)
        rw [hb] at this
        simp only [reachBytes, Nat.add_mul, k2, decide_eq_true_eq] at this
        omega
      · have : xss[i].length = 0 := by omega
        rw [this]; simp
  · have : xss = [] := List.eq_nil_of_length_eq_zero (by omega)
    subst this; simp
end GL
