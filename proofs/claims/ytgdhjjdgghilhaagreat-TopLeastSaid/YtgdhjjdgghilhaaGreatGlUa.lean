/- Own library, part Ua: pointers to structs: opened and closed; nil checks of pointers into slices. -/
import Derived.Test.YtgdhjjdgghilhaaGreatGlU
set_option linter.unusedVariables false
set_option linter.unusedSimpArgs false
namespace GL
open Go

variable {S S' : Nat → Prop} {w w' w0 : World} {v u : Value} {T : TypeId} {rs : List Res} {P : Program} {cs : List Value}

theorem RdO.e (h : RdO S w v cs) : RdO S w v [] := by
  obtain ⟨g, h1, h2, _⟩ := h
  exact ⟨g, h1, h2, fun j hj => by simp at hj⟩
theorem cells_po (h : RdO S w v cs) : v.cells = #[v] := by
  obtain ⟨g, rfl, _⟩ := h; rfl
theorem cells_pol (h : RdO S w v cs) : v.cells.toList = [v] := by rw [cells_po h]
theorem ones_po (h : RdO S w v cs) : ([v] : List Value).all (·.oneCell') = true := by
  obtain ⟨g, rfl, _⟩ := h; rfl
theorem hset {α : Type} {xs : List α} {i : Int} {k : Nat} {y : α} (h : 0 ≤ i ∧ i < (xs.length : Int)) : 0 ≤ i ∧ i < ((xs.set k y).length : Int) := by
  rw [List.length_set]; exact h
theorem Hp.eq0 (hp : Hp S w0 w (Res.obj T v cs :: rs)) : optr v 0 = v := (hp.ob (i := 0) rfl).eq0

theorem Sl.ptr {α : Type} [Inhabited α] {E : Ek α} {xs : List α} (h : Sl E w v xs) {i : Int} (h0 : 0 ≤ i) (h1 : i < xs.length) : ∃ p, eptr v i E.n = .pointer (some p) := by
  obtain ⟨b, o, cs, e, _⟩ := Sl.elem h h0 h1
  exact ⟨_, e⟩

section ops
variable {n : Nat} {a : Act} {L : List (Nat × Value)} {ops : Array Oper} {Q : Exit → Act → World → Prop}
  {rest : List Oper} {d : Nat} {ty : TypeId} {pos : String} {af : Array Edge} {g : Option (Nat × Bool)} {x : Operand}
theorem run_nilE (hfr : Fr n a L) (hx : evL L x = some v) (hs : ∃ p, v = .pointer (some p)) (w : World) :
    (execOp a.eval ⟨some d, .nilCheck x, ty, pos, af, g⟩).run P w = .ok (.value v) w := by
  obtain ⟨p, rfl⟩ := hs
  simp [execOp, hfr.ev hx, Sem.run, pure]
theorem st_nilE (hf : Fr n a L) (hd : d < n) (hw : Region.wanted ⟨some d, .nilCheck x, ty, pos, af, g⟩ (yielded ops a.tmps) = true)
    (hx : evL L x = some v) (hs : ∃ p, v = .pointer (some p))
    (h : ∀ a', a' = a.put (some d) v → Fr n a' ((d, v) :: L) → wpList P ops Q rest a' w) :
    wpList P ops Q (⟨some d, .nilCheck x, ty, pos, af, g⟩ :: rest) a w :=
  st_run hf hw rfl hd (run_nilE hf hx hs w) h
theorem dr_nilE {md : Region.Mode} {C : World → Prop} {Nk : List Nat} {M : Act → World → Prop} {m : Nat} {listed : Array Bool} (i : Nat)
    (hi : ops[i]? = some ⟨some d, .nilCheck x, ty, pos, af, g⟩) (hs : Region.noSelect ops = true)
    (hf : Region.free md ops listed i = true) (hr : (Region.ready md ops listed).contains i = true)
    (hfr : Fr n a L) (hd : d < n) (hw : Region.wanted ⟨some d, .nilCheck x, ty, pos, af, g⟩ (yielded ops a.tmps) = true)
    (hx : evL L x = some v) (hsh : ∃ p, v = .pointer (some p))
    (h : ∀ a', Fr n a' ((d, v) :: L) → anyP P md ops (Exit.then M noQ) C Nk m (listed.setIfInBounds i true) a' w) : anyP P md ops (Exit.then M noQ) C Nk (m + 1) listed a w := by
  refine anyP_firstP (v := v) hi (Region.noSelect_spec hs) (fun _ _ _ h => h.elim) m listed a w (Region.free_spec hi hf) (by simpa using hr) (.inl ⟨hw, fun w _ => run_nilE hfr hx hsh w⟩) ?_
  exact h _ (hfr.put hd _)
end ops
end GL
