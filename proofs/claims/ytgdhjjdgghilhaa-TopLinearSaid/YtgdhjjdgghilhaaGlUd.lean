/- Own library, part Ud: slices that are never written again, inside of elements. -/
import Derived.Test.YtgdhjjdgghilhaaGlUc
set_option linter.unusedVariables false
set_option linter.unusedSimpArgs false
namespace GL
open Go

variable {S S' : Nat → Prop} {w w' w0 : World} {v : Value} {T T' : TypeId} {rs rs' : List Res} {P : Program}

/-- a slice that is kept as it is, and what it holds -/
abbrev FZ := Value × List Bool
def FzP (bs : List FZ) (v : Value) (x : List Bool) : Prop := (v = .slice none 0 0 ∧ x = []) ∨ ((v, x) ∈ bs ∧ ∃ p l c, v = .slice p l c)
variable {bs : List FZ} {x y : List Bool}
theorem FzP.nil (bs : List FZ) : FzP bs (.slice none 0 0) [] := .inl ⟨rfl, rfl⟩
theorem FzP.up (h : FzP bs v x) (b : FZ) : FzP (bs ++ [b]) v x := by
  rcases h with h | ⟨h, h2⟩
  · exact .inl h
  · exact .inr ⟨List.mem_append_left _ h, h2⟩
theorem FzP.sh (h : FzP bs v x) : ∃ p l c, v = .slice p l c := by
  rcases h with ⟨rfl, _⟩ | ⟨_, h2⟩
  · exact ⟨_, _, _, rfl⟩
  · exact h2
/-! ### Their memory -/
def RdF (S : Nat → Prop) (w : World) (bs : List FZ) : Prop := ∀ p ∈ bs, RdS Ek.bool S w p.1 p.2
theorem RdF.mono (h : RdF S w bs) (hs : ∀ k, S k → S' k) : RdF S' w bs := fun p hp => (h p hp).mono hs
theorem RdF.now (h : RdF S w0 bs) (hp : Hp S w0 w rs) : RdF S w bs := fun p hq => (h p hq).now hp
theorem RdF.any (h : RdF S w bs) : RdF (fun _ => True) w bs := h.mono fun _ _ => trivial
theorem FzP.rd (h : FzP bs v x) (hA : RdF S w bs) : RdS Ek.bool S w v x := by
  rcases h with ⟨rfl, rfl⟩ | ⟨h, _⟩
  · exact RdS.nil _ _ _
  · exact hA _ h
/-! ### Other resources, seen with one more of them -/
section ops
variable {n : Nat} {a : Act} {L : List (Nat × Value)} {ops : Array Oper} {Q : Exit → Act → World → Prop}
  {rest : List Oper} {d : Nat} {ty : TypeId} {pos : String} {af : Array Edge} {g : Option (Nat × Bool)}
  {t t' e : TypeId} {xo yo : Operand} {k k' : IntKind} {p q : Int} {u : Value}
end ops
end GL
