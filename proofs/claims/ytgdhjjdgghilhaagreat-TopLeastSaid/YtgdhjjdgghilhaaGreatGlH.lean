/- Own library, part H: boxes; small moves of the printed proofs. -/
import Derived.Test.YtgdhjjdgghilhaaGreatGlG
set_option linter.unusedVariables false
set_option linter.unusedSimpArgs false
namespace GL
open Go

variable {α : Type} {E : Ek α} {S S' : Nat → Prop} {w w' w0 : World} {v u : Value} {x' : α} {T : TypeId} {rs : List Res} {P : Program}
  {t e ty : TypeId} {bytes : Nat} {z0 : α} {i : Nat}

def sm {α β γ : Type} (x : α ⊕ β) (f : α → γ) (g : β → γ) : γ := match x with
  | .inl a => f a
  | .inr b => g b
theorem smL {α β γ : Type} {a : α} {f : α → Option γ} {g : β → Option γ} {r : γ} (h : sm (.inl a : α ⊕ β) f g = some r) : f a = some r := h
theorem smR {α β γ : Type} {b : β} {f : α → Option γ} {g : β → Option γ} {r : γ} (h : sm (.inr b : α ⊕ β) f g = some r) : g b = some r := h

section
variable {n : Nat} {a : Act} {L : List (Nat × Value)} {ops : Array Oper} {dst : Option Tmp} {op : Op} {pos : String} {af : Array Edge}
theorem wantY (hf : Fr n a L) {j t : Nat} {b want : Bool} (hj : ((ops[j]?).bind (·.dst)) = some t) (hl : lk L t = some (.bool b)) (hb : b = want) :
    Region.wanted ⟨dst, op, ty, pos, af, some (j, want)⟩ (yielded ops a.tmps) = true := by rw [wantG hf hj hl, hb]; simp
theorem wantN (hf : Fr n a L) {j t : Nat} {b want : Bool} (hj : ((ops[j]?).bind (·.dst)) = some t) (hl : lk L t = some (.bool b)) (hb : b = !want) :
    Region.wanted ⟨dst, op, ty, pos, af, some (j, want)⟩ (yielded ops a.tmps) = false := by rw [wantG hf hj hl, hb]; cases want <;> rfl
end

def RdB (E : Ek α) (S : Nat → Prop) (w : World) (v : Value) (x : α) : Prop :=
  ∃ b cs, v = .pointer (some ⟨b, 0, none⟩) ∧ S b ∧ E.rep cs x ∧ cellsAt w b 0 cs
theorem RdB.mono (h : RdB E S w v x') (hs : ∀ k, S k → S' k) : RdB E S' w v x' := let ⟨b, cs, h1, h2, h3, h4⟩ := h; ⟨b, cs, h1, hs _ h2, h3, h4⟩
theorem RdB.now (h : RdB E S w0 v x') (hp : Hp S w0 w rs) : RdB E S w v x' := by
  obtain ⟨b, cs, h1, h2, h3, h4⟩ := h
  exact ⟨b, cs, h1, h2, h3, fun j hj => (cell_same (hp.old b h2).2).trans (h4 j hj)⟩
def Res.box (E : Ek α) (T : TypeId) (v : Value) (x : α) : Res where
  own := fun fp w => ∃ b cs, v = .pointer (some ⟨b, 0, none⟩) ∧ (∀ k, fp k ↔ k = b) ∧ E.rep cs x ∧ w.heap[b]? = some (.cells cs.toArray T (0, 0))
  loc := by
    rintro fp w w' ⟨b, cs, h1, h2, h3, h4⟩ hk
    exact ⟨b, cs, h1, h2, h3, (hk b ((h2 b).2 rfl)).trans h4⟩
  bd := by
    rintro fp w k ⟨b, cs, h1, h2, h3, h4⟩ hk
    rw [(h2 k).1 hk]; exact (Array.getElem?_eq_some_iff.1 h4).1

section ops
variable {n : Nat} {a : Act} {L : List (Nat × Value)} {ops : Array Oper} {Q : Exit → Act → World → Prop}
  {rest : List Oper} {d : Nat} {pos : String} {af : Array Edge} {g : Option (Nat × Bool)} {x y : Operand}

end ops
end GL
