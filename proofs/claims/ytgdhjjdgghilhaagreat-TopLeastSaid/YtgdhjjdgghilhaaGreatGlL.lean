/- Own library, part L: slice expressions over owned slices; strings from bytes; copying a string. -/
import Derived.Test.YtgdhjjdgghilhaaGreatGlI
import Derived.Laws.BytesString
import Derived.Laws.BytesArg
import Derived.Lib.BufferWrite
set_option linter.unusedVariables false
set_option linter.unusedSimpArgs false
namespace GL
open Go Go.Lib

variable {α : Type} {E : Ek α} {S S' : Nat → Prop} {w w' w0 : World} {v : Value} {xs ys sp : List α} {T : TypeId} {rs : List Res} {P : Program}

theorem Hp.shape (hp : Hp S w0 w rs) {i : Nat} (hi : rs[i]? = some (Res.slx E T v xs sp)) : ∃ A cap, v = .slice A xs.length cap ∧ (xs ++ sp).length ≤ cap := by
  obtain ⟨fp, h, _⟩ := hp.take hi
  rcases h with ⟨rfl, rfl, rfl, _⟩ | ⟨g, o, cap, cur, rfl, h2, h3, h4, h5, h6, h7⟩
  · exact ⟨none, 0, rfl, by simp⟩
  · exact ⟨_, cap, rfl, h4⟩
theorem RdS.shape (h : RdS E S w v xs) : ∃ A cap, v = .slice A xs.length cap ∧ xs.length ≤ cap := by
  obtain ⟨A, cap, h1, h2, _⟩ := h
  exact ⟨A, cap, h1, h2⟩

theorem evI {L : List (Nat × Value)} {o : Operand} {k : IntKind} {m : Int} (h : evL L o = some (.int k m)) (h0 : 0 ≤ m) : evL L o = some (.int k (m.toNat : Int)) := by
  rw [Int.toNat_of_nonneg h0]; exact h

theorem st_skipU {P : Program} {n : Nat} {a : Act} {L : List (Nat × Value)} {ops : Array Oper} {Q : Exit → Act → World → Prop} {rest : List Oper} {o : Oper} {d : Nat} (hf : Fr n a L) (hw : Region.wanted o (yielded ops a.tmps) = false) (hdst : o.dst = some d) (hd : d < n)
    (h : ∀ a', Fr n a' ((d, undef) :: L) → wpList P ops Q rest a' w) : wpList P ops Q (o :: rest) a w := by
  unfold wpList
  rw [if_neg (by rw [hw]; simp), hdst]
  exact h _ (hf.put hd undef)
theorem wantU {n : Nat} {a : Act} {L : List (Nat × Value)} {ops : Array Oper} {dst : Option Tmp} {op : Op} {ty : TypeId} {pos : String} {af : Array Edge} (hf : Fr n a L) {j t : Nat} {want : Bool}
    (hj : ((ops[j]?).bind (·.dst)) = some t) (hl : lk L t = some undef) : Region.wanted ⟨dst, op, ty, pos, af, some (j, want)⟩ (yielded ops a.tmps) = false := by
  simp [Region.wanted, yielded, hj, hf.slots t _ hl, undef]

section ops
variable {n : Nat} {a : Act} {L : List (Nat × Value)} {ops : Array Oper} {Q : Exit → Act → World → Prop}
  {rest : List Oper} {d : Nat} {ty : TypeId} {pos : String} {af : Array Edge} {g : Option (Nat × Bool)}
  {t t' e : TypeId} {x y z : Operand} {k k' : IntKind} {p q : Int} {u : Value} {bytes : Nat} {z0 : α} {i : Nat}

theorem st_cutS {w1 : World} (hf : Fr n a L) (hd : d < n) (ht : P.underlying t = some (.slice e)) (he : ElT P E e bytes z0) {lo hi : Option Operand} {l h : Nat}
    (hw : Region.wanted ⟨some d, .slice t x lo hi none, ty, pos, af, g⟩ (yielded ops a.tmps) = true)
    (hx : evL L x = some v) (hs : Sl E w1 v xs)
    (hlo : lo = none ∧ l = 0 ∨ ∃ k o, lo = some o ∧ evL L o = some (.int k (l : Int))) (hhi : hi = none ∧ h = xs.length ∨ ∃ k o, hi = some o ∧ evL L o = some (.int k (h : Int)))
    (h1 : l ≤ h) (h2 : h ≤ xs.length)
    (hk : ∀ a', a' = a.put (some d) (GL.cut v l h E.n) → Fr n a' ((d, GL.cut v l h E.n) :: L) → wpList P ops Q rest a' w) :
    wpList P ops Q (⟨some d, .slice t x lo hi none, ty, pos, af, g⟩ :: rest) a w := by
  obtain ⟨A, cap, hv, hc⟩ := RdS.shape hs
  exact st_cut hf hd ht he hw hx hv hlo hhi h1 (Nat.le_trans h2 hc) hk
end ops
end GL
