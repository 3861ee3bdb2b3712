/- Own library, part H: boxes; small moves of the printed proofs. -/
import Derived.Test.YtcooefnbolobaaaGlG
set_option linter.unusedVariables false
set_option linter.unusedSimpArgs false
namespace GL
open Go

variable {α : Type} {E : Ek α} {S S' : Nat → Prop} {w w' w0 : World} {v u : Value} {x' : α} {T : TypeId} {rs : List Res} {P : Program}
  {t e ty : TypeId} {bytes : Nat} {z0 : α} {i : Nat}

def sm {α β γ : Type} (x : α ⊕ β) (f : α → γ) (g : β → γ) : γ := match x with
  | .inl a => f a
  | .inr b => g b
theorem smL {α β γ : Type} {a : α} {f : α → Option γ} {g : β → Option γ} {r : γ} (h : sm (.inl a : α ⊕ β) f g = some r) : f a = some r := h
theorem smR {α β γ : Type} {b : β} {f : α → Option γ} {g : β → Option γ} {r : γ} (h : sm (.inr b : α ⊕ β) f g = some r) : g b = some r := h

section
variable {n : Nat} {a : Act} {L : List (Nat × Value)} {ops : Array Oper} {dst : Option Tmp} {op : Op} {pos : String} {af : Array Edge}
theorem wantY (hf : Fr n a L) {j t : Nat} {b want : Bool} (hj : ((ops[j]?).bind (·.dst)) = some t) (hl : lk L t = some (.bool b)) (hb : b = want) :
    Region.wanted ⟨dst, op, ty, pos, af, some (j, want)⟩ (yielded ops a.tmps) = true := by rw [wantG hf hj hl, hb]; simp
theorem wantN (hf : Fr n a L) {j t : Nat} {b want : Bool} (hj : ((ops[j]?).bind (·.dst)) = some t) (hl : lk L t = some (.bool b)) (hb : b = !want) :
    Region.wanted ⟨dst, op, ty, pos, af, some (j, want)⟩ (yielded ops a.tmps) = false := by rw [wantG hf hj hl, hb]; cases want <;> rfl
end

/-! ### Boxes: a variable of its own block -/
def RdB (E : Ek α) (S : Nat → Prop) (w : World) (v : Value) (x : α) : Prop :=
  ∃ b cs, v = .pointer (some ⟨b, 0, none⟩) ∧ S b ∧ E.rep cs x ∧ cellsAt w b 0 cs
theorem RdB.mono (h : RdB E S w v x') (hs : ∀ k, S k → S' k) : RdB E S' w v x' := let ⟨b, cs, h1, h2, h3, h4⟩ := h; ⟨b, cs, h1, hs _ h2, h3, h4⟩
theorem RdB.now (h : RdB E S w0 v x') (hp : Hp S w0 w rs) : RdB E S w v x' := by
  obtain ⟨b, cs, h1, h2, h3, h4⟩ := h
  exact ⟨b, cs, h1, h2, h3, fun j hj => (cell_same (hp.old b h2).2).trans (h4 j hj)⟩
theorem RdB.bx (h : RdB E S w0 v x') (hp : Hp S w0 w rs) : RdB E (fun _ => True) w v x' := (h.now hp).mono fun _ _ => trivial

def Res.box (E : Ek α) (T : TypeId) (v : Value) (x : α) : Res where
  own := fun fp w => ∃ b cs, v = .pointer (some ⟨b, 0, none⟩) ∧ (∀ k, fp k ↔ k = b) ∧ E.rep cs x ∧ w.heap[b]? = some (.cells cs.toArray T (0, 0))
  loc := by
    rintro fp w w' ⟨b, cs, h1, h2, h3, h4⟩ hk
    exact ⟨b, cs, h1, h2, h3, (hk b ((h2 b).2 rfl)).trans h4⟩
  bd := by
    rintro fp w k ⟨b, cs, h1, h2, h3, h4⟩ hk
    rw [(h2 k).1 hk]; exact (Array.getElem?_eq_some_iff.1 h4).1

theorem box_cells {b : Nat} {cs : List Value} (h : w.heap[b]? = some (.cells cs.toArray T (0, 0))) : cellsAt w b 0 cs := by
  intro j hj
  simp [World.cell?, h]

theorem Hp.bx (hp : Hp S w0 w rs) (hi : rs[i]? = some (Res.box E T v x')) : RdB E (fun _ => True) w v x' := by
  obtain ⟨fp, ⟨b, cs, h1, h2, h3, h4⟩, _⟩ := hp.take hi
  exact ⟨b, cs, h1, trivial, h3, box_cells h4⟩

theorem Hp.lendB (hp : Hp S w0 w rs) (hi : rs[i]? = some (Res.box E T v x')) :
    ∃ S' : Nat → Prop, Hp S' w w (rs.eraseIdx i) ∧ RdB E S' w v x' ∧ (∀ k, S k → S' k) ∧
      ∀ (w' : World) (l : List Res), Hp S' w w' l → Hp S w0 w' (Res.box E T v x' :: l) := by
  obtain ⟨S', h1, ⟨fp, ⟨b, cs, k1, k2, k3, k4⟩, h3⟩, h4, h5⟩ := hp.lend hi
  exact ⟨S', h1, ⟨b, cs, k1, h3 b ((k2 b).2 rfl), k3, box_cells k4⟩, h4, h5⟩

section ops
variable {n : Nat} {a : Act} {L : List (Nat × Value)} {ops : Array Oper} {Q : Exit → Act → World → Prop}
  {rest : List Oper} {d : Nat} {pos : String} {af : Array Edge} {g : Option (Nat × Bool)} {x y : Operand}

theorem st_box (hf : Fr n a L) (hd : d < n) (he : ElT P E e bytes z0) (hp : Hp S w0 w rs)
    (hw : Region.wanted ⟨some d, .box e x, ty, pos, af, g⟩ (yielded ops a.tmps) = true)
    (hx : evL L x = some u) (hu : E.rep u.cells.toList x')
    (h : ∀ a' w' v', Fr n a' ((d, v') :: L) → Hp S w0 w' (Res.box E e v' x' :: rs) → wpList P ops Q rest a' w') :
    wpList P ops Q (⟨some d, .box e x, ty, pos, af, g⟩ :: rest) a w := by
  refine st_run hf hw rfl hd (v := .pointer (some ⟨w.heap.size, 0, none⟩)) (w' := w.alloc (.cells u.cells e)) ?_
    fun a' _ hf' => h a' _ _ hf' (hp.push (Same.alloc w _) (fp := fun k => k = w.heap.size) ?_ (fun k hk => by omega))
  · simp [execOp, hf.ev hx, Instr.box, newVar, newRow, Result.andThen]
  · exact ⟨w.heap.size, u.cells.toList, rfl, fun _ => Iff.rfl, hu, by simpa using heap_alloc_new w (.cells u.cells e)⟩

theorem st_ldBox (hf : Fr n a L) (hd : d < n) (hT : Plain P T) (enc : α → Value) (he : ∀ vs x, E.rep vs x → vs = [enc x])
    (hw : Region.wanted ⟨some d, .load T x, ty, pos, af, g⟩ (yielded ops a.tmps) = true)
    (hx : evL L x = some v) (hb : RdB E (fun _ => True) w v x')
    (h : ∀ a', a' = a.put (some d) (enc x') → Fr n a' ((d, enc x') :: L) → wpList P ops Q rest a' w) :
    wpList P ops Q (⟨some d, .load T x, ty, pos, af, g⟩ :: rest) a w := by
  obtain ⟨b, cs, rfl, _, h3, h4⟩ := hb
  have e4 := he _ _ h3
  subst e4
  exact st_loadAt hf hd hT hw hx rfl (by simpa using h4 0 (by simp)) h
end ops
end GL
