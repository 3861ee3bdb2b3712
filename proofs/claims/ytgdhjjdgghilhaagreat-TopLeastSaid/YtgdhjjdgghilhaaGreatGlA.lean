/- Own library, part A: frames as association lists; one lemma a scalar operation. -/
import Derived.Tactics
import Derived.OrdersHeld
set_option linter.unusedVariables false
set_option linter.unusedSimpArgs false
namespace GL
open Go

def lk : List (Nat × Value) → Nat → Option Value
  | [], _ => none
  | (k, v) :: t, i => bif Nat.beq k i then some v else lk t i

theorem lk_cons_eq (d : Nat) (v : Value) (L : List (Nat × Value)) : lk ((d, v) :: L) d = some v := by simp [lk]
theorem lk_cons_ne {d i : Nat} (v : Value) (L : List (Nat × Value)) (h : d ≠ i) : lk ((d, v) :: L) i = lk L i := by
  have e : Nat.beq d i = false := by
    cases hb : Nat.beq d i with
    | false => rfl
    | true => exact absurd (Nat.eq_of_beq_eq_true hb) h
  simp [lk, e]

structure Fr (n : Nat) (a : Act) (L : List (Nat × Value)) : Prop where
  size : a.tmps.size = n
  defers : a.defers = []
  slots : ∀ i v, lk L i = some v → a.tmps[i]? = some v

variable {P : Program} {n : Nat} {a : Act} {L : List (Nat × Value)} {ops : Array Oper} {Q : Exit → Act → World → Prop}
  {rest : List Oper} {w : World}

theorem Fr.put (hf : Fr n a L) {d : Nat} (hd : d < n) (v : Value) : Fr n (a.put (some d) v) ((d, v) :: L) := by
  refine ⟨by simp [Act.put, hf.size], hf.defers, fun i u h => ?_⟩
  by_cases hi : d = i
  · subst hi
    rw [lk_cons_eq] at h
    obtain rfl := Option.some.inj h
    simp [Act.put, hf.size, hd]
  · rw [lk_cons_ne v L hi] at h
    have := hf.slots i u h
    simpa [Act.put, Array.getElem?_setIfInBounds_ne hi] using this

def subL (L : List (Nat × Value)) : List (Nat × Value) → Prop
  | [] => True
  | (k, v) :: t => lk L k = some v ∧ subL L t

theorem lk_of_subL {L L' : List (Nat × Value)} (h : subL L L') {i : Nat} {v : Value} (hl : lk L' i = some v) : lk L i = some v := by
  induction L' with
  | nil => simp [lk] at hl
  | cons p t ih =>
    obtain ⟨k, u⟩ := p
    by_cases hk : k = i
    · subst hk
      rw [lk_cons_eq] at hl
      obtain rfl := Option.some.inj hl
      exact h.1
    · rw [lk_cons_ne u t hk] at hl
      exact ih h.2 hl

theorem Fr.sub (hf : Fr n a L) {L' : List (Nat × Value)} (h : subL L L') : Fr n a L' :=
  ⟨hf.size, hf.defers, fun i v hl => hf.slots i v (lk_of_subL h hl)⟩

def evL (L : List (Nat × Value)) : Operand → Option Value
  | .tmp t => lk L t
  | .const v => some v
  | .global g => some (.pointer (some ⟨g, 0, none⟩))
  | .func f => some (.func (.func f) #[] #[])

theorem Fr.ev (hf : Fr n a L) {x : Operand} {v : Value} (h : evL L x = some v) : a.eval x = v := by
  cases x with
  | tmp t => have := hf.slots t v h; simp [Act.eval, Array.getD_eq_getD_getElem?, this]
  | const u => simpa [evL, Act.eval] using h
  | global g => simpa [evL, Act.eval] using h
  | func f => simpa [evL, Act.eval] using h

def frame0 : Nat → List Value → List (Nat × Value)
  | _, [] => []
  | k, v :: t => (k, v) :: frame0 (k + 1) t

theorem lk_frame0 : ∀ (l : List Value) (k i : Nat) (v : Value), lk (frame0 k l) i = some v → k ≤ i ∧ l[i - k]? = some v
  | [], k, i, v, h => by simp [frame0, lk] at h
  | u :: t, k, i, v, h => by
    by_cases hk : k = i
    · subst hk
      rw [frame0, lk_cons_eq] at h
      simpa using h
    · rw [frame0, lk_cons_ne u _ hk] at h
      obtain ⟨h1, h2⟩ := lk_frame0 t (k + 1) i v h
      refine ⟨by omega, ?_⟩
      have e : i - k = (i - (k + 1)) + 1 := by omega
      rw [e]; simpa using h2

theorem Fr.start (l : List Value) (n : Nat) (h : l.length ≤ n) : Fr n { tmps := l.toArray ++ Array.replicate (n - l.toArray.size) undef, defers := [] } (frame0 0 l) := by
  refine ⟨by simp; omega, rfl, fun i v hl => ?_⟩
  obtain ⟨_, h2⟩ := lk_frame0 l 0 i v hl
  have hi : i < l.length := (List.getElem?_eq_some_iff.1 (by simpa using h2)).1
  simp only [Nat.sub_zero] at h2
  simp [Array.getElem?_append, hi]
  rw [List.getElem?_eq_getElem hi] at h2
  simpa using h2

theorem st_run {o : Oper} {d : Nat} {v : Value} {w' : World} (hf : Fr n a L) (hw : Region.wanted o (yielded ops a.tmps) = true)
    (hdst : o.dst = some d) (hd : d < n) (hr : (execOp a.eval o).run P w = .ok (.value v) w')
    (h : ∀ a', a' = a.put (some d) v → Fr n a' ((d, v) :: L) → wpList P ops Q rest a' w') : wpList P ops Q (o :: rest) a w := by
  unfold wpList
  rw [if_pos hw]
  refine .inl ?_
  unfold Oper.wp
  rw [hr, Oper.upon_value, hdst]
  exact h _ rfl (hf.put hd v)

theorem st_run0 {o : Oper} {w' : World} (hf : Fr n a L) (hw : Region.wanted o (yielded ops a.tmps) = true)
    (hdst : o.dst = none) (hr : (execOp a.eval o).run P w = .ok .skip w')
    (h : ∀ a', Fr n a' L → wpList P ops Q rest a' w') : wpList P ops Q (o :: rest) a w := by
  unfold wpList
  rw [if_pos hw]
  refine .inl ?_
  unfold Oper.wp
  rw [hr, Oper.upon_skip, hdst]
  exact h _ hf

theorem st_nil (hf : Fr n a L) (h : Q .normal a w) : wpList P ops Q [] a w := h

theorem st_skip {o : Oper} {d : Nat} (hf : Fr n a L) (hw : Region.wanted o (yielded ops a.tmps) = false) (hdst : o.dst = some d) (hd : d < n)
    (h : ∀ a', Fr n a' L → wpList P ops Q rest a' w) (hn : lk L d = none) : wpList P ops Q (o :: rest) a w := by
  unfold wpList
  rw [if_neg (by rw [hw]; simp), hdst]
  refine h _ ?_
  have h1 := hf.put hd undef
  refine ⟨h1.size, h1.defers, fun i v hl => h1.slots i v ?_⟩
  by_cases hi : d = i
  · subst hi; rw [hn] at hl; cases hl
  · rw [lk_cons_ne _ _ hi]; exact hl

theorem wantG (hf : Fr n a L) {j t : Nat} {b want : Bool} {dst : Option Tmp} {op : Op} {ty : TypeId} {pos : String} {af : Array Edge}
    (hj : ((ops[j]?).bind (·.dst)) = some t) (hl : lk L t = some (.bool b)) :
    Region.wanted ⟨dst, op, ty, pos, af, some (j, want)⟩ (yielded ops a.tmps) = (b == want) := by
  simp [Region.wanted, yielded, hj, hf.slots t _ hl]

section
variable {d : Nat} {ty : TypeId} {pos : String} {af : Array Edge} {g : Option (Nat × Bool)}

theorem st_move {x : Operand} {v : Value} (hf : Fr n a L) (hw : Region.wanted ⟨some d, .move x, ty, pos, af, g⟩ (yielded ops a.tmps) = true)
    (hx : evL L x = some v) (hd : d < n) (h : ∀ a', a' = a.put (some d) (v) → Fr n a' ((d, v) :: L) → wpList P ops Q rest a' w) :
    wpList P ops Q (⟨some d, .move x, ty, pos, af, g⟩ :: rest) a w :=
  st_run hf hw rfl hd (by simp [execOp, hf.ev hx, Sem.run, pure]) h

theorem st_assign {x : Operand} {v : Value} (hf : Fr n a L) (hw : Region.wanted ⟨some d, .assign x, ty, pos, af, g⟩ (yielded ops a.tmps) = true)
    (hx : evL L x = some v) (hd : d < n) (h : ∀ a', a' = a.put (some d) (v) → Fr n a' ((d, v) :: L) → wpList P ops Q rest a' w) :
    wpList P ops Q (⟨some d, .assign x, ty, pos, af, g⟩ :: rest) a w :=
  st_run hf hw rfl hd (by simp [execOp, hf.ev hx, Sem.run, pure]) h

theorem st_nilck {x : Operand} {p : Addr} (hf : Fr n a L) (hw : Region.wanted ⟨some d, .nilCheck x, ty, pos, af, g⟩ (yielded ops a.tmps) = true)
    (hx : evL L x = some (.pointer (some p))) (hd : d < n) (h : ∀ a', a' = a.put (some d) (.pointer (some p)) → Fr n a' ((d, .pointer (some p)) :: L) → wpList P ops Q rest a' w) :
    wpList P ops Q (⟨some d, .nilCheck x, ty, pos, af, g⟩ :: rest) a w :=
  st_run hf hw rfl hd (by simp [execOp, hf.ev hx, Sem.run, pure]) h

theorem st_pick {c x y : Operand} {b : Bool} {v : Value} (hf : Fr n a L) (hw : Region.wanted ⟨some d, .pick c x y, ty, pos, af, g⟩ (yielded ops a.tmps) = true)
    (hc : evL L c = some (.bool b)) (hx : b = true → evL L x = some v) (hy : b = false → evL L y = some v) (hd : d < n)
    (h : ∀ a', a' = a.put (some d) (v) → Fr n a' ((d, v) :: L) → wpList P ops Q rest a' w) :
    wpList P ops Q (⟨some d, .pick c x y, ty, pos, af, g⟩ :: rest) a w := by
  refine st_run (v := v) (w' := w) hf hw rfl hd ?_ h
  cases b with
  | true => have := hf.ev (hx rfl); simp [execOp, hf.ev hc, this, asBool, Sem.run, pure, bind, Sem.bind]
  | false => have := hf.ev (hy rfl); simp [execOp, hf.ev hc, this, asBool, Sem.run, pure, bind, Sem.bind]
end
end GL
