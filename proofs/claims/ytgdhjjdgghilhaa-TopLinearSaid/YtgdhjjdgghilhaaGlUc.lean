/- Own library, part Uc: nodes that point to one another; whole arrays. -/
import Derived.Test.YtgdhjjdgghilhaaGlUb
import Derived.LaidEqlPtr
set_option linter.unusedVariables false
set_option linter.unusedSimpArgs false
namespace GL
open Go

variable {S S' : Nat → Prop} {w w' w0 : World} {v : Value} {T T' : TypeId} {rs rs' : List Res} {P : Program}

/-! ### Pointers to nodes: the number of the node -/
/-- a node: its bit, the node ahead, its cost, its rank -/
abbrev WayC := Bool × Option Nat × Fl × Int
def nth (A : List WayC) (i : Nat) : WayC := A.getD i default
theorem nth_of {A : List WayC} {i : Nat} (h : i < A.length) : A[i]? = some (nth A i) := by
  unfold nth; rw [List.getD_eq_getElem?_getD, List.getElem?_eq_getElem h]; rfl
def wpv (bs : List Nat) : Option Nat → Value
  | none => .pointer none
  | some i => .pointer (some ⟨bs.getD i 0, 0, none⟩)
def WP (bs : List Nat) (v : Value) (x : Option Nat) : Prop := v = wpv bs x ∧ ∀ i, x = some i → i < bs.length
variable {bs : List Nat} {x y : Option Nat} {i j b : Nat}
theorem WP.nil (bs : List Nat) : WP bs (.pointer none) none := ⟨rfl, fun i h => by cases h⟩
theorem WP.up (h : WP bs v x) (b : Nat) : WP (bs ++ [b]) v x := by
  obtain ⟨rfl, h2⟩ := h
  refine ⟨?_, fun i hi => by have := h2 i hi; simp; omega⟩
  cases x with
  | none => rfl
  | some i =>
    have := h2 i rfl
    simp only [wpv, List.getD_eq_getElem?_getD, List.getElem?_append_left this]
theorem WP.sh (h : WP bs v x) : ∃ p, v = .pointer p := by
  obtain ⟨rfl, _⟩ := h
  cases x <;> exact ⟨_, rfl⟩
theorem WP.isP (h : WP bs v x) (hx : x = some i) : IsP v := by
  obtain ⟨rfl, _⟩ := h
  subst hx; exact ⟨_, _, rfl⟩
theorem WP.ptr (h : WP bs v x) (hx : x = some i) : ∃ p, v = .pointer (some p) := by
  obtain ⟨b, o, h⟩ := h.isP hx; exact ⟨_, h⟩
theorem WP.sel {v0 v1 : Value} {x0 x1 : Option Nat} (h0 : WP bs v0 x0) (h1 : WP bs v1 x1) {p : Int} (hp : 0 ≤ p ∧ p < 2) : WP bs (gtv [v0, v1] p) (gt [x0, x1] p) := by
  rcases (show p = 0 ∨ p = 1 by omega) with rfl | rfl
  · exact h0
  · exact h1
def Ek.wp (bs : List Nat) : Ek (Option Nat) := ⟨1, by decide, fun vs x => ∃ v, vs = [v] ∧ WP bs v x, fun _ _ ⟨_, h, _⟩ => by subst h; rfl,
  fun _ _ ⟨v, h, h2⟩ => by subst h; obtain ⟨p, rfl⟩ := h2.sh; simp [Value.oneCell']⟩

/-! ### The nodes themselves -/
def ArAt (w : World) (T : TypeId) (bs : List Nat) (A : List WayC) : Prop :=
  bs.Nodup ∧ bs.length = A.length ∧ ∀ (i b : Nat) (c : WayC), bs[i]? = some b → A[i]? = some c → ∃ (p : Value) (f : Nat), WP bs p c.2.1 ∧ c.2.2.1.rep f ∧ w.heap[b]? = some (.cells #[.bool c.1, p, .float .f64 f, .int .i64 c.2.2.2] T (0, 0))
def RdA (S : Nat → Prop) (w : World) (T : TypeId) (bs : List Nat) (A : List WayC) : Prop := ArAt w T bs A ∧ ∀ b ∈ bs, S b
variable {A : List WayC}
theorem ArAt.lt (h : ArAt w T bs A) (hb : b ∈ bs) : ∃ o, w.heap[b]? = some o := by
  obtain ⟨i, hi, rfl⟩ := List.getElem_of_mem hb
  have hl := h.2.1
  obtain ⟨p, f, _, _, h3⟩ := h.2.2 i _ _ (List.getElem?_eq_getElem hi) (List.getElem?_eq_getElem (by omega))
  exact ⟨_, h3⟩
theorem ArAt.loc (h : ArAt w T bs A) (hs : ∀ k ∈ bs, w'.heap[k]? = w.heap[k]?) : ArAt w' T bs A :=
  ⟨h.1, h.2.1, fun i b c hb hc => by
    obtain ⟨p, f, h1, h2, h3⟩ := h.2.2 i b c hb hc
    exact ⟨p, f, h1, h2, (hs b (List.mem_of_getElem? hb)).trans h3⟩⟩
theorem RdA.mono (h : RdA S w T bs A) (hs : ∀ k, S k → S' k) : RdA S' w T bs A := ⟨h.1, fun b hb => hs _ (h.2 b hb)⟩
theorem RdA.now (h : RdA S w0 T bs A) (hp : Hp S w0 w rs) : RdA S w T bs A := ⟨h.1.loc fun k hk => (hp.old k (h.2 k hk)).2, h.2⟩
theorem RdA.any (h : RdA S w T bs A) : RdA (fun _ => True) w T bs A := h.mono fun _ _ => trivial
/-- A node's cells. -/
theorem RdA.at (h : RdA S w T bs A) (hv : WP bs v x) (hx : x = some i) :
    ∃ (p : Value) (f : Nat), WP bs p (nth A i).2.1 ∧ (nth A i).2.2.1.rep f ∧ RdO S w v [.bool (nth A i).1, p, .float .f64 f, .int .i64 (nth A i).2.2.2] := by
  obtain ⟨rfl, h2⟩ := hv
  have hi := h2 i hx
  subst hx
  have hl := h.1.2.1
  obtain ⟨p, f, h3, h4, h5⟩ := h.1.2.2 i _ _ (List.getElem?_eq_getElem hi) (nth_of (by omega))
  refine ⟨p, f, h3, h4, bs[i], ?_, h.2 _ (List.getElem_mem hi), fun j hj => ?_⟩
  · simp [wpv, List.getD_eq_getElem?_getD, List.getElem?_eq_getElem hi]
  · simp [World.cell?, h5]
theorem RdA.cells (h : RdA S w T bs A) (hv : WP bs v x) (hx : x = some i) : ∃ (b : Nat) (cs : Array Value), v = .pointer (some ⟨b, 0, none⟩) ∧ w.heap[b]? = some (.cells cs T (0, 0)) ∧ bs[i]? = some b := by
  obtain ⟨rfl, h2⟩ := hv
  have hi := h2 i hx
  subst hx
  have hl := h.1.2.1
  obtain ⟨p, f, h3, h4, h5⟩ := h.1.2.2 i _ _ (List.getElem?_eq_getElem hi) (nth_of (by omega))
  exact ⟨bs[i], _, by simp [wpv, List.getD_eq_getElem?_getD, List.getElem?_eq_getElem hi], h5, List.getElem?_eq_getElem hi⟩

/-! ### Other resources, seen with one node more -/
inductive ImpL : List Res → List Res → Prop
  | nil : ImpL [] []
  | cons {r r' : Res} {l l' : List Res} (h : ∀ fp w, r.own fp w → r'.own fp w) (t : ImpL l l') : ImpL (r :: l) (r' :: l')
theorem ImpL.refl : ∀ l : List Res, ImpL l l
  | [] => .nil
  | r :: l => .cons (fun _ _ h => h) (ImpL.refl l)
theorem ImpL.same {r : Res} (h : ImpL rs rs') : ImpL (r :: rs) (r :: rs') := .cons (fun _ _ h => h) h
theorem ImpL.len (h : ImpL rs rs') : rs'.length = rs.length := by
  induction h with
  | nil => rfl
  | cons _ _ ih => simp [ih]
theorem ImpL.get (h : ImpL rs rs') : ∀ (i : Nat) (r' : Res), rs'[i]? = some r' → ∃ r, rs[i]? = some r ∧ ∀ fp w, r.own fp w → r'.own fp w := by
  induction h with
  | nil => intro i r' h; simp at h
  | cons h1 _ ih =>
    intro i r' h
    cases i with
    | zero => simp at h; subst h; exact ⟨_, rfl, h1⟩
    | succ i => exact ih i r' (by simpa using h)
theorem reps_imp {α : Type} {E E' : Ek α} (hn : E.n = E'.n) (hE : ∀ vs x, E.rep vs x → E'.rep vs x) {cs : List Value} {xs : List α} (h : E.reps cs xs) : E'.reps cs xs :=
  ⟨by rw [← hn]; exact h.1, fun i x hx => by rw [← hn]; exact hE _ _ (h.2 i x hx)⟩
theorem slx_imp {α : Type} {E E' : Ek α} {xs sp : List α} (hn : E.n = E'.n) (hE : ∀ vs x, E.rep vs x → E'.rep vs x) (fp : Nat → Prop) (w : World) (h : (Res.slx E T v xs sp).own fp w) : (Res.slx E' T v xs sp).own fp w := by
  rcases h with h | ⟨g, o, cap, cur, h1, h2, h3, h4, h5, h6, h7⟩
  · exact .inl h
  · exact .inr ⟨g, o, cap, cur, h1, h2, h3, h4, h5, by rw [← hn]; exact h6, by rw [← hn]; exact reps_imp hn hE h7⟩
theorem ImpL.slx {α : Type} {E E' : Ek α} {xs sp : List α} (hn : E.n = E'.n) (hE : ∀ vs x, E.rep vs x → E'.rep vs x) (h : ImpL rs rs') : ImpL (Res.slx E T v xs sp :: rs) (Res.slx E' T v xs sp :: rs') :=
  .cons (slx_imp hn hE) h
/-! ### A part of a pair, by number -/
def psel {β : Type} (x : β × β) (k : Int) : β := if k = 0 then x.1 else x.2
def pput {β : Type} (x : β × β) (k : Int) (y : β) : β × β := if k = 0 then (y, x.2) else (x.1, y)
theorem Sub.two {β : Type} {F : Ek β} {k : Int} (hk : 0 ≤ k ∧ k < 2) : Sub (Ek.pair F F) F (k.toNat * F.n) (fun x => psel x k) (fun x y => pput x k y) := by
  rcases (show k = 0 ∨ k = 1 by omega) with rfl | rfl
  · have e : ((0 : Int).toNat * F.n) = 0 := by simp
    rw [e]; exact Sub.fst
  · have e : ((1 : Int).toNat * F.n) = F.n := by simp
    rw [e]; exact Sub.snd

section ops
variable {n : Nat} {a : Act} {L : List (Nat × Value)} {ops : Array Oper} {Q : Exit → Act → World → Prop}
  {rest : List Oper} {d : Nat} {ty : TypeId} {pos : String} {af : Array Edge} {g : Option (Nat × Bool)}
  {t t' e : TypeId} {xo yo : Operand} {k k' : IntKind} {p q : Int} {u : Value}

end ops
end GL
namespace GL
open Go
variable {bs : List Nat} {v v0 v1 : Value} {x x0 x1 : Option Nat} {P : Program} {e : TypeId}
end GL
namespace GL
open Go
section ops
variable {n : Nat} {a : Act} {L : List (Nat × Value)} {ops : Array Oper} {Q : Exit → Act → World → Prop} {w : World} {P : Program}
  {rest : List Oper} {d : Nat} {ty : TypeId} {pos : String} {af : Array Edge} {g : Option (Nat × Bool)}
  {t t' : TypeId} {xo yo : Operand} {b c : Nat} {fx fy q : Fl}
end ops
end GL
