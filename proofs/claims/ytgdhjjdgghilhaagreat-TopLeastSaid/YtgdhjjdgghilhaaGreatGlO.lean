/- Own library, part O: several resources as one; slices of slices; regions that draw, with late writes. -/
import Derived.Test.YtgdhjjdgghilhaaGreatGlN
import Derived.KernelRfl
set_option linter.unusedVariables false
set_option linter.unusedSimpArgs false
namespace GL
open Go

variable {S S' : Nat → Prop} {w w' w0 : World} {rs l l' : List Res}

theorem Hp.reorder (hp : Hp S w0 w l) (g : Nat → Nat) (hg : ∀ j, j < l'.length → g j < l.length ∧ l'[j]? = l[g j]?)
    (hinj : ∀ i j, i < l'.length → j < l'.length → i ≠ j → g i ≠ g j) : Hp S w0 w l' := by
  obtain ⟨f, h1, h2, h3⟩ := hp.res
  refine ⟨hp.os, hp.tape, hp.output, hp.size, hp.old, fun j => f (g j), ?_, ?_, ?_⟩
  · intro i r hr
    have hi := (List.getElem?_eq_some_iff.1 hr).1
    exact h1 _ r ((hg i hi).2 ▸ hr)
  · intro i k hi hk
    exact h2 _ k (hg i hi).1 hk
  · intro i j k hi hj hne hk
    exact h3 _ _ k (hg i hi).1 (hg j hj).1 (hinj i j hi hj hne) hk

theorem Hp.swap2 {pre : List Res} {a b : Res} (hp : Hp S w0 w (pre ++ a :: b :: l)) : Hp S w0 w (pre ++ b :: a :: l) := by
  refine hp.reorder (fun j => if j = pre.length then pre.length + 1 else if j = pre.length + 1 then pre.length else j) (fun j hj => ?_) (fun i j hi hj hne => ?_)
  · simp only [List.length_append, List.length_cons] at hj ⊢
    by_cases h0 : j < pre.length
    · have e1 : j ≠ pre.length := by omega
      have e2 : j ≠ pre.length + 1 := by omega
      simp only [e1, e2, if_false]
      exact ⟨by omega, by rw [List.getElem?_append_left h0, List.getElem?_append_left h0]⟩
    · by_cases h1 : j = pre.length
      · subst h1
        refine ⟨by simp, ?_⟩
        simp only [if_true]
        rw [List.getElem?_append_right (by omega), List.getElem?_append_right (by omega)]
        simp
      · by_cases h2 : j = pre.length + 1
        · subst h2
          refine ⟨by simp, ?_⟩
          simp only [if_true, show ¬ (pre.length + 1 = pre.length) by omega, if_false]
          rw [List.getElem?_append_right (by omega), List.getElem?_append_right (by omega)]
          simp
        · simp only [h1, h2, if_false]
          refine ⟨by omega, ?_⟩
          rw [List.getElem?_append_right (by omega), List.getElem?_append_right (by omega)]
          obtain ⟨m, hm⟩ : ∃ m, j - pre.length = m + 2 := ⟨j - pre.length - 2, by omega⟩
          simp [hm]
  · intro he
    split at he <;> split at he <;> (try split at he) <;> (try split at he) <;> omega

theorem Hp.perm_pre (h : l.Perm l') : ∀ pre : List Res, Hp S w0 w (pre ++ l) → Hp S w0 w (pre ++ l') := by
  induction h with
  | nil => exact fun _ h => h
  | cons x _ ih => intro pre h; have := ih (pre ++ [x]) (by simpa using h); simpa using this
  | swap x y l => intro pre h; exact h.swap2
  | trans _ _ ih1 ih2 => exact fun pre h => ih2 pre (ih1 pre h)
theorem Hp.perm (h : l.Perm l') (hp : Hp S w0 w l) : Hp S w0 w l' := Hp.perm_pre h [] hp

def Res.fact (p : Prop) : Res where
  own := fun fp _ => p ∧ ∀ k, ¬ fp k
  loc := fun _ _ _ h _ => h
  bd := fun _ _ k h hk => absurd hk (h.2 k)
theorem Hp.fact {p : Prop} (h : p) (hp : Hp S w0 w rs) : Hp S w0 w (Res.fact p :: rs) := hp.push0 ⟨h, fun _ h => h⟩
def Res.ex {ι : Type} (R : ι → Res) : Res where
  own := fun fp w => ∃ i, (R i).own fp w
  loc := fun fp w w' ⟨i, h⟩ hk => ⟨i, (R i).loc fp w w' h hk⟩
  bd := fun fp w k ⟨i, h⟩ hk => (R i).bd fp w k h hk
theorem Hp.map0 {r r' : Res} (hp : Hp S w0 w (r :: rs)) (h : ∀ fp, r.own fp w → r'.own fp w) : Hp S w0 w (r' :: rs) := by
  obtain ⟨f, h1, h2, h3⟩ := hp.res
  refine ⟨hp.os, hp.tape, hp.output, hp.size, hp.old, f, fun i r'' hr => ?_, fun i k hi => h2 i k (by simpa using hi), fun i j k hi hj => h3 i j k (by simpa using hi) (by simpa using hj)⟩
  cases i with
  | zero => simp at hr; subst hr; exact h _ (h1 0 r rfl)
  | succ i => exact h1 (i + 1) r'' (by simpa using hr)
def Res.star (l : List Res) : Res where
  own := fun fp w => ∃ f : Nat → Nat → Prop, (∀ (i : Nat) (r : Res), l[i]? = some r → r.own (f i) w) ∧
    (∀ i j k, i < l.length → j < l.length → i ≠ j → f i k → ¬ f j k) ∧ (∀ k, fp k ↔ ∃ i, i < l.length ∧ f i k)
  loc := by
    rintro fp w w' ⟨f, h1, h2, h3⟩ hk
    refine ⟨f, fun i r hr => r.loc _ _ _ (h1 i r hr) fun k hf => hk k ((h3 k).2 ⟨i, (List.getElem?_eq_some_iff.1 hr).1, hf⟩), h2, h3⟩
  bd := by
    rintro fp w k ⟨f, h1, h2, h3⟩ hk
    obtain ⟨i, hi, hf⟩ := (h3 k).1 hk
    exact (l[i]).bd _ _ _ (h1 i _ (List.getElem?_eq_getElem hi)) hf

theorem Hp.star (hp : Hp S w0 w (l ++ rs)) : Hp S w0 w (Res.star l :: rs) := by
  obtain ⟨f, h1, h2, h3⟩ := hp.res
  refine ⟨hp.os, hp.tape, hp.output, hp.size, hp.old, fun i => match i with | 0 => fun k => ∃ j, j < l.length ∧ f j k | i + 1 => f (l.length + i), ?_, ?_, ?_⟩
  · intro i r hr
    cases i with
    | zero =>
      simp at hr; subst hr
      refine ⟨f, fun j r hr => h1 j r ?_, fun i j k hi hj => h3 i j k (by simp; omega) (by simp; omega), fun k => Iff.rfl⟩
      rw [List.getElem?_append_left (List.getElem?_eq_some_iff.1 hr).1]; exact hr
    | succ i =>
      refine h1 _ r ?_
      rw [List.getElem?_append_right (by omega)]; simpa using hr
  · intro i k hi hk
    cases i with
    | zero => obtain ⟨j, hj, hf⟩ := hk; exact h2 j k (by simp; omega) hf
    | succ i => exact h2 _ k (by simp at hi ⊢; omega) hk
  · intro i j k hi hj hne hk hk'
    simp only [List.length_cons] at hi hj
    cases i with
    | zero =>
      cases j with
      | zero => exact hne rfl
      | succ j => obtain ⟨m, hm, hf⟩ := hk; exact h3 m _ k (by simp; omega) (by simp; omega) (by omega) hf hk'
    | succ i =>
      cases j with
      | zero => obtain ⟨m, hm, hf⟩ := hk'; exact h3 _ m k (by simp; omega) (by simp; omega) (by omega) hk hf
      | succ j => exact h3 _ _ k (by simp; omega) (by simp; omega) (by omega) hk hk'

end GL

namespace GL
open Go
variable {α β : Type} {E : Ek α} {S S' : Nat → Prop} {w w' w0 : World} {rs l l' : List Res} {v u : Value} {vs : List Value} {T Ts : TypeId} {P : Program}

def gtv (vs : List Value) (i : Int) : Value := vs.getD i.toNat undef
def Ek.val : Ek Value := ⟨1, by decide, fun vs x => vs = [x] ∧ x.oneCell' = true, fun _ _ ⟨h, _⟩ => by subst h; rfl, fun _ _ ⟨h, k⟩ => by subst h; simpa using k⟩

structure RowK (β : Type) where
  R : Value → β → Res
  Q : (Nat → Prop) → World → Value → β → Prop
  rd : ∀ {S : Nat → Prop} {fp : Nat → Prop} {w : World} {u : Value} {y : β}, (R u y).own fp w → (∀ k, fp k → S k) → Q S w u y
  mono : ∀ {S S' : Nat → Prop} {w : World} {u : Value} {y : β}, Q S w u y → (∀ k, S k → S' k) → Q S' w u y
  loc : ∀ {S : Nat → Prop} {w w' : World} {u : Value} {y : β}, Q S w u y → (∀ k, S k → w'.heap[k]? = w.heap[k]?) → Q S w' u y

theorem RdX.loc {xs sp : List α} (h : RdX E S w v xs sp) (hs : ∀ k, S k → w'.heap[k]? = w.heap[k]?) : RdX E S w' v xs sp := by
  obtain ⟨A, cap, h1, h2, h3, h4⟩ := h
  exact ⟨A, cap, h1, h2, h3, fun h0 => let ⟨b, o, cs, e1, e2, e3, e4⟩ := h4 h0; ⟨b, o, cs, e1, e2, e3, fun j hj => (cell_same (hs b e2)).trans (e4 j hj)⟩⟩

def RowK.sl (E : Ek α) (T : TypeId) : RowK (List α) where
  R := fun u xs => Res.sl E T u xs
  Q := fun S w u xs => RdS E S w u xs
  rd := fun h hs => OwnS.rd h hs
  mono := fun h hs => h.mono hs
  loc := fun h hs => h.loc hs
def RowK.slx (E : Ek α) (T : TypeId) : RowK (List α × List α) where
  R := fun u p => Res.slx E T u p.1 p.2
  Q := fun S w u p => RdX E S w u p.1 p.2
  rd := fun h hs => OwnS.rdx h hs
  mono := fun h hs => h.mono hs
  loc := fun h hs => h.loc hs

variable {K : RowK β} {os : List (Option β)} {ys : List β}

def RowK.rO (K : RowK β) (u : Value) : Option β → Res
  | some y => K.R u y
  | none => Res.fact True

def Res.rowsH (K : RowK β) (Ts : TypeId) (v : Value) (vs : List Value) (os : List (Option β)) : Res :=
  Res.star (Res.fact (vs.length = os.length) :: Res.sl Ek.val Ts v vs :: List.zipWith K.rO vs os)
abbrev Res.rows (K : RowK β) (Ts : TypeId) (v : Value) (vs : List Value) (ys : List β) : Res := Res.rowsH K Ts v vs (ys.map some)

structure RdR (K : RowK β) (S : Nat → Prop) (w : World) (v : Value) (vs : List Value) (os : List (Option β)) : Prop where
  sl : RdS Ek.val S w v vs
  len : vs.length = os.length
  row : ∀ (k : Nat) (u : Value) (y : β), vs[k]? = some u → os[k]? = some (some y) → K.Q S w u y
theorem RdR.mono (h : RdR K S w v vs os) (hs : ∀ k, S k → S' k) : RdR K S' w v vs os := ⟨h.sl.mono hs, h.len, fun k u y a b => K.mono (h.row k u y a b) hs⟩
theorem RdR.now (h : RdR K S w0 v vs os) (hp : Hp S w0 w rs) : RdR K S w v vs os :=
  ⟨h.sl.now hp, h.len, fun k u y a b => K.loc (h.row k u y a b) fun k hk => (hp.old k hk).2⟩
theorem RdR.any (h : RdR K S w v vs os) : RdR K (fun _ => True) w v vs os := h.mono fun _ _ => trivial
theorem RdR.ob (h : RdR K S w0 v vs os) (hp : Hp S w0 w rs) : RdR K (fun _ => True) w v vs os := (h.now hp).any

theorem rows_rd {fp : Nat → Prop} (h : (Res.rowsH K Ts v vs os).own fp w) (hs : ∀ k, fp k → S k) : RdR K S w v vs os := by
  obtain ⟨f, h1, h2, h3⟩ := h
  have hl := (h1 0 _ rfl).1
  have hin : ∀ i k, i < (Res.fact (vs.length = os.length) :: Res.sl Ek.val Ts v vs :: List.zipWith K.rO vs os).length → f i k → S k := fun i k hi hf => hs k ((h3 k).2 ⟨i, hi, hf⟩)
  refine ⟨OwnS.rd (h1 1 _ rfl) fun k => hin 1 k (by simp), hl, fun k u y a b => ?_⟩
  have hv := (List.getElem?_eq_some_iff.1 a).1
  have e : (List.zipWith K.rO vs os)[k]? = some (K.R u y) := by rw [List.getElem?_zipWith, a, b]; rfl
  exact K.rd (h1 (k + 2) _ e) fun j => hin (k + 2) j (by simp; omega)
theorem Hp.rd (hp : Hp S w0 w rs) {i : Nat} (hi : rs[i]? = some (Res.rowsH K Ts v vs os)) : RdR K (fun _ => True) w v vs os := by
  obtain ⟨fp, h, _⟩ := hp.take hi
  exact rows_rd h fun _ _ => trivial
end GL

namespace GL
open Go
variable {α β : Type} {E : Ek α} {S S' : Nat → Prop} {w w' w0 w1 : World} {rs l l' : List Res} {v u : Value} {vs : List Value} {T Ts : TypeId} {P : Program}
  {K : RowK β} {os : List (Option β)} {ys : List β}

def Shape (v : Value) (m : Nat) : Prop := ∃ A cap, v = .slice A m cap
theorem RdS.shapeV {xs : List α} (h : RdS E S w v xs) : Shape v xs.length := by obtain ⟨A, cap, rfl, _⟩ := h; exact ⟨A, cap, rfl⟩
theorem RdR.shapeV (h : RdR K S w v vs os) : Shape v os.length := by rw [← h.len]; exact h.sl.shapeV
theorem RdR.cut (h : RdR K S w v vs os) {lo hi : Nat} (h1 : lo ≤ hi) (h2 : hi ≤ os.length) : RdR K S w (cut v lo hi 1) ((vs.drop lo).take (hi - lo)) ((os.drop lo).take (hi - lo)) := by
  have hl := h.len
  refine ⟨RdS.cut (E := Ek.val) h.sl h1 (by omega), by simp [hl], fun k u y a b => ?_⟩
  have hk := (List.getElem?_eq_some_iff.1 a).1
  simp only [List.length_take, List.length_drop] at hk
  rw [List.getElem?_take_of_lt (by omega), List.getElem?_drop] at a b
  exact h.row _ u y a b
section ops
variable {n : Nat} {a : Act} {L : List (Nat × Value)} {ops : Array Oper} {Q : Exit → Act → World → Prop}
  {rest : List Oper} {d : Nat} {ty : TypeId} {pos : String} {af : Array Edge} {g : Option (Nat × Bool)}
  {t t' e : TypeId} {x y z : Operand} {k k' : IntKind} {p q : Int} {bytes : Nat} {z0 : α} {i m : Nat} {b : β}

end ops

theorem RdR.plain {ps : List (List α × List α)} (h : RdR (RowK.slx E T) S w v vs (ps.map some)) : RdR (RowK.sl E T) S w v vs ((ps.map Prod.fst).map some) :=
  ⟨h.sl, by have := h.len; simpa using this, fun k u y a b => by
    rw [List.getElem?_map, List.getElem?_map] at b
    obtain ⟨x, h1, h2⟩ := Option.map_eq_some_iff.1 b
    obtain ⟨q, h3, rfl⟩ := Option.map_eq_some_iff.1 h1
    obtain rfl := Option.some.inj h2
    exact RdX.rd (h.row k u q a (by rw [List.getElem?_map, h3]; rfl))⟩
theorem RdR.nil (K : RowK β) (S : Nat → Prop) (w : World) : RdR K S w (.slice none 0 0) [] (([] : List β).map some) := ⟨RdS.nil _ _ _, rfl, fun k u y a => by simp at a⟩
end GL
