/- Own library, part O: several resources as one; slices of slices; regions that draw, with late writes. -/
import Derived.Test.YtcooefnbolobaaaGlN
import Derived.KernelRfl
set_option linter.unusedVariables false
set_option linter.unusedSimpArgs false
namespace GL
open Go

variable {S S' : Nat → Prop} {w w' w0 : World} {rs l l' : List Res}

theorem Hp.reorder (hp : Hp S w0 w l) (g : Nat → Nat) (hg : ∀ j, j < l'.length → g j < l.length ∧ l'[j]? = l[g j]?)
    (hinj : ∀ i j, i < l'.length → j < l'.length → i ≠ j → g i ≠ g j) : Hp S w0 w l' := by
  obtain ⟨f, h1, h2, h3⟩ := hp.res
  refine ⟨hp.os, hp.tape, hp.output, hp.size, hp.old, fun j => f (g j), ?_, ?_, ?_⟩
  · intro i r hr
    have hi := (List.getElem?_eq_some_iff.1 hr).1
    exact h1 _ r ((hg i hi).2 ▸ hr)
  · intro i k hi hk
    exact h2 _ k (hg i hi).1 hk
  · intro i j k hi hj hne hk
    exact h3 _ _ k (hg i hi).1 (hg j hj).1 (hinj i j hi hj hne) hk

theorem Hp.swap2 {pre : List Res} {a b : Res} (hp : Hp S w0 w (pre ++ a :: b :: l)) : Hp S w0 w (pre ++ b :: a :: l) := by
  refine hp.reorder (fun j => if j = pre.length then pre.length + 1 else if j = pre.length + 1 then pre.length else j) (fun j hj => ?_) (fun i j hi hj hne => ?_)
  · simp only [List.length_append, List.length_cons] at hj ⊢
    by_cases h0 : j < pre.length
    · have e1 : j ≠ pre.length := by omega
      have e2 : j ≠ pre.length + 1 := by omega
      simp only [e1, e2, if_false]
      exact ⟨by omega, by rw [List.getElem?_append_left h0, List.getElem?_append_left h0]⟩
    · by_cases h1 : j = pre.length
      · subst h1
        refine ⟨by simp, ?_⟩
        simp only [if_true]
        rw [List.getElem?_append_right (by omega), List.getElem?_append_right (by omega)]
        simp
      · by_cases h2 : j = pre.length + 1
        · subst h2
          refine ⟨by simp, ?_⟩
          simp only [if_true, show ¬ (pre.length + 1 = pre.length) by omega, if_false]
          rw [List.getElem?_append_right (by omega), List.getElem?_append_right (by omega)]
          simp
        · simp only [h1, h2, if_false]
          refine ⟨by omega, ?_⟩
          rw [List.getElem?_append_right (by omega), List.getElem?_append_right (by omega)]
          obtain ⟨m, hm⟩ : ∃ m, j - pre.length = m + 2 := ⟨j - pre.length - 2, by omega⟩
          simp [hm]
  · intro he
    split at he <;> split at he <;> (try split at he) <;> (try split at he) <;> omega

theorem Hp.perm_pre (h : l.Perm l') : ∀ pre : List Res, Hp S w0 w (pre ++ l) → Hp S w0 w (pre ++ l') := by
  induction h with
  | nil => exact fun _ h => h
  | cons x _ ih => intro pre h; have := ih (pre ++ [x]) (by simpa using h); simpa using this
  | swap x y l => intro pre h; exact h.swap2
  | trans _ _ ih1 ih2 => exact fun pre h => ih2 pre (ih1 pre h)
theorem Hp.perm (h : l.Perm l') (hp : Hp S w0 w l) : Hp S w0 w l' := Hp.perm_pre h [] hp

/-! ### Resources made of others -/
def Res.fact (p : Prop) : Res where
  own := fun fp _ => p ∧ ∀ k, ¬ fp k
  loc := fun _ _ _ h _ => h
  bd := fun _ _ k h hk => absurd hk (h.2 k)
theorem Hp.fact {p : Prop} (h : p) (hp : Hp S w0 w rs) : Hp S w0 w (Res.fact p :: rs) := hp.push0 ⟨h, fun _ h => h⟩
theorem Hp.factOut {p : Prop} (hp : Hp S w0 w (Res.fact p :: rs)) : p := by
  obtain ⟨fp, h, _⟩ := hp.take (i := 0) rfl
  exact h.1

def Res.ex {ι : Type} (R : ι → Res) : Res where
  own := fun fp w => ∃ i, (R i).own fp w
  loc := fun fp w w' ⟨i, h⟩ hk => ⟨i, (R i).loc fp w w' h hk⟩
  bd := fun fp w k ⟨i, h⟩ hk => (R i).bd fp w k h hk
theorem Hp.map0 {r r' : Res} (hp : Hp S w0 w (r :: rs)) (h : ∀ fp, r.own fp w → r'.own fp w) : Hp S w0 w (r' :: rs) := by
  obtain ⟨f, h1, h2, h3⟩ := hp.res
  refine ⟨hp.os, hp.tape, hp.output, hp.size, hp.old, f, fun i r'' hr => ?_, fun i k hi => h2 i k (by simpa using hi), fun i j k hi hj => h3 i j k (by simpa using hi) (by simpa using hj)⟩
  cases i with
  | zero => simp at hr; subst hr; exact h _ (h1 0 r rfl)
  | succ i => exact h1 (i + 1) r'' (by simpa using hr)
theorem Hp.exClose {ι : Type} {R : ι → Res} {i : ι} (hp : Hp S w0 w (R i :: rs)) : Hp S w0 w (Res.ex R :: rs) := hp.map0 fun _ h => ⟨i, h⟩
theorem Hp.exOpen {ι : Type} {R : ι → Res} (hp : Hp S w0 w (Res.ex R :: rs)) : ∃ i, Hp S w0 w (R i :: rs) := by
  obtain ⟨f, h1, h2, h3⟩ := hp.res
  obtain ⟨i, hi⟩ := h1 0 _ rfl
  refine ⟨i, hp.os, hp.tape, hp.output, hp.size, hp.old, f, fun j r'' hr => ?_, fun j k hj => h2 j k (by simpa using hj), fun j j' k hj hj' => h3 j j' k (by simpa using hj) (by simpa using hj')⟩
  cases j with
  | zero => simp at hr; subst hr; exact hi
  | succ j => exact h1 (j + 1) r'' (by simpa using hr)

def Res.star (l : List Res) : Res where
  own := fun fp w => ∃ f : Nat → Nat → Prop, (∀ (i : Nat) (r : Res), l[i]? = some r → r.own (f i) w) ∧
    (∀ i j k, i < l.length → j < l.length → i ≠ j → f i k → ¬ f j k) ∧ (∀ k, fp k ↔ ∃ i, i < l.length ∧ f i k)
  loc := by
    rintro fp w w' ⟨f, h1, h2, h3⟩ hk
    refine ⟨f, fun i r hr => r.loc _ _ _ (h1 i r hr) fun k hf => hk k ((h3 k).2 ⟨i, (List.getElem?_eq_some_iff.1 hr).1, hf⟩), h2, h3⟩
  bd := by
    rintro fp w k ⟨f, h1, h2, h3⟩ hk
    obtain ⟨i, hi, hf⟩ := (h3 k).1 hk
    exact (l[i]).bd _ _ _ (h1 i _ (List.getElem?_eq_getElem hi)) hf

theorem Hp.star (hp : Hp S w0 w (l ++ rs)) : Hp S w0 w (Res.star l :: rs) := by
  obtain ⟨f, h1, h2, h3⟩ := hp.res
  refine ⟨hp.os, hp.tape, hp.output, hp.size, hp.old, fun i => match i with | 0 => fun k => ∃ j, j < l.length ∧ f j k | i + 1 => f (l.length + i), ?_, ?_, ?_⟩
  · intro i r hr
    cases i with
    | zero =>
      simp at hr; subst hr
      refine ⟨f, fun j r hr => h1 j r ?_, fun i j k hi hj => h3 i j k (by simp; omega) (by simp; omega), fun k => Iff.rfl⟩
      rw [List.getElem?_append_left (List.getElem?_eq_some_iff.1 hr).1]; exact hr
    | succ i =>
      refine h1 _ r ?_
      rw [List.getElem?_append_right (by omega)]; simpa using hr
  · intro i k hi hk
    cases i with
    | zero => obtain ⟨j, hj, hf⟩ := hk; exact h2 j k (by simp; omega) hf
    | succ i => exact h2 _ k (by simp at hi ⊢; omega) hk
  · intro i j k hi hj hne hk hk'
    simp only [List.length_cons] at hi hj
    cases i with
    | zero =>
      cases j with
      | zero => exact hne rfl
      | succ j => obtain ⟨m, hm, hf⟩ := hk; exact h3 m _ k (by simp; omega) (by simp; omega) (by omega) hf hk'
    | succ i =>
      cases j with
      | zero => obtain ⟨m, hm, hf⟩ := hk'; exact h3 _ m k (by simp; omega) (by simp; omega) (by omega) hk hf
      | succ j => exact h3 _ _ k (by simp; omega) (by simp; omega) (by omega) hk hk'

theorem Hp.unstar (hp : Hp S w0 w (Res.star l :: rs)) : Hp S w0 w (l ++ rs) := by
  obtain ⟨f, h1, h2, h3⟩ := hp.res
  obtain ⟨g, k1, k2, k3⟩ := h1 0 _ rfl
  have hin : ∀ i k, i < l.length → g i k → f 0 k := fun i k hi hg => (k3 k).2 ⟨i, hi, hg⟩
  refine ⟨hp.os, hp.tape, hp.output, hp.size, hp.old, fun i => if i < l.length then g i else f (i - l.length + 1), ?_, ?_, ?_⟩
  · intro i r hr
    by_cases hi : i < l.length
    · simp only [hi, if_true]
      rw [List.getElem?_append_left hi] at hr
      exact k1 i r hr
    · simp only [hi, if_false]
      rw [List.getElem?_append_right (by omega)] at hr
      exact h1 _ r (by simpa using hr)
  · intro i k hi hk
    by_cases h : i < l.length
    · simp only [h, if_true] at hk
      exact h2 0 k (by simp) (hin i k h hk)
    · simp only [h, if_false] at hk
      exact h2 _ k (by simp at hi ⊢; omega) hk
  · intro i j k hi hj hne hk hk'
    simp only [List.length_append] at hi hj
    by_cases h : i < l.length <;> by_cases h' : j < l.length <;> simp only [h, h', if_true, if_false] at hk hk'
    · exact k2 i j k h h' hne hk hk'
    · exact h3 0 _ k (by simp) (by simp; omega) (by omega) (hin i k h hk) hk'
    · exact h3 _ 0 k (by simp; omega) (by simp) (by omega) hk (hin j k h' hk')
    · exact h3 _ _ k (by simp; omega) (by simp; omega) (by omega) hk hk'
end GL

namespace GL
open Go
variable {α β : Type} {E : Ek α} {S S' : Nat → Prop} {w w' w0 : World} {rs l l' : List Res} {v u : Value} {vs : List Value} {T Ts : TypeId} {P : Program}

/-! ### Cells that hold any value -/
def gtv (vs : List Value) (i : Int) : Value := vs.getD i.toNat undef
theorem gtv_of {vs : List Value} {i : Int} (h0 : 0 ≤ i) (h1 : i < vs.length) : vs[i.toNat]? = some (gtv vs i) := by
  unfold gtv
  rw [List.getD_eq_getElem?_getD, List.getElem?_eq_getElem (by omega)]
  rfl
def Ek.val : Ek Value := ⟨1, by decide, fun vs x => vs = [x] ∧ x.oneCell' = true, fun _ _ ⟨h, _⟩ => by subst h; rfl, fun _ _ ⟨h, k⟩ => by subst h; simpa using k⟩

/-- What a row of rows is: what owns it, how it is read. -/
structure RowK (β : Type) where
  R : Value → β → Res
  Q : (Nat → Prop) → World → Value → β → Prop
  rd : ∀ {S : Nat → Prop} {fp : Nat → Prop} {w : World} {u : Value} {y : β}, (R u y).own fp w → (∀ k, fp k → S k) → Q S w u y
  mono : ∀ {S S' : Nat → Prop} {w : World} {u : Value} {y : β}, Q S w u y → (∀ k, S k → S' k) → Q S' w u y
  loc : ∀ {S : Nat → Prop} {w w' : World} {u : Value} {y : β}, Q S w u y → (∀ k, S k → w'.heap[k]? = w.heap[k]?) → Q S w' u y

theorem RdX.loc {xs sp : List α} (h : RdX E S w v xs sp) (hs : ∀ k, S k → w'.heap[k]? = w.heap[k]?) : RdX E S w' v xs sp := by
  obtain ⟨A, cap, h1, h2, h3, h4⟩ := h
  exact ⟨A, cap, h1, h2, h3, fun h0 => let ⟨b, o, cs, e1, e2, e3, e4⟩ := h4 h0; ⟨b, o, cs, e1, e2, e3, fun j hj => (cell_same (hs b e2)).trans (e4 j hj)⟩⟩

def RowK.sl (E : Ek α) (T : TypeId) : RowK (List α) where
  R := fun u xs => Res.sl E T u xs
  Q := fun S w u xs => RdS E S w u xs
  rd := fun h hs => OwnS.rd h hs
  mono := fun h hs => h.mono hs
  loc := fun h hs => h.loc hs
def RowK.slx (E : Ek α) (T : TypeId) : RowK (List α × List α) where
  R := fun u p => Res.slx E T u p.1 p.2
  Q := fun S w u p => RdX E S w u p.1 p.2
  rd := fun h hs => OwnS.rdx h hs
  mono := fun h hs => h.mono hs
  loc := fun h hs => h.loc hs

variable {K : RowK β} {os : List (Option β)} {ys : List β}

def RowK.rO (K : RowK β) (u : Value) : Option β → Res
  | some y => K.R u y
  | none => Res.fact True

/-- A slice of slices that is owned, and its rows; none: a row that is elsewhere. -/
def Res.rowsH (K : RowK β) (Ts : TypeId) (v : Value) (vs : List Value) (os : List (Option β)) : Res :=
  Res.star (Res.fact (vs.length = os.length) :: Res.sl Ek.val Ts v vs :: List.zipWith K.rO vs os)
abbrev Res.rows (K : RowK β) (Ts : TypeId) (v : Value) (vs : List Value) (ys : List β) : Res := Res.rowsH K Ts v vs (ys.map some)

theorem zip_split {γ δ ε : Type} (f : γ → δ → ε) : ∀ (k : Nat) (xs : List γ) (ys : List δ) (x : γ) (y : δ), xs[k]? = some x → ys[k]? = some y →
    ∃ A B, List.zipWith f xs ys = A ++ f x y :: B ∧ ∀ x' y', List.zipWith f (xs.set k x') (ys.set k y') = A ++ f x' y' :: B
  | 0, x0 :: xs, y0 :: ys, x, y, hx, hy => by
    simp at hx hy; subst hx; subst hy
    exact ⟨[], List.zipWith f xs ys, by simp, by simp⟩
  | k + 1, x0 :: xs, y0 :: ys, x, y, hx, hy => by
    obtain ⟨A, B, h1, h2⟩ := zip_split f k xs ys x y (by simpa using hx) (by simpa using hy)
    exact ⟨f x0 y0 :: A, B, by simp [h1], by simp [h2]⟩
  | _, [], _, _, _, hx, _ => by simp at hx
  | _, _, [], _, _, _, hy => by simp at hy

theorem Hp.rowsOpen (hp : Hp S w0 w (Res.rowsH K Ts v vs os :: rs)) :
    vs.length = os.length ∧ Hp S w0 w (Res.sl Ek.val Ts v vs :: (List.zipWith K.rO vs os ++ rs)) := by
  have h := hp.unstar
  exact ⟨h.factOut, by simpa using h.drop⟩
theorem Hp.rowsClose (hl : vs.length = os.length) (hp : Hp S w0 w (Res.sl Ek.val Ts v vs :: (List.zipWith K.rO vs os ++ rs))) :
    Hp S w0 w (Res.rowsH K Ts v vs os :: rs) := by
  have h := Hp.fact hl hp
  exact Hp.star (l := _ :: _ :: List.zipWith K.rO vs os) (by simpa using h)

/-- A row is taken out. -/
theorem Hp.rowsTake (hp : Hp S w0 w (Res.rowsH K Ts v vs os :: rs)) {k : Int} {y : β} (h0 : 0 ≤ k) (hk : os[k.toNat]? = some (some y)) :
    Hp S w0 w (K.R (gtv vs k) y :: Res.rowsH K Ts v vs (os.set k.toNat none) :: rs) := by
  obtain ⟨hl, h⟩ := hp.rowsOpen
  have hko := (List.getElem?_eq_some_iff.1 hk).1
  have hv : vs[k.toNat]? = some (gtv vs k) := gtv_of h0 (by omega)
  obtain ⟨A, B, e1, e2⟩ := zip_split K.rO k.toNat vs os _ _ hv hk
  have e3 := e2 (gtv vs k) none
  have e4 : vs.set k.toNat (gtv vs k) = vs := by
    apply List.ext_getElem?
    intro j
    by_cases hj : k.toNat = j
    · subst hj; rw [List.getElem?_set_self (by omega), hv]
    · rw [List.getElem?_set_ne hj]
  rw [e4] at e3
  rw [e1] at h
  have h1 : Hp S w0 w (K.R (gtv vs k) y :: (Res.sl Ek.val Ts v vs :: ((A ++ B) ++ rs))) := by
    refine h.perm ?_
    simp only [List.append_assoc, List.cons_append]
    exact (List.Perm.cons _ List.perm_middle).trans (List.Perm.swap _ _ _)
  have h2 : Hp S w0 w (Res.fact True :: K.R (gtv vs k) y :: (Res.sl Ek.val Ts v vs :: ((A ++ B) ++ rs))) := Hp.fact trivial h1
  have h3 : Hp S w0 w (Res.sl Ek.val Ts v vs :: (List.zipWith K.rO vs (os.set k.toNat none) ++ (K.R (gtv vs k) y :: rs))) := by
    rw [e3]
    refine h2.perm ?_
    simp only [List.append_assoc, List.cons_append, RowK.rO]
    have p1 : (Res.fact True :: K.R (gtv vs k) y :: Res.sl Ek.val Ts v vs :: (A ++ (B ++ rs))).Perm (Res.sl Ek.val Ts v vs :: Res.fact True :: K.R (gtv vs k) y :: (A ++ (B ++ rs))) :=
      (List.Perm.cons _ (List.Perm.swap _ _ _)).trans (List.Perm.swap _ _ _)
    refine p1.trans (List.Perm.cons _ ?_)
    have p2 : (K.R (gtv vs k) y :: (A ++ (B ++ rs))).Perm (A ++ (B ++ K.R (gtv vs k) y :: rs)) := by
      rw [← List.append_assoc, ← List.append_assoc]; exact List.perm_middle.symm
    exact (List.Perm.cons _ p2).trans List.perm_middle.symm
  have h4 := Hp.rowsClose (by simpa using hl) h3
  exact Hp.perm (List.Perm.swap _ _ _) h4

/-- The row that stood there is forgotten. -/
theorem Hp.rowsDrop (hp : Hp S w0 w (Res.rowsH K Ts v vs os :: rs)) {k : Nat} (hk : k < os.length) :
    Hp S w0 w (Res.rowsH K Ts v vs (os.set k none) :: rs) := by
  have hg : os[k]? = some os[k] := List.getElem?_eq_getElem hk
  cases ho : os[k] with
  | none =>
    have : os.set k none = os := by
      apply List.ext_getElem?
      intro j
      by_cases hj : k = j
      · subst hj; rw [List.getElem?_set_self hk, hg, ho]
      · rw [List.getElem?_set_ne hj]
    rw [this]; exact hp
  | some y =>
    have := hp.rowsTake (k := (k : Int)) (y := y) (by omega) (by rw [Int.toNat_natCast, hg, ho])
    exact this.drop

/-- A row is put where another one was taken. -/
theorem rows_put (hl : vs.length = os.length) {k : Nat} {y : β} (hk : os[k]? = some none) (hu : vs[k]? = some u)
    (hp : Hp S w0 w (Res.rowsH K Ts v vs os :: K.R u y :: rs)) : Hp S w0 w (Res.rowsH K Ts v vs (os.set k (some y)) :: rs) := by
  obtain ⟨_, h⟩ := hp.rowsOpen
  obtain ⟨A, B, e1, e2⟩ := zip_split K.rO k vs os _ _ hu hk
  have e3 := e2 u (some y)
  have e4 : vs.set k u = vs := by
    apply List.ext_getElem?
    intro j
    by_cases hj : k = j
    · subst hj; rw [List.getElem?_set_self (List.getElem?_eq_some_iff.1 hu).1, hu]
    · rw [List.getElem?_set_ne hj]
  rw [e4] at e3
  rw [e1] at h
  refine Hp.rowsClose (by simpa using hl) ?_
  rw [e3]
  have h1 : Hp S w0 w (Res.fact True :: Res.sl Ek.val Ts v vs :: (A ++ K.R u y :: (B ++ rs))) := by
    refine h.perm ?_
    simp only [List.append_assoc, List.cons_append, RowK.rO]
    have p2 : (A ++ (B ++ K.R u y :: rs)).Perm (A ++ K.R u y :: (B ++ rs)) := (List.Perm.append_left A (List.perm_middle (l₁ := B)))
    have p3 : (A ++ Res.fact True :: (B ++ K.R u y :: rs)).Perm (Res.fact True :: (A ++ (B ++ K.R u y :: rs))) := List.perm_middle
    exact (List.Perm.cons _ (p3.trans (List.Perm.cons _ p2))).trans (List.Perm.swap _ _ _)
  simpa [RowK.rO] using h1.drop

/-! ### Reading rows -/
structure RdR (K : RowK β) (S : Nat → Prop) (w : World) (v : Value) (vs : List Value) (os : List (Option β)) : Prop where
  sl : RdS Ek.val S w v vs
  len : vs.length = os.length
  row : ∀ (k : Nat) (u : Value) (y : β), vs[k]? = some u → os[k]? = some (some y) → K.Q S w u y
theorem RdR.mono (h : RdR K S w v vs os) (hs : ∀ k, S k → S' k) : RdR K S' w v vs os := ⟨h.sl.mono hs, h.len, fun k u y a b => K.mono (h.row k u y a b) hs⟩
theorem RdR.now (h : RdR K S w0 v vs os) (hp : Hp S w0 w rs) : RdR K S w v vs os :=
  ⟨h.sl.now hp, h.len, fun k u y a b => K.loc (h.row k u y a b) fun k hk => (hp.old k hk).2⟩
theorem RdR.any (h : RdR K S w v vs os) : RdR K (fun _ => True) w v vs os := h.mono fun _ _ => trivial
theorem RdR.ob (h : RdR K S w0 v vs os) (hp : Hp S w0 w rs) : RdR K (fun _ => True) w v vs os := (h.now hp).any

theorem rows_rd {fp : Nat → Prop} (h : (Res.rowsH K Ts v vs os).own fp w) (hs : ∀ k, fp k → S k) : RdR K S w v vs os := by
  obtain ⟨f, h1, h2, h3⟩ := h
  have hl := (h1 0 _ rfl).1
  have hin : ∀ i k, i < (Res.fact (vs.length = os.length) :: Res.sl Ek.val Ts v vs :: List.zipWith K.rO vs os).length → f i k → S k := fun i k hi hf => hs k ((h3 k).2 ⟨i, hi, hf⟩)
  refine ⟨OwnS.rd (h1 1 _ rfl) fun k => hin 1 k (by simp), hl, fun k u y a b => ?_⟩
  have hv := (List.getElem?_eq_some_iff.1 a).1
  have e : (List.zipWith K.rO vs os)[k]? = some (K.R u y) := by rw [List.getElem?_zipWith, a, b]; rfl
  exact K.rd (h1 (k + 2) _ e) fun j => hin (k + 2) j (by simp; omega)
theorem Hp.rd (hp : Hp S w0 w rs) {i : Nat} (hi : rs[i]? = some (Res.rowsH K Ts v vs os)) : RdR K (fun _ => True) w v vs os := by
  obtain ⟨fp, h, _⟩ := hp.take hi
  exact rows_rd h fun _ _ => trivial
theorem Hp.lendR (hp : Hp S w0 w rs) {i : Nat} (hi : rs[i]? = some (Res.rowsH K Ts v vs os)) :
    ∃ S' : Nat → Prop, Hp S' w w (rs.eraseIdx i) ∧ RdR K S' w v vs os ∧ (∀ k, S k → S' k) ∧
      ∀ (w' : World) (l : List Res), Hp S' w w' l → Hp S w0 w' (Res.rowsH K Ts v vs os :: l) := by
  obtain ⟨S', h1, ⟨fp, h2, h3⟩, h4, h5⟩ := hp.lend hi
  exact ⟨S', h1, rows_rd h2 h3, h4, h5⟩
theorem RdR.rowG [Inhabited β] (h : RdR K S w v vs (ys.map some)) {k : Int} (h0 : 0 ≤ k) (h1 : k < ys.length) : K.Q S w (gtv vs k) (gt ys k) := by
  have hl := h.len
  rw [List.length_map] at hl
  exact h.row k.toNat _ _ (gtv_of h0 (by omega)) (by rw [List.getElem?_map, gt_of h0 h1]; rfl)
theorem RdR.rowS [Inhabited α] {xss : List (List α)} (h : RdR (RowK.sl E T) S w v vs (xss.map some)) {k : Int} (h0 : 0 ≤ k) (h1 : k < xss.length) : RdS E S w (gtv vs k) (gt xss k) := h.rowG h0 h1
theorem RdR.rowX [Inhabited α] {xss : List (List α × List α)} (h : RdR (RowK.slx E T) S w v vs (xss.map some)) {k : Int} (h0 : 0 ≤ k) (h1 : k < xss.length) : RdX E S w (gtv vs k) (gt xss k).1 (gt xss k).2 := h.rowG h0 h1

theorem RdR.lenY (h : RdR K S w v vs (ys.map some)) : vs.length = ys.length := by have := h.len; simpa using this

/-- Nothing yet. -/
theorem Hp.rowsNil (hp : Hp S w0 w rs) (K : RowK β) (Ts : TypeId) : Hp S w0 w (Res.rows K Ts (.slice none 0 0) [] [] :: rs) :=
  Hp.rowsClose (os := []) rfl (by simpa using hp.nil Ek.val Ts)
theorem Hp.rowsMade {n : Nat} {nv : Value} (hp : Hp S w0 w (Res.sl Ek.val Ts v (List.replicate n nv) :: rs)) (K : RowK β) (y : β) (hy : ∀ w, (K.R nv y).own (fun _ => False) w) :
    Hp S w0 w (Res.rows K Ts v (List.replicate n nv) (List.replicate n y) :: rs) := by
  refine Hp.rowsClose (by simp) ?_
  have : ∀ m, Hp S w0 w (List.zipWith K.rO (List.replicate m nv) ((List.replicate m y).map some) ++ (Res.sl Ek.val Ts v (List.replicate n nv) :: rs)) := by
    intro m
    induction m with
    | zero => simpa using hp
    | succ m ih => simpa [List.replicate_succ, RowK.rO] using ih.push0 (hy w)
  refine (this n).perm ?_
  exact List.perm_middle
end GL

namespace GL
open Go
variable {α β : Type} {E : Ek α} {S S' : Nat → Prop} {w w' w0 w1 : World} {rs l l' : List Res} {v u : Value} {vs : List Value} {T Ts : TypeId} {P : Program}
  {K : RowK β} {os : List (Option β)} {ys : List β}

def Shape (v : Value) (m : Nat) : Prop := ∃ A cap, v = .slice A m cap
def ShapeN (v : Value) (m : Nat) : Prop := 0 < m → ∃ b o cap, v = .slice (some ⟨b, o, none⟩) m cap
theorem RdS.shapeN {xs : List α} (h : RdS E S w v xs) : ShapeN v xs.length := by
  obtain ⟨A, cap, rfl, _, _, h4⟩ := h
  intro h0
  obtain ⟨b, o, cs, rfl, _⟩ := h4 h0
  exact ⟨b, o, cap, rfl⟩
theorem RdS.shapeV {xs : List α} (h : RdS E S w v xs) : Shape v xs.length := by obtain ⟨A, cap, rfl, _⟩ := h; exact ⟨A, cap, rfl⟩
theorem RdR.shapeV (h : RdR K S w v vs os) : Shape v os.length := by rw [← h.len]; exact h.sl.shapeV
theorem RdR.shapeN (h : RdR K S w v vs os) : ShapeN v os.length := by rw [← h.len]; exact h.sl.shapeN
theorem RdR.shapeVY (h : RdR K S w v vs (ys.map some)) : Shape v ys.length := by simpa using h.shapeV
theorem RdR.shapeNY (h : RdR K S w v vs (ys.map some)) : ShapeN v ys.length := by simpa using h.shapeN

theorem RdR.cut (h : RdR K S w v vs os) {lo hi : Nat} (h1 : lo ≤ hi) (h2 : hi ≤ os.length) : RdR K S w (cut v lo hi 1) ((vs.drop lo).take (hi - lo)) ((os.drop lo).take (hi - lo)) := by
  have hl := h.len
  refine ⟨RdS.cut (E := Ek.val) h.sl h1 (by omega), by simp [hl], fun k u y a b => ?_⟩
  have hk := (List.getElem?_eq_some_iff.1 a).1
  simp only [List.length_take, List.length_drop] at hk
  rw [List.getElem?_take_of_lt (by omega), List.getElem?_drop] at a b
  exact h.row _ u y a b
theorem RdR.cutY (h : RdR K S w v vs (ys.map some)) {lo hi : Nat} (h1 : lo ≤ hi) (h2 : hi ≤ ys.length) : RdR K S w (GL.cut v lo hi 1) ((vs.drop lo).take (hi - lo)) (((ys.drop lo).take (hi - lo)).map some) := by
  have := h.cut h1 (by simpa using h2)
  simpa using this

/-- All rows are there. -/
def allS : List (Option β) → Option (List β)
  | [] => some []
  | none :: _ => none
  | some y :: t => (allS t).map (y :: ·)
theorem allS_eq : ∀ {os : List (Option β)} {ys : List β}, allS os = some ys → os = ys.map some
  | [], ys, h => by simp [allS] at h; subst h; rfl
  | none :: _, _, h => by simp [allS] at h
  | some y :: t, ys, h => by
    simp only [allS, Option.map_eq_some_iff] at h
    obtain ⟨zs, h1, rfl⟩ := h
    rw [allS_eq h1]; rfl
theorem allS_map : ∀ (ys : List β), allS (ys.map some) = some ys
  | [] => rfl
  | y :: t => by simp [allS, allS_map t]
def gtO (os : List (Option β)) (i : Int) : Option β := (os[i.toNat]?).bind id

section ops
variable {n : Nat} {a : Act} {L : List (Nat × Value)} {ops : Array Oper} {Q : Exit → Act → World → Prop}
  {rest : List Oper} {d : Nat} {ty : TypeId} {pos : String} {af : Array Edge} {g : Option (Nat × Bool)}
  {t t' e : TypeId} {x y z : Operand} {k k' : IntKind} {p q : Int} {bytes : Nat} {z0 : α} {i m : Nat} {b : β}

theorem st_lenV (hf : Fr n a L) (hd : d < n) (ht : P.underlying t = some (.slice e))
    (hw : Region.wanted ⟨some d, .call ⟨.builtin .len, #[x], #[t]⟩, ty, pos, af, g⟩ (yielded ops a.tmps) = true)
    (hx : evL L x = some v) (hs : Shape v m)
    (h : ∀ a', a' = a.put (some d) (.int .i64 (m : Int)) → Fr n a' ((d, .int .i64 (m : Int)) :: L) → wpList P ops Q rest a' w) :
    wpList P ops Q (⟨some d, .call ⟨.builtin .len, #[x], #[t]⟩, ty, pos, af, g⟩ :: rest) a w := by
  obtain ⟨A, cap, rfl⟩ := hs
  exact st_run hf hw rfl hd (by simp [execOp, resolve, invoke, builtin, hf.ev hx, Builtin.len_, run_underlying ht, goInt, Result.andThen]) h

theorem st_indexV (hf : Fr n a L) (hd : d < n) (ht : P.underlying t = some (.slice e)) (he : ElT P E e bytes z0)
    (hw : Region.wanted ⟨some d, .indexAddr t x y, ty, pos, af, g⟩ (yielded ops a.tmps) = true)
    (hx : evL L x = some v) (hy : evL L y = some (.int k p)) (hs : ShapeN v m) (h0 : 0 ≤ p) (h1 : p < m)
    (h : ∀ a', a' = a.put (some d) (eptr v p E.n) → Fr n a' ((d, eptr v p E.n) :: L) → wpList P ops Q rest a' w) :
    wpList P ops Q (⟨some d, .indexAddr t x y, ty, pos, af, g⟩ :: rest) a w := by
  obtain ⟨i, z, i1, i2, i3, i4, i5⟩ := he.out
  obtain ⟨b, o, cap, rfl⟩ := hs (by omega)
  refine st_run hf hw rfl hd (v := eptr _ p E.n) (w' := w) ?_ h
  simp [execOp, hf.ev hx, hf.ev hy, Instr.indexAt, asIntOf, run_underlying ht, Go.sizeOf, typeInfo, i1, i3, h0, h1, Result.andThen, eptr]

/-- A row is read. -/
theorem st_ldR (hf : Fr n a L) (hd : d < n) (hT : Plain P T)
    (hw : Region.wanted ⟨some d, .load T x, ty, pos, af, g⟩ (yielded ops a.tmps) = true)
    (hx : evL L x = some (eptr v p 1)) (hs : RdR K (fun _ => True) w v vs os) (h0 : 0 ≤ p) (h1 : p < (os.length : Int))
    (h : ∀ a', a' = a.put (some d) (gtv vs p) → Fr n a' ((d, gtv vs p) :: L) → wpList P ops Q rest a' w) :
    wpList P ops Q (⟨some d, .load T x, ty, pos, af, g⟩ :: rest) a w :=
  letI : Inhabited Value := ⟨undef⟩
  st_ldE (E := Ek.val) hf hd hT id (fun _ _ h => h.1) hw hx hs.sl h0 (by have := hs.len; omega) h
theorem st_ldRY (hf : Fr n a L) (hd : d < n) (hT : Plain P T)
    (hw : Region.wanted ⟨some d, .load T x, ty, pos, af, g⟩ (yielded ops a.tmps) = true)
    (hx : evL L x = some (eptr v p 1)) (hs : RdR K (fun _ => True) w v vs (ys.map some)) (h0 : 0 ≤ p) (h1 : p < (ys.length : Int))
    (h : ∀ a', a' = a.put (some d) (gtv vs p) → Fr n a' ((d, gtv vs p) :: L) → wpList P ops Q rest a' w) :
    wpList P ops Q (⟨some d, .load T x, ty, pos, af, g⟩ :: rest) a w := st_ldR hf hd hT hw hx hs h0 (by simpa using h1) h

theorem zip_none {k : Nat} (hk : os[k]? = some none) (u : Value) : List.zipWith K.rO (vs.set k u) os = List.zipWith K.rO vs os := by
  apply List.ext_getElem?
  intro j
  rw [List.getElem?_zipWith, List.getElem?_zipWith]
  by_cases hj : k = j
  · subst hj
    rw [hk]
    by_cases hv : k < vs.length
    · rw [List.getElem?_set_self hv, List.getElem?_eq_getElem hv]; rfl
    · rw [List.getElem?_eq_none (by simpa using hv), List.getElem?_eq_none (by simpa using hv)]
  · rw [List.getElem?_set_ne hj]

/-- A row is stored. -/
theorem st_storeR {nv : Value} (hf : Fr n a L) (he : ElT P Ek.val e bytes nv) (hp : Hp S w0 w (Res.rowsH K e v vs os :: K.R u b :: rs)) (hsh : Shape u m)
    (hw : Region.wanted ⟨none, .store e x y, ty, pos, af, g⟩ (yielded ops a.tmps) = true)
    (hx : evL L x = some (eptr v p 1)) (hy : evL L y = some u) (h0 : 0 ≤ p) (h1 : p < (os.length : Int))
    (h : ∀ a' w', Fr n a' L → Hp S w0 w' (Res.rowsH K e v (vs.set p.toNat u) (os.set p.toNat (some b)) :: rs) → wpList P ops Q rest a' w') :
    wpList P ops Q (⟨none, .store e x y, ty, pos, af, g⟩ :: rest) a w := by
  have hk : p.toNat < os.length := by omega
  obtain ⟨hl, hp2⟩ := (hp.rowsDrop hk).rowsOpen
  simp only [List.length_set] at hl
  have hn : (os.set p.toNat none)[p.toNat]? = some none := List.getElem?_set_self hk
  letI : Inhabited Value := ⟨undef⟩
  refine st_store (E := Ek.val) (u := u) (x' := u) hf he hp2 (i := 0) rfl hw hx hy ?_ h0 (by omega) fun a' w' hf' hp3 => h a' w' hf' ?_
  · obtain ⟨A, cap, rfl⟩ := hsh; exact ⟨rfl, rfl⟩
  · simp only [List.set_cons_zero] at hp3
    rw [← zip_none hn u] at hp3
    have hp4 := Hp.rowsClose (by simpa using hl) hp3
    have := rows_put (K := K) (y := b) (u := u) (by simpa using hl) hn (List.getElem?_set_self (by omega)) hp4
    simpa using this

theorem st_appendR {nv v1 : Value} (hf : Fr n a L) (hd : d < n) (he : ElT P Ek.val e bytes nv) (ht : P.underlying t = some (.slice e)) (hb1 : 0 < bytes)
    (hp : Hp S w0 w (Res.rowsH K e v vs os :: K.R u b :: rs))
    (hw : Region.wanted ⟨some d, .call ⟨.builtin .append, #[x, y], #[t, t]⟩, ty, pos, af, g⟩ (yielded ops a.tmps) = true)
    (hx : evL L x = some v) (hy : evL L y = some v1) (hs : Sl Ek.val w v1 [u]) (hb : (os.length + 1) * bytes ≤ 140737488355328)
    (h : ∀ a' w' v', Fr n a' ((d, v') :: L) → Hp S w0 w' (Res.rowsH K e v' (vs ++ [u]) (os ++ [some b]) :: rs) → wpList P ops Q rest a' w') :
    wpList P ops Q (⟨some d, .call ⟨.builtin .append, #[x, y], #[t, t]⟩, ty, pos, af, g⟩ :: rest) a w := by
  obtain ⟨hl, hp2⟩ := hp.rowsOpen
  refine st_append (E := Ek.val) hf hd he ht hb1 hp2 (i := 0) rfl hw hx hy hs (by simpa [hl] using hb) fun a' w' v' hf' hp3 => h a' w' v' hf' ?_
  simp only [List.set_cons_zero] at hp3
  refine Hp.rowsClose (by simp [hl]) ?_
  have e1 : List.zipWith K.rO (vs ++ [u]) (os ++ [some b]) = List.zipWith K.rO vs os ++ [K.R u b] := by
    rw [List.zipWith_append hl]; rfl
  rw [e1]
  simpa using hp3
end ops

theorem fill1 {xs : List α} {i : Nat} {y : α} : ((xs.map some).set i none).set i (some y) = (xs.set i y).map some := by rw [List.set_set, List.map_set]
theorem fill2 {xs : List α} {i : Nat} {y : α} : (xs.map some).set i (some y) = (xs.set i y).map some := by rw [List.map_set]
theorem fill3 {xs : List α} {y : α} : xs.map some ++ [some y] = (xs ++ [y]).map some := by simp
theorem take1 [Inhabited α] {xs : List α} {k : Int} (h0 : 0 ≤ k) (h1 : k < xs.length) : (xs.map some)[k.toNat]? = some (some (gt xs k)) := by rw [List.getElem?_map, gt_of h0 h1]; rfl
theorem take2 {os : List (Option α)} {k : Int} {y : α} (h : gtO os k = some y) : os[k.toNat]? = some (some y) := by
  unfold gtO at h
  cases ho : os[k.toNat]? with
  | none => rw [ho] at h; cases h
  | some o => rw [ho] at h; simp at h; rw [h]
theorem RdR.cutO (h : RdR K S w v vs os) {lo hi : Nat} (h1 : lo ≤ hi) (h2 : hi ≤ os.length) (hq : allS ((os.drop lo).take (hi - lo)) = some ys) :
    RdR K S w (GL.cut v lo hi 1) ((vs.drop lo).take (hi - lo)) (ys.map some) := by have := h.cut h1 h2; rw [allS_eq hq] at this; exact this
theorem RdR.plain {ps : List (List α × List α)} (h : RdR (RowK.slx E T) S w v vs (ps.map some)) : RdR (RowK.sl E T) S w v vs ((ps.map Prod.fst).map some) :=
  ⟨h.sl, by have := h.len; simpa using this, fun k u y a b => by
    rw [List.getElem?_map, List.getElem?_map] at b
    obtain ⟨x, h1, h2⟩ := Option.map_eq_some_iff.1 b
    obtain ⟨q, h3, rfl⟩ := Option.map_eq_some_iff.1 h1
    obtain rfl := Option.some.inj h2
    exact RdX.rd (h.row k u q a (by rw [List.getElem?_map, h3]; rfl))⟩
theorem st_cutR {n : Nat} {a : Act} {L : List (Nat × Value)} {ops : Array Oper} {Q : Exit → Act → World → Prop} {rest : List Oper} {d : Nat} {ty : TypeId} {pos : String} {af : Array Edge} {g : Option (Nat × Bool)} {t e : TypeId} {x : Operand} {bytes : Nat} {z0 : Value}
    (hf : Fr n a L) (hd : d < n) (ht : P.underlying t = some (.slice e)) (he : ElT P Ek.val e bytes z0) {lo hi : Option Operand} {l h : Nat}
    (hw : Region.wanted ⟨some d, .slice t x lo hi none, ty, pos, af, g⟩ (yielded ops a.tmps) = true)
    (hx : evL L x = some v) (hs : RdR K S w1 v vs os)
    (hlo : lo = none ∧ l = 0 ∨ ∃ k o, lo = some o ∧ evL L o = some (.int k (l : Int))) (hhi : hi = none ∧ h = os.length ∨ ∃ k o, hi = some o ∧ evL L o = some (.int k (h : Int)))
    (h1 : l ≤ h) (h2 : h ≤ os.length)
    (hk : ∀ a', a' = a.put (some d) (GL.cut v l h 1) → Fr n a' ((d, GL.cut v l h 1) :: L) → wpList P ops Q rest a' w) :
    wpList P ops Q (⟨some d, .slice t x lo hi none, ty, pos, af, g⟩ :: rest) a w := by
  have hl := hs.len
  exact st_cutS (E := Ek.val) hf hd ht he hw hx hs.sl.any hlo (hhi.imp_left fun h => ⟨h.1, h.2.trans hl.symm⟩) h1 (by omega) hk

theorem RdR.nil (K : RowK β) (S : Nat → Prop) (w : World) : RdR K S w (.slice none 0 0) [] (([] : List β).map some) := ⟨RdS.nil _ _ _, rfl, fun k u y a => by simp at a⟩
theorem one_of {m : Nat} (h : Shape u m) : u.oneCell' = true := by obtain ⟨A, c, rfl⟩ := h; rfl
theorem fillv1 {u : Value} {m : Nat} (h : Shape u m) : Instr.fill (fun i => some (i * Ek.val.n, Ek.val.n)) ((Array.range (1 * Ek.val.n)).map ((Value.slice none 0 0).cells[· % (Value.slice none 0 0).cells.size]!)) (#[(0, u)] : Array (Nat × Value)).toList = some #[u] := by
  obtain ⟨A, c, rfl⟩ := h; kernel_rfl
theorem fillv2 {u u' : Value} {m m' : Nat} (h : Shape u m) (h' : Shape u' m') : Instr.fill (fun i => some (i * Ek.val.n, Ek.val.n)) ((Array.range (2 * Ek.val.n)).map ((Value.slice none 0 0).cells[· % (Value.slice none 0 0).cells.size]!)) (#[(0, u), (1, u')] : Array (Nat × Value)).toList = some #[u, u'] := by
  obtain ⟨A, c, rfl⟩ := h; obtain ⟨A', c', rfl⟩ := h'; kernel_rfl
end GL
