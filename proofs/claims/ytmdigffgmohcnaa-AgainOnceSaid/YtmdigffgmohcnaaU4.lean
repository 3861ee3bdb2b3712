/- AgainOnce: the plain law. -/
import Derived.Test.YtmdigffgmohcnaaG4
import Derived.Test.YtmdigffgmohcnaaGlK
import Derived.Test.YtmdigffgmohcnaaGlW
set_option linter.unusedVariables false
set_option linter.unusedSimpArgs false
set_option maxRecDepth 100000
set_option maxHeartbeats 1000000
namespace Go.Proofs.Ytmdigffgmohcnaa
open Go GL
/-! ### Lists changed by place -/
section
variable {α : Type}
def mi (P : Nat → α → Bool) (g : α → α) (A : List α) : List α := A.mapIdx fun p r => if P p r = true then g r else r
variable {P Q : Nat → α → Bool} {g : α → α} {A : List α}
theorem mi_len : (mi P g A).length = A.length := by simp [mi]
theorem mi_get {p : Nat} (h : p < A.length) : (mi P g A)[p]'(by rw [mi_len]; exact h) = if P p A[p] = true then g A[p] else A[p] := by simp [mi]
theorem mi_get? (p : Nat) : (mi P g A)[p]? = (A[p]?).map fun r => if P p r = true then g r else r := by simp [mi]
theorem mi_congr (h : ∀ p r, A[p]? = some r → P p r = Q p r) : mi P g A = mi Q g A := by
  apply List.ext_getElem?
  intro p
  rw [mi_get?, mi_get?]
  cases hp : A[p]? with
  | none => rfl
  | some r => simp only [Option.map_some]; rw [h p r hp]
theorem mi_set {m : Nat} (hm : m < A.length) (h : ∀ p r, A[p]? = some r → p ≠ m → Q p r = P p r) : mi Q g A = (mi P g A).set m (if Q m A[m] = true then g A[m] else A[m]) := by
  apply List.ext_getElem?
  intro p
  rw [mi_get?]
  by_cases hp : m = p
  · subst hp
    rw [List.getElem?_set_self (by rw [mi_len]; exact hm), List.getElem?_eq_getElem hm]; rfl
  · rw [List.getElem?_set_ne hp, mi_get?]
    cases hq : A[p]? with
    | none => rfl
    | some r => simp only [Option.map_some]; rw [h p r hq (Ne.symm hp)]
theorem mi_none (h : ∀ p r, A[p]? = some r → P p r = false) : mi P g A = A := by
  apply List.ext_getElem?
  intro p
  rw [mi_get?]
  cases hp : A[p]? with
  | none => rfl
  | some r => simp only [Option.map_some]; rw [h p r hp]; rfl
theorem gt_set_self [Inhabited α] {X : List α} {j : Nat} (h : j < X.length) (y : α) : gt (X.set j y) (j : Int) = y := by
  rw [gt_nat (by simpa using h)]; simp
end
theorem loop_run {S R : Type} {f : S → Option (S ⊕ R)} (n : Nat) (s : Nat → S) (r : R) (h1 : ∀ i, i < n → f (s i) = some (.inl (s (i + 1)))) (h2 : f (s n) = some (.inr r)) {s0 : S} (h0 : s0 = s 0) : loop f s0 = some r := by
  subst h0
  have : ∀ k i : Nat, i + k = n → loop f (s i) = some r := by
    intro k
    induction k with
    | zero => intro i hi; obtain rfl : i = n := by omega
              exact loop_done h2
    | succ k ih => intro i hi; rw [loop_step (h1 i (by omega))]; exact ih (i + 1) (by omega)
  exact this n 0 (by omega)

theorem bnd_eq {α β : Type} {o : Option α} {a : α} {f : α → Option β} {r : Option β} (h : o = some a) (h2 : f a = r) : o.bind f = r := by subst h; exact h2
theorem tmodn {x : Int} (h : 0 ≤ x) (m : Int) : x.tmod m = x % m := Int.tmod_eq_emod_of_nonneg h
/-! ### What is answered for -/
abbrev RE := ByteArray × Int × Bool
abbrev CE := ByteArray × Bool × Int × Bool
abbrev FR := Int × Int × Bool × ByteArray
def cv (r : RE) : CE := (r.1, decide (0 ≤ r.2.1), if 0 ≤ r.2.1 then r.2.1 else 0, r.2.2)
def vw (A : List RE) (f : Nat) : List CE := (A.drop f).map cv
theorem vw_len {A : List RE} {f : Nat} : (vw A f).length = A.length - f := by simp [vw]
theorem vw_gt {A : List RE} {f j : Nat} (h : f + j < A.length) : gt (vw A f) (j : Int) = cv (A[f + j]) := by
  rw [gt_nat (by rw [vw_len]; omega)]; simp [vw]
theorem vw_set {A : List RE} {f j : Nat} {y : RE} : vw (A.set (f + j) y) f = (vw A f).set j (cv y) := by
  unfold vw
  rw [← List.map_set]
  congr 1
  apply List.ext_getElem?
  intro i
  rw [List.getElem?_drop]
  by_cases h : j = i
  · subst h
    by_cases hl : f + j < A.length
    · rw [List.getElem?_set_self hl, List.getElem?_set_self (by simp; omega)]
    · rw [List.getElem?_eq_none (by simp; omega), List.getElem?_eq_none (by simp; omega)]
  · rw [List.getElem?_set_ne (by omega), List.getElem?_set_ne h, List.getElem?_drop]
theorem vw_drop {A : List RE} {f : Nat} : (vw A f).drop 1 = vw A (f + 1) := by simp [vw]

def fr (A : List RE) : Nat := (A.takeWhile (·.2.2)).length
theorem fr_le (A : List RE) : fr A ≤ A.length := by
  unfold fr
  exact List.IsPrefix.length_le (List.takeWhile_prefix _)
theorem fr_unique {A : List RE} {m : Nat} (hm : m ≤ A.length) (h : ∀ p (hp : p < A.length), p < m → A[p].2.2 = true) (h1 : ∀ (hp : m < A.length), A[m].2.2 = false) : fr A = m := by
  induction A generalizing m with
  | nil => simp at hm; subst hm; rfl
  | cons a A ih =>
    cases m with
    | zero =>
      have := h1 (by simp)
      simp at this
      simp [fr, List.takeWhile_cons, this]
    | succ m =>
      have h0 := h 0 (by simp) (by omega)
      simp at h0
      have := ih (m := m) (by simpa using hm) (fun p hp hpm => by have := h (p + 1) (by simpa using hp) (by omega); simpa using this) (fun hp => by have := h1 (by simpa using hp); simpa using this)
      unfold fr at this ⊢
      rw [List.takeWhile_cons, h0]
      simp [this]
theorem fr_spec (A : List RE) : (∀ p (hp : p < A.length), p < fr A → A[p].2.2 = true) ∧ (∀ (hp : fr A < A.length), A[fr A].2.2 = false) := by
  induction A with
  | nil => exact ⟨fun p hp => by simp at hp, fun hp => by simp at hp⟩
  | cons a A ih =>
    by_cases ha : a.2.2 = true
    · have e : fr (a :: A) = fr A + 1 := by simp [fr, List.takeWhile_cons, ha]
      refine ⟨fun p hp h => ?_, fun hp => ?_⟩
      · cases p with
        | zero => exact ha
        | succ p => have := ih.1 p (by simpa using hp) (by omega); simpa using this
      · have h2 : fr A < A.length := by rw [e] at hp; simpa using hp
        have := ih.2 h2
        simp only [e]
        simpa using this
    · have e : fr (a :: A) = 0 := by simp [fr, List.takeWhile_cons, ha]
      refine ⟨fun p hp h => by omega, fun hp => ?_⟩
      simp only [e]
      simpa using ha
theorem le_fr {A : List RE} {m : Nat} (hm : m ≤ A.length) (h : ∀ p (hp : p < A.length), p < m → A[p].2.2 = true) : m ≤ fr A := by
  rcases Nat.lt_or_ge (fr A) m with h1 | h1
  · have h2 := (fr_spec A).2 (by omega)
    have h3 := h (fr A) (by omega) h1
    rw [h2] at h3; cases h3
  · exact h1
theorem fr_same {A B : List RE} (hl : A.length = B.length) (h : ∀ p (hp : p < A.length) (hq : p < B.length), A[p].2.2 = B[p].2.2) : fr A = fr B := by
  have hs := fr_spec B
  have hb := fr_le B
  refine fr_unique (by omega) (fun p hp hpm => ?_) (fun hp => ?_)
  · rw [h p hp (by omega)]; exact hs.1 p (by omega) hpm
  · rw [h _ hp (by omega)]; exact hs.2 (by omega)

/-- What holds of all messages of a sender: those that were sent are the first ones, no more than the window behind the front. -/
structure Inv (W : Nat) (A : List RE) (S : Nat) : Prop where
  fS : fr A ≤ S
  Sl : S ≤ A.length
  Sw : S ≤ fr A + W
  sent : ∀ p (h : p < A.length), 0 ≤ A[p].2.1 ↔ p < S
  ans : ∀ p (h : p < A.length), A[p].2.2 = true → p < S
theorem Inv.new (W : Nat) : Inv W [] 0 := ⟨by simp [fr], by simp, by simp, fun p h => by simp at h, fun p h => by simp at h⟩
theorem Inv.offer {W : Nat} {A : List RE} {S : Nat} (h : Inv W A S) (b : ByteArray) : Inv W (A ++ [(b, -1, false)]) S ∧ fr (A ++ [(b, -1, false)]) = fr A := by
  have hs := fr_spec A
  have hl := fr_le A
  have e : fr (A ++ [(b, -1, false)]) = fr A := by
    refine fr_unique (by simp; omega) (fun p hp hpm => ?_) (fun hp => ?_)
    · rw [List.getElem_append_left (by omega)]; exact hs.1 p (by omega) hpm
    · rcases Nat.lt_or_ge (fr A) A.length with h1 | h1
      · rw [List.getElem_append_left h1]; exact hs.2 h1
      · rw [List.getElem_append_right (by omega)]; simp
  refine ⟨⟨by rw [e]; exact h.fS, by simp; have := h.Sl; omega, by rw [e]; exact h.Sw, fun p hp => ?_, fun p hp ha => ?_⟩, e⟩
  · rcases Nat.lt_or_ge p A.length with h1 | h1
    · rw [List.getElem_append_left h1]; exact h.sent p h1
    · rw [List.getElem_append_right (by omega)]; have := h.Sl; simp; omega
  · rcases Nat.lt_or_ge p A.length with h1 | h1
    · rw [List.getElem_append_left h1] at ha; exact h.ans p h1 ha
    · rw [List.getElem_append_right (by omega)] at ha; simp at ha
/-! ### Tick -/
def skip (now wait : Int) (r : RE) : Bool := r.2.2 || (decide (0 ≤ r.2.1) && decide (IntKind.i64.wrap (now - r.2.1) < wait))
def TA (now wait : Int) (f j : Nat) (A : List RE) : List RE := mi (fun p r => decide (f ≤ p) && decide (p < f + j) && !skip now wait r) (fun r => (r.1, now, r.2.2)) A
def TO (now wait : Int) (f : Nat) (A : List RE) : Nat → List FR
  | 0 => []
  | j + 1 => if skip now wait (gt A ((f + j : Nat) : Int)) = true then TO now wait f A j else TO now wait f A j ++ [(1, (((f + j) % 256 : Nat) : Int), false, (gt A ((f + j : Nat) : Int)).1)]
theorem TO_len (now wait : Int) (f : Nat) (A : List RE) (j : Nat) : (TO now wait f A j).length ≤ j := by
  induction j with
  | zero => simp [TO]
  | succ j ih =>
    unfold TO
    split
    · omega
    · simp; omega
theorem TA_len {now wait : Int} {f j : Nat} {A : List RE} : (TA now wait f j A).length = A.length := mi_len
theorem TA_at {now wait : Int} {f j p : Nat} {A : List RE} (h : p < A.length) (hp : p < (TA now wait f j A).length) :
    (TA now wait f j A)[p] = if (decide (f ≤ p) && decide (p < f + j) && !skip now wait A[p]) = true then (A[p].1, now, A[p].2.2) else A[p] := mi_get h
theorem TA_zero {now wait : Int} {f : Nat} {A : List RE} : TA now wait f 0 A = A := mi_none fun p r _ => by
  have : ¬ (f ≤ p ∧ p < f + 0) := by omega
  simp; omega
theorem TA_get {now wait : Int} {f j : Nat} {A : List RE} (h : f + j < A.length) : (TA now wait f j A)[f + j]'(by rw [TA_len]; exact h) = A[f + j] := by
  rw [TA_at h]
  simp
theorem TA_succ {now wait : Int} {f j : Nat} {A : List RE} (h : f + j < A.length) : TA now wait f (j + 1) A = if skip now wait A[f + j] = true then TA now wait f j A else (TA now wait f j A).set (f + j) (A[f + j].1, now, A[f + j].2.2) := by
  have := mi_set (P := fun p r => decide (f ≤ p) && decide (p < f + j) && !skip now wait r) (Q := fun p r => decide (f ≤ p) && decide (p < f + (j + 1)) && !skip now wait r) (g := fun r => (r.1, now, r.2.2)) h (fun p r _ hp => by
    by_cases h1 : p < f + j
    · simp [h1, show p < f + (j + 1) by omega]
    · simp [h1, show ¬ p < f + (j + 1) by omega])
  have e : decide (f + j < f + (j + 1)) = true := by simp
  simp only [e, Nat.le_add_right, decide_true, Bool.true_and] at this
  unfold TA
  rw [this]
  by_cases hs : skip now wait A[f + j] = true
  · rw [if_pos hs]
    simp only [hs, Bool.not_true, Bool.false_eq_true, if_false]
    have h2 := TA_get (now := now) (wait := wait) h
    unfold TA at h2
    have h3 : (mi (fun p r => decide (f ≤ p) && decide (p < f + j) && !skip now wait r) (fun r => (r.1, now, r.2.2)) A).set (f + j) A[f + j] = (mi (fun p r => decide (f ≤ p) && decide (p < f + j) && !skip now wait r) (fun r => (r.1, now, r.2.2)) A) := by
      conv => lhs; rw [← h2]
      exact List.set_getElem_self _
    exact h3
  · rw [if_neg hs]
    simp only [Bool.not_eq_true] at hs
    simp only [hs, Bool.not_false, if_true]
theorem Inv.tick {W : Nat} {A : List RE} {S : Nat} (h : Inv W A S) {now wait : Int} (hn : 0 ≤ now) :
    Inv W (TA now wait (fr A) (min W (A.length - fr A)) A) (fr A + min W (A.length - fr A)) ∧ fr (TA now wait (fr A) (min W (A.length - fr A)) A) = fr A := by
  have hl := fr_le A
  have hS := h.Sl; have hw := h.Sw; have hf := h.fS
  have e : fr (TA now wait (fr A) (min W (A.length - fr A)) A) = fr A := by
    refine fr_same TA_len fun p hp hq => ?_
    rw [TA_at hq hp]; split <;> rfl
  refine ⟨⟨by rw [e]; omega, by rw [TA_len]; omega, by rw [e]; omega, fun p hp => ?_, fun p hp ha => ?_⟩, e⟩
  · have hq : p < A.length := by rw [TA_len] at hp; exact hp
    rw [TA_at hq hp]
    have hs := h.sent p hq
    have ha := h.ans p hq
    split
    · rename_i hc
      simp only [Bool.and_eq_true, decide_eq_true_eq] at hc
      simp only [hn, true_iff]; omega
    · rename_i hc
      simp only [Bool.and_eq_true, decide_eq_true_eq, Bool.not_eq_true'] at hc
      by_cases h1 : fr A ≤ p ∧ p < fr A + min W (A.length - fr A)
      · have h2 : skip now wait A[p] = true := by
          cases hk : skip now wait A[p] with
          | true => rfl
          | false => exact absurd ⟨h1, hk⟩ hc
        unfold skip at h2
        rw [hs]
        simp only [Bool.or_eq_true, Bool.and_eq_true, decide_eq_true_eq] at h2
        have : p < S := by
          rcases h2 with h2 | h2
          · exact ha h2
          · exact hs.1 h2.1
        omega
      · rw [hs]; omega
  · have hq : p < A.length := by rw [TA_len] at hp; exact hp
    rw [TA_at hq hp] at ha
    have : A[p].2.2 = true := by revert ha; split <;> exact id
    have := h.ans p hq this
    omega
/-! ### Hear -/
def mk (body : ByteArray) (m : Nat) : Bool := iand .u8 (ishr .u8 (bt body ((m / 8 : Nat) : Int)) ((7 - m % 8 : Nat) : Int)) 1 == 1
def hc (body : ByteArray) (D i : Nat) : Bool := decide (i < D) || (decide (D < i) && mk body (i - D - 1))
def HA (body : ByteArray) (f D m : Nat) (A : List RE) : List RE := mi (fun p _ => decide (f ≤ p) && decide (p < f + m) && hc body D (p - f)) (fun r => (r.1, r.2.1, true)) A
theorem HA_len {body : ByteArray} {f D j : Nat} {A : List RE} : (HA body f D j A).length = A.length := mi_len
theorem HA_at {body : ByteArray} {f D j p : Nat} {A : List RE} (h : p < A.length) (hp : p < (HA body f D j A).length) :
    (HA body f D j A)[p] = if (decide (f ≤ p) && decide (p < f + j) && hc body D (p - f)) = true then (A[p].1, A[p].2.1, true) else A[p] := mi_get h
theorem HA_zero {body : ByteArray} {f D : Nat} {A : List RE} : HA body f D 0 A = A := mi_none fun p r _ => by
  simp; omega
theorem HA_succ {body : ByteArray} {f D j : Nat} {A : List RE} (h : f + j < A.length) : HA body f D (j + 1) A = if hc body D j = true then (HA body f D j A).set (f + j) (A[f + j].1, A[f + j].2.1, true) else HA body f D j A := by
  have hset := mi_set (P := fun p _ => decide (f ≤ p) && decide (p < f + j) && hc body D (p - f)) (Q := fun p _ => decide (f ≤ p) && decide (p < f + (j + 1)) && hc body D (p - f)) (g := fun (r : RE) => (r.1, r.2.1, true)) h (fun p r _ hp => by
    by_cases h1 : p < f + j
    · simp [h1, show p < f + (j + 1) by omega]
    · simp [h1, show ¬ p < f + (j + 1) by omega])
  by_cases hq : hc body D j = true
  · rw [if_pos hq]
    unfold HA
    rw [hset]
    simp [hq]
  · rw [if_neg hq]
    simp only [Bool.not_eq_true] at hq
    unfold HA
    refine mi_congr fun p r _ => ?_
    by_cases h1 : p = f + j
    · subst h1; simp [hq]
    · by_cases h2 : p < f + j
      · simp [h2, show p < f + (j + 1) by omega]
      · simp [h2, show ¬ p < f + (j + 1) by omega]
theorem HA_get {body : ByteArray} {f D j : Nat} {A : List RE} (h : f + j < A.length) : (HA body f D j A)[f + j]'(by rw [HA_len]; exact h) = A[f + j] := by
  rw [HA_at h]; simp
theorem Inv.hear {W : Nat} {A : List RE} {S : Nat} (h : Inv W A S) (body : ByteArray) (D : Nat) : Inv W (HA body (fr A) D (S - fr A) A) S ∧ fr A ≤ fr (HA body (fr A) D (S - fr A) A) := by
  have hl := fr_le A
  have hS := h.Sl; have hw := h.Sw; have hf := h.fS
  have hsp := fr_spec A
  have e : fr A ≤ fr (HA body (fr A) D (S - fr A) A) := by
    refine le_fr (by rw [HA_len]; exact hl) fun p hp hpm => ?_
    have hq : p < A.length := by rw [HA_len] at hp; exact hp
    rw [HA_at hq hp]
    split
    · rfl
    · exact hsp.1 p hq hpm
  have hans : ∀ p (hp : p < (HA body (fr A) D (S - fr A) A).length), (HA body (fr A) D (S - fr A) A)[p].2.2 = true → p < S := by
    intro p hp ha
    have hq : p < A.length := by rw [HA_len] at hp; exact hp
    rw [HA_at hq hp] at ha
    split at ha
    · rename_i hc'
      simp only [Bool.and_eq_true, decide_eq_true_eq] at hc'
      omega
    · exact h.ans p hq ha
  refine ⟨⟨?_, by rw [HA_len]; exact hS, by omega, fun p hp => ?_, hans⟩, e⟩
  · rcases Nat.lt_or_ge S (fr (HA body (fr A) D (S - fr A) A)) with h1 | h1
    · have h3 := fr_le (HA body (fr A) D (S - fr A) A)
      have h2 := (fr_spec (HA body (fr A) D (S - fr A) A)).1 S (by omega) h1
      have := hans S (by omega) h2
      omega
    · exact h1
  · have hq : p < A.length := by rw [HA_len] at hp; exact hp
    have := h.sent p hq
    rw [HA_at hq hp]
    split
    · exact this
    · exact this

/-! ### The code's sender, by itself -/
theorem LeftC_ok {W T n F : Int} {A : List RE} : f_again_Sender_Left W T n F (vw A (fr A)) = some ((A.length - fr A : Nat) : Int) := by
  unfold f_again_Sender_Left
  rw [vw_len]
theorem due_cv (now wait : Int) (r : RE) : ((!(cv r).2.2.2) && ((!(cv r).2.1) || (decide (wait ≤ (IntKind.i64.wrap (now - (cv r).2.2.1)))))) = !skip now wait r := by
  unfold skip cv
  by_cases h : 0 ≤ r.2.1
  · simp only [h, decide_true, if_true, Bool.not_true, Bool.false_or, Bool.true_and]
    by_cases h2 : wait ≤ IntKind.i64.wrap (now - r.2.1)
    · simp [h2, show ¬ IntKind.i64.wrap (now - r.2.1) < wait by omega]
    · simp [h2, show IntKind.i64.wrap (now - r.2.1) < wait by omega]
  · simp [h]
theorem TickC_ok {W : Nat} {T n F now : Int} {A : List RE} (hF : F = (fr A : Int)) (hA : A.length ≤ 100000) (hW : W ≤ 128) (hn : n ≤ now) (h0 : 0 ≤ now) :
    f_again_Sender_Tick (W : Int) T n F (vw A (fr A)) now = some (TO now T (fr A) A (min W (A.length - fr A)), 0, (W : Int), T, now, F, vw (TA now T (fr A) (min W (A.length - fr A)) A) (fr A)) := by
  have hl := fr_le A
  unfold f_again_Sender_Tick
  rw [if_neg (by rw [decide_eq_true_eq]; omega)]
  refine bnd_eq (loop_run (min W (A.length - fr A)) (fun j => ((W : Int), T, now, F, vw (TA now T (fr A) j A) (fr A), now, TO now T (fr A) A j, (j : Int))) ((W : Int), T, now, F, vw (TA now T (fr A) (min W (A.length - fr A)) A) (fr A), TO now T (fr A) A (min W (A.length - fr A))) (fun j hj => ?_) ?_ ?_) rfl
  · have hj' : fr A + j < A.length := by omega
    have hL : (TA now T (fr A) j A).length = A.length := TA_len
    simp only [f_again_Sender_Tick.s1, f_again_Sender_Tick.s1c]
    rw [vw_len, vw_len, hL, imin_nat, if_pos (by rw [decide_eq_true_eq]; omega), if_pos (by omega)]
    simp only [f_again_Sender_Tick_1, Option.bind_some]
    have hg : gt (vw (TA now T (fr A) j A) (fr A)) (j : Int) = cv A[fr A + j] := by rw [vw_gt (by omega), TA_get hj']
    rw [hg, due_cv]
    have hTA := TA_succ (now := now) (wait := T) hj'
    have hTO : TO now T (fr A) A (j + 1) = if skip now T A[fr A + j] = true then TO now T (fr A) A j else TO now T (fr A) A j ++ [(1, (((fr A + j) % 256 : Nat) : Int), false, A[fr A + j].1)] := by
      have : gt A ((fr A + j : Nat) : Int) = A[fr A + j] := gt_nat hj'
      rw [TO, this]
    have hTl := TO_len now T (fr A) A j
    have hw1 : IntKind.i64.wrap ((j : Int) + 1) = ((j + 1 : Nat) : Int) := by rw [w64 (by omega) (by omega)]; omega
    by_cases hs : skip now T A[fr A + j] = true
    · rw [if_pos hs] at hTA hTO
      simp only [hs, Bool.not_true, Bool.false_eq_true, if_false]
      rw [hTA, hTO, hw1]
    · rw [if_neg hs] at hTA hTO
      simp only [Bool.not_eq_true] at hs
      simp only [hs, Bool.not_false, if_true]
      have hlen : j < (vw (TA now T (fr A) j A) (fr A)).length := by rw [vw_len]; omega
      simp only [Int.toNat_natCast, gt_set_self hlen, List.set_set]
      have hn8 : IntKind.u8.wrap (IntKind.i64.wrap (F + (j : Int))) = (((fr A + j) % 256 : Nat) : Int) := by
        rw [hF, w64 (by omega) (by omega), IntKind.wrap_u8]; omega
      rw [if_pos (by simp only [List.length_cons, List.length_nil]; omega), hn8, hw1, hTA, hTO, vw_set]
      simp only [cv, h0, decide_true, if_true]
  · have hL : (TA now T (fr A) (min W (A.length - fr A)) A).length = A.length := TA_len
    simp only [f_again_Sender_Tick.s1, f_again_Sender_Tick.s1c]
    rw [vw_len, imin_nat, if_neg (by rw [decide_eq_true_eq]; omega)]
  · rw [TA_zero]; rfl
theorem dd {N : Int} {f : Nat} (h0 : 0 ≤ N) (h1 : N < 256) (hf : f ≤ 100000) :
    IntKind.i64.wrap (IntKind.u8.wrap (N - IntKind.u8.wrap (f : Int))) = ((((N - f) % 256).toNat : Nat) : Int) ∧
    (IntKind.i64.wrap (IntKind.i64.wrap (IntKind.i64.wrap N - ((f : Int)).tmod 256) + 256)).tmod 256 = ((((N - f) % 256).toNat : Nat) : Int) := by
  constructor
  · rw [IntKind.wrap_u8, IntKind.wrap_u8, w64 (by omega) (by omega)]; omega
  · rw [show ((f : Int)).tmod 256 = (f : Int) % 256 from tmodn (by omega) _, w64 (x := N) (by omega) (by omega), w64 (x := N - (f : Int) % 256) (by omega) (by omega), w64 (by omega) (by omega), tmodn (by omega)]; omega
theorem mark_expr {body : ByteArray} (hb : body.size = 16) {m : Nat} (hm : m < 128) :
    (if 0 ≤ IntKind.i64.wrap (((m : Int)).tdiv 8) ∧ IntKind.i64.wrap (((m : Int)).tdiv 8) < (body.size : Int) then
            if 0 ≤ IntKind.i64.wrap (7 - ((m : Int)).tmod 8) then
              some (iand .u8 (ishr .u8 (bt body (IntKind.i64.wrap (((m : Int)).tdiv 8))) (IntKind.i64.wrap (7 - ((m : Int)).tmod 8))) 1 == 1)
            else none
          else none) = some (mk body m) := by
  have e1 : ((m : Int)).tdiv 8 = ((m / 8 : Nat) : Int) := tdiv_nat m 8
  have e2 : ((m : Int)).tmod 8 = ((m % 8 : Nat) : Int) := tmod_nat m 8
  unfold mk
  rw [e1, e2, w64 (x := ((m / 8 : Nat) : Int)) (by omega) (by omega), if_pos (by rw [hb]; omega), w64 (by omega) (by omega), if_pos (by omega)]
  rw [show (7 : Int) - ((m % 8 : Nat) : Int) = ((7 - m % 8 : Nat) : Int) by omega]
theorem K_code {W S : Nat} {A : List RE} (hI : Inv W A S) (hA : A.length ≤ 100000) : loop (f_again_Sender_Hear.s1 (W : Int) (vw A (fr A))) 0 = some ((S - fr A : Nat) : Int) := by
  have hS := hI.Sl; have hw := hI.Sw; have hf := hI.fS
  refine loop_for1 (S - fr A) _ (fun i hi => ?_) ?_
  · simp only [f_again_Sender_Hear.s1, f_again_Sender_Hear.s1c]
    rw [vw_len, imin_nat, if_pos (by rw [decide_eq_true_eq]; omega), if_pos (by omega), vw_gt (by omega)]
    have := (hI.sent (fr A + i) (by omega)).2 (by omega)
    simp only [Option.bind_some, cv, this, decide_true, if_true]
    rw [w64 (by omega) (by omega)]; rfl
  · simp only [f_again_Sender_Hear.s1, f_again_Sender_Hear.s1c]
    rw [vw_len, imin_nat]
    by_cases h : S - fr A < min W (A.length - fr A)
    · rw [if_pos (by rw [decide_eq_true_eq]; omega), if_pos (by omega), vw_gt (by omega)]
      have : ¬ 0 ≤ A[fr A + (S - fr A)].2.1 := fun h1 => by have := (hI.sent _ (by omega)).1 h1; omega
      simp [cv, this]
    · rw [if_neg (by rw [decide_eq_true_eq]; omega)]; rfl
theorem cut_code {W T n : Int} {B : List RE} {f : Nat} (hB : B.length ≤ 100000) (hf : f ≤ fr B) : loop f_again_Sender_Hear.s3 (W, T, n, (f : Int), vw B f) = some (W, T, n, (fr B : Int), vw B (fr B)) := by
  have hl := fr_le B
  have hs := fr_spec B
  refine loop_run (fr B - f) (fun j => (W, T, n, ((f + j : Nat) : Int), vw B (f + j))) _ (fun j hj => ?_) ?_ rfl
  · simp only [f_again_Sender_Hear.s3, f_again_Sender_Hear.s3c]
    have h0 : gt (vw B (f + j)) 0 = cv (B[f + j]'(by omega)) := vw_gt (j := 0) (by omega)
    rw [vw_len, if_pos (by rw [decide_eq_true_eq]; omega), if_pos (by omega), h0]
    have := hs.1 (f + j) (by omega) (by omega)
    simp only [Option.bind_some, cv, this, if_true]
    rw [if_pos (by omega), w64 (by omega) (by omega), show (1 : Int).toNat = 1 from rfl, vw_drop]
    refine congrArg some (congrArg Sum.inl ?_)
    refine Prod.ext rfl (Prod.ext rfl (Prod.ext rfl (Prod.ext ?_ rfl))); simp only; omega
  · simp only [f_again_Sender_Hear.s3, f_again_Sender_Hear.s3c]
    have e : f + (fr B - f) = fr B := by omega
    rw [e, vw_len]
    by_cases h : fr B < B.length
    · have h0 : gt (vw B (fr B)) 0 = cv B[fr B] := vw_gt (j := 0) (by omega)
      rw [if_pos (by rw [decide_eq_true_eq]; omega), if_pos (by omega), h0]
      simp [cv, hs.2 h]
    · rw [if_neg (by rw [decide_eq_true_eq]; omega)]; rfl
/-- what the marks do, in the code -/
theorem marks_code {W T n N : Int} {A : List RE} {body : ByteArray} {K D : Nat} (hb : body.size = 16) (hA : A.length ≤ 100000) (hK : fr A + K ≤ A.length) (hK2 : K ≤ 128) (h0 : 0 ≤ N) (h1 : N < 256) (hD : D = ((N - fr A) % 256).toNat) :
    loop (f_again_Sender_Hear.s2 (fr A : Int) N body (K : Int)) (W, T, n, (fr A : Int), vw A (fr A), 0) = some (W, T, n, (fr A : Int), vw (HA body (fr A) D K A) (fr A)) := by
  have hl := fr_le A
  refine loop_run K (fun j => (W, T, n, (fr A : Int), vw (HA body (fr A) D j A) (fr A), (j : Int))) _ (fun j hj => ?_) ?_ ?_
  · have hL : (HA body (fr A) D j A).length = A.length := HA_len
    have hj' : fr A + j < A.length := by omega
    simp only [f_again_Sender_Hear.s2, f_again_Sender_Hear.s2c]
    rw [(dd h0 h1 (by omega)).1, ← hD, if_pos (by rw [decide_eq_true_eq]; omega)]
    have hD2 : D < 256 := by omega
    have e0 : IntKind.i64.wrap ((j : Int) - (D : Int)) = (j : Int) - D := w64 (by omega) (by omega)
    have e1 : IntKind.i64.wrap ((j : Int) - (D : Int) - 1) = (j : Int) - D - 1 := w64 (by omega) (by omega)
    rw [e0, e1]
    have hg : gt (vw (HA body (fr A) D j A) (fr A)) (j : Int) = cv A[fr A + j] := by rw [vw_gt (by omega), HA_get hj']
    have hz : (if decide ((j : Int) < (D : Int)) = true then some true else
        ((if decide ((0 : Int) ≤ (j : Int) - D - 1) = true then
          if 0 ≤ IntKind.i64.wrap (((j : Int) - D - 1).tdiv 8) ∧ IntKind.i64.wrap (((j : Int) - D - 1).tdiv 8) < (body.size : Int) then
            if 0 ≤ IntKind.i64.wrap (7 - ((j : Int) - D - 1).tmod 8) then
              some (iand .u8 (ishr .u8 (bt body (IntKind.i64.wrap (((j : Int) - D - 1).tdiv 8))) (IntKind.i64.wrap (7 - ((j : Int) - D - 1).tmod 8))) 1 == 1)
            else none
          else none
        else some false).bind fun z => some z)) = some (hc body D j) := by
      unfold hc
      by_cases c1 : j < D
      · simp [c1]
      · by_cases c2 : D < j
        · have e2 : (j : Int) - D - 1 = ((j - D - 1 : Nat) : Int) := by omega
          have := mark_expr hb (m := j - D - 1) (by omega)
          rw [if_neg (by rw [decide_eq_true_eq]; omega), if_pos (by rw [decide_eq_true_eq]; omega), e2, this]
          simp [c1, c2]
        · rw [if_neg (by rw [decide_eq_true_eq]; omega), if_neg (by rw [decide_eq_true_eq]; omega)]
          simp [c1, c2]
    rw [hz]
    simp only [Option.bind_some]
    have hw1 : IntKind.i64.wrap ((j : Int) + 1) = ((j + 1 : Nat) : Int) := by rw [w64 (by omega) (by omega)]; omega
    have hH := HA_succ (body := body) (D := D) hj'
    by_cases hq : hc body D j = true
    · rw [if_pos hq] at hH
      rw [if_pos hq, vw_len, hL, if_pos (by omega), hw1, hH, vw_set, hg, Int.toNat_natCast]
      rfl
    · rw [if_neg hq] at hH
      rw [if_neg hq, hw1, hH]
  · simp only [f_again_Sender_Hear.s2, f_again_Sender_Hear.s2c]
    rw [if_neg (by rw [decide_eq_true_eq]; omega)]
  · rw [HA_zero]; rfl

/-! ### The code's receiver, by itself -/
abbrev MP := List (Int × ByteArray)
def Kp (body : Nat → ByteArray) (n S : Nat) (M : MP) : Prop := ∀ (k : Int) (x : ByteArray), mget M k = some x → (n : Int) ≤ k ∧ k < (S : Int) ∧ x = body k.toNat
theorem hand_code {w : Int} {body : Nat → ByteArray} {S : Nat} (hS : S ≤ 100000) : ∀ (c n : Nat) (M : MP) (H : List ByteArray), n + c = S → H.length ≤ n → Kp body n S M →
    ∃ (n' : Nat) (M' : MP), loop f_again_Receiver_Take.s1 (w, (n : Int), M, H) = some (w, (n' : Int), M', H ++ (List.range' n (n' - n)).map body) ∧ n ≤ n' ∧ n' ≤ S ∧ mget M' (n' : Int) = none ∧ Kp body n' S M' ∧
      (∀ k : Int, (n' : Int) ≤ k → mget M' k = mget M k) ∧ (∀ k : Nat, n ≤ k → k < n' → (mget M (k : Int)).isSome = true) := by
  intro c
  induction c with
  | zero =>
    intro n M H hn hH hK
    have hg : mget M (n : Int) = none := by
      cases h : mget M (n : Int) with
      | none => rfl
      | some x => have := (hK _ _ h).2.1; omega
    refine ⟨n, M, ?_, by omega, by omega, hg, hK, fun _ _ => rfl, fun k h1 h2 => by omega⟩
    rw [Nat.sub_self]; simp only [List.range'_zero, List.map_nil, List.append_nil]
    refine loop_done ?_
    simp only [f_again_Receiver_Take.s1, f_again_Receiver_Take.s1c, hg]; rfl
  | succ c ih =>
    intro n M H hn hH hK
    cases hg : mget M (n : Int) with
    | none =>
      refine ⟨n, M, ?_, by omega, by omega, hg, hK, fun _ _ => rfl, fun k h1 h2 => by omega⟩
      rw [Nat.sub_self]; simp only [List.range'_zero, List.map_nil, List.append_nil]
      refine loop_done ?_
      simp only [f_again_Receiver_Take.s1, f_again_Receiver_Take.s1c, hg]; rfl
    | some x =>
      have hx := (hK _ _ hg).2.2
      rw [Int.toNat_natCast] at hx
      have hK2 : Kp body (n + 1) S (mdel M (n : Int)) := by
        intro k y hy
        rw [mget_del] at hy
        by_cases hk : k = (n : Int)
        · rw [if_pos hk] at hy; cases hy
        · rw [if_neg hk] at hy
          obtain ⟨h1, h2, h3⟩ := hK _ _ hy
          exact ⟨by omega, h2, h3⟩
      obtain ⟨n', M', e1, e2, e3, e4, e5, e6, e7⟩ := ih (n + 1) (mdel M (n : Int)) (H ++ [x]) (by omega) (by simp; omega) hK2
      refine ⟨n', M', ?_, by omega, e3, e4, e5, fun k hk => ?_, fun k h1 h2 => ?_⟩
      · rw [loop_step (s' := (w, ((n + 1 : Nat) : Int), mdel M (n : Int), H ++ [x])) ?_, e1]
        · have : n' - n = n' - (n + 1) + 1 := by omega
          rw [this, List.range'_succ, List.map_cons, List.append_assoc, hx]; rfl
        · simp only [f_again_Receiver_Take.s1, f_again_Receiver_Take.s1c, hg]
          rw [if_neg (by simp), if_pos (by simp only [List.length_cons, List.length_nil]; omega), w64 (by omega) (by omega)]
          rfl
      · rw [e6 k hk, mget_del, if_neg (by omega)]
      · by_cases hk : k = n
        · subst hk; rw [hg]; rfl
        · have := e7 k (by omega) h2
          rw [mget_del, if_neg (by omega)] at this
          exact this
/-! The marks, bit by bit -/
theorem bit_or : ∀ x : Fin 256, ∀ r : Fin 8, 0 ≤ ior .u8 (x.val : Int) (ishr .u8 128 (r.val : Int)) ∧ ior .u8 (x.val : Int) (ishr .u8 128 (r.val : Int)) < 256 ∧
    ∀ s : Fin 8, (iand .u8 (ishr .u8 (ior .u8 (x.val : Int) (ishr .u8 128 (r.val : Int))) ((7 - s.val : Nat) : Int)) 1 == 1) = (decide (s = r) || (iand .u8 (ishr .u8 (x.val : Int) ((7 - s.val : Nat) : Int)) 1 == 1)) := by
  decide +kernel
def mkL (ml : List Int) (m : Nat) : Bool := iand .u8 (ishr .u8 (gt ml ((m / 8 : Nat) : Int)) ((7 - m % 8 : Nat) : Int)) 1 == 1
def BInv (ok : Nat → Bool) (i : Nat) (ml : List Int) : Prop := ml.length = 16 ∧ (∀ b : Nat, b < 16 → 0 ≤ gt ml (b : Int) ∧ gt ml (b : Int) < 256) ∧ ∀ m, m < 128 → mkL ml m = (decide (m < i) && ok m)
theorem BInv.zero (ok : Nat → Bool) : BInv ok 0 (List.replicate 16 (0 : Int)) := by
  have h : ∀ b : Nat, b < 16 → gt (List.replicate 16 (0 : Int)) (b : Int) = 0 := fun b hb => by rw [gt_nat (by simpa using hb), List.getElem_replicate]
  refine ⟨by simp, fun b hb => by rw [h b hb]; omega, fun m hm => ?_⟩
  unfold mkL
  rw [h _ (by omega)]
  have : ∀ s : Fin 8, (iand .u8 (ishr .u8 0 ((7 - s.val : Nat) : Int)) 1 == 1) = false := by decide
  have h2 := this ⟨m % 8, Nat.mod_lt _ (by omega)⟩
  simp only at h2
  rw [h2]; simp
theorem BInv.skip {ok : Nat → Bool} {i : Nat} {ml : List Int} (h : BInv ok i ml) (hk : ok i = false) : BInv ok (i + 1) ml := by
  refine ⟨h.1, h.2.1, fun m hm => ?_⟩
  rw [h.2.2 m hm]
  by_cases h1 : m = i
  · subst h1; simp [hk]
  · have : decide (m < i) = decide (m < i + 1) := by congr 1; simp; omega
    rw [this]
theorem BInv.put {ok : Nat → Bool} {i : Nat} {ml : List Int} (h : BInv ok i ml) (hi : i < 128) (hk : ok i = true) : BInv ok (i + 1) (ml.set (i / 8) (ior .u8 (gt ml ((i / 8 : Nat) : Int)) (ishr .u8 128 ((i % 8 : Nat) : Int)))) := by
  obtain ⟨l1, l2, l3⟩ := h
  obtain ⟨x0, x1⟩ := l2 (i / 8) (by omega)
  obtain ⟨x, hx⟩ : ∃ x : Nat, gt ml ((i / 8 : Nat) : Int) = (x : Int) := ⟨(gt ml ((i / 8 : Nat) : Int)).toNat, by omega⟩
  have hb := bit_or ⟨x, by omega⟩ ⟨i % 8, Nat.mod_lt _ (by omega)⟩
  simp only at hb
  obtain ⟨b1, b2, b3⟩ := hb
  rw [hx]
  refine ⟨by rw [List.length_set]; exact l1, fun b hb => ?_, fun m hm => ?_⟩
  · by_cases hbi : b = i / 8
    · subst hbi; rw [gt_set_self (by omega)]; exact ⟨b1, b2⟩
    · rw [gt_nat (by rw [List.length_set]; omega), List.getElem_set_ne (Ne.symm hbi), ← gt_nat]; exact l2 b hb
  · have h3 := l3 m hm
    unfold mkL at h3 ⊢
    by_cases hbi : m / 8 = i / 8
    · rw [hbi, gt_set_self (by omega)]
      rw [hbi, hx] at h3
      have h4 := b3 ⟨m % 8, Nat.mod_lt _ (by omega)⟩
      simp only at h4
      rw [h4, h3]
      by_cases he : m = i
      · subst he; simp [hk]
      · have : m % 8 ≠ i % 8 := by omega
        have e1 : decide ((⟨m % 8, Nat.mod_lt _ (by omega)⟩ : Fin 8) = ⟨i % 8, Nat.mod_lt _ (by omega)⟩) = false := by simp [Fin.ext_iff, this]
        have e2 : decide (m < i) = decide (m < i + 1) := by congr 1; simp; omega
        rw [e1, e2]; simp
    · have hg : gt (ml.set (i / 8) (ior .u8 (x : Int) (ishr .u8 128 ((i % 8 : Nat) : Int)))) ((m / 8 : Nat) : Int) = gt ml ((m / 8 : Nat) : Int) := by
        rw [gt_nat (by rw [List.length_set]; omega), List.getElem_set_ne (Ne.symm hbi), ← gt_nat]
      rw [hg, h3]
      have e2 : decide (m < i) = decide (m < i + 1) := by congr 1; simp; omega
      rw [e2]
theorem marks_bits {w : Int} {H : List ByteArray} {n : Nat} {M : MP} (hn : n ≤ 100000) : ∀ (k i : Nat) (ml : List Int), i + k = 128 → BInv (fun m => (mget M ((n + 1 + m : Nat) : Int)).isSome) i ml →
    ∃ q, loop (f_again_Receiver_Take.s2 (w, (n : Int), M, H)) (ml, (i : Int)) = some q ∧ BInv (fun m => (mget M ((n + 1 + m : Nat) : Int)).isSome) 128 q := by
  intro k
  induction k with
  | zero =>
    intro i ml hi hM
    refine ⟨ml, loop_done ?_, by rw [show 128 = i by omega]; exact hM⟩
    simp only [f_again_Receiver_Take.s2, f_again_Receiver_Take.s2c]
    rw [if_neg (by rw [decide_eq_true_eq]; omega)]
  | succ k ih =>
    intro i ml hi hM
    have e1 : IntKind.i64.wrap (IntKind.i64.wrap ((n : Int) + 1) + (i : Int)) = ((n + 1 + i : Nat) : Int) := by rw [w64 (x := (n : Int) + 1) (by omega) (by omega), w64 (by omega) (by omega)]; omega
    have e2 : IntKind.i64.wrap ((i : Int) + 1) = ((i + 1 : Nat) : Int) := by rw [w64 (by omega) (by omega)]; omega
    have e3 : IntKind.i64.wrap (((i : Int)).tdiv 8) = ((i / 8 : Nat) : Int) := by rw [show ((i : Int)).tdiv 8 = ((i / 8 : Nat) : Int) from tdiv_nat i 8, w64 (by omega) (by omega)]
    have e4 : ((i : Int)).tmod 8 = ((i % 8 : Nat) : Int) := tmod_nat i 8
    cases hk : (mget M ((n + 1 + i : Nat) : Int)).isSome with
    | false =>
      obtain ⟨q, q1, q2⟩ := ih (i + 1) ml (by omega) (hM.skip hk)
      refine ⟨q, ?_, q2⟩
      rw [loop_step (s' := (ml, ((i + 1 : Nat) : Int))) ?_, q1]
      simp only [f_again_Receiver_Take.s2, f_again_Receiver_Take.s2c]
      rw [if_pos (by rw [decide_eq_true_eq]; omega), e1, hk, if_neg (by simp), e2]
    | true =>
      obtain ⟨q, q1, q2⟩ := ih (i + 1) _ (by omega) (hM.put (by omega) hk)
      refine ⟨q, ?_, q2⟩
      rw [loop_step (s' := (ml.set (i / 8) (ior .u8 (gt ml ((i / 8 : Nat) : Int)) (ishr .u8 128 ((i % 8 : Nat) : Int))), ((i + 1 : Nat) : Int))) ?_, q1]
      simp only [f_again_Receiver_Take.s2, f_again_Receiver_Take.s2c]
      rw [if_pos (by rw [decide_eq_true_eq]; omega), e1, hk, if_pos rfl, e3, if_pos (by omega), e4, if_pos (by omega), if_pos (by omega), e2, Int.toNat_natCast]
theorem bt_bstr {xs : List Int} {b : Nat} (hb : b < xs.length) (h0 : 0 ≤ gt xs (b : Int)) (h1 : gt xs (b : Int) < 256) : bt (bstr xs) (b : Int) = gt xs (b : Int) := by
  rw [gt_nat hb] at h0 h1 ⊢
  unfold bt bstr
  simp [List.getD_eq_getElem?_getD, hb]
  omega
theorem bstr_size (xs : List Int) : (bstr xs).size = xs.length := by simp [bstr, ByteArray.size]
theorem mk_bstr {ok : Nat → Bool} {q : List Int} (h : BInv ok 128 q) : (bstr q).size = 16 ∧ ∀ m, m < 128 → mk (bstr q) m = ok m := by
  refine ⟨by rw [bstr_size, h.1], fun m hm => ?_⟩
  obtain ⟨h0, h1⟩ := h.2.1 (m / 8) (by omega)
  have := h.2.2 m hm
  unfold mkL at this
  unfold mk
  rw [bt_bstr (by rw [h.1]; omega) h0 h1, this]
  simp [hm]
/-- A frame comes in. -/
structure Took (body : Nat → ByteArray) (S n i : Nat) (M : MP) (n' : Nat) (M' : MP) (ms : ByteArray) : Prop where
  le : n ≤ n'
  leS : n' ≤ S
  kp : Kp body n' S M'
  m0 : mget M' (n' : Int) = none
  sz : ms.size = 16
  mks : ∀ m, m < 128 → mk ms m = (mget M' ((n' + 1 + m : Nat) : Int)).isSome
  mono : ∀ k : Nat, (k < n ∨ (mget M (k : Int)).isSome = true) → k < n' ∨ (mget M' (k : Int)).isSome = true
  got : i < n' ∨ (mget M' (i : Int)).isSome = true
  new : ∀ k : Nat, k < n' ∨ (mget M' (k : Int)).isSome = true → k < n ∨ (mget M (k : Int)).isSome = true ∨ k = i
theorem j1_code {W : Int} {body : Nat → ByteArray} {S n : Nat} {M : MP} (hS : S ≤ 100000) (hn : n ≤ S) (hK : Kp body n S M) :
    ∃ (n' : Nat) (M' : MP) (ms : ByteArray), f_again_Receiver_Take.j1 W (n : Int) M = some ((List.range' n (n' - n)).map body, (2, ((n' % 256 : Nat) : Int), false, ms), 0, W, (n' : Int), M') ∧
      n ≤ n' ∧ n' ≤ S ∧ Kp body n' S M' ∧ mget M' (n' : Int) = none ∧ ms.size = 16 ∧ (∀ m, m < 128 → mk ms m = (mget M' ((n' + 1 + m : Nat) : Int)).isSome) ∧ (∀ k : Int, (n' : Int) ≤ k → mget M' k = mget M k) ∧ (∀ k : Nat, n ≤ k → k < n' → (mget M (k : Int)).isSome = true) := by
  obtain ⟨n', M', e1, e2, e3, e4, e5, e6, e7⟩ := hand_code (w := W) hS (S - n) n M [] (by omega) (by simp) hK
  obtain ⟨q, q1, q2⟩ := marks_bits (w := W) (H := [] ++ (List.range' n (n' - n)).map body) (n := n') (M := M') (by omega) 128 0 _ rfl (BInv.zero _)
  obtain ⟨m1, m2⟩ := mk_bstr q2
  refine ⟨n', M', bstr q, ?_, e2, e3, e5, e4, m1, m2, e6, e7⟩
  unfold f_again_Receiver_Take.j1
  rw [e1]
  simp only [Option.bind_some]
  have q1' : loop (f_again_Receiver_Take.s2 (W, (n' : Int), M', [] ++ (List.range' n (n' - n)).map body)) (List.replicate 16 (0 : Int), 0) = some q := q1
  rw [q1']
  have : IntKind.u8.wrap (n' : Int) = ((n' % 256 : Nat) : Int) := by rw [IntKind.wrap_u8]; omega
  simp only [Option.bind_some, this, List.nil_append]
theorem Take_ok {W S n i : Nat} {body : Nat → ByteArray} {M : MP} (hW : W ≤ 128) (hS : S ≤ 100000) (hn : n ≤ S) (hK : Kp body n S M) (hm : mget M (n : Int) = none) (hi : i < S) (hiW : i < n + W) (hlo : n ≤ i + (256 - W)) (hb : (body i).size ≤ 240) :
    ∃ (n' : Nat) (M' : MP) (ms : ByteArray), f_again_Receiver_Take (W : Int) (n : Int) M 1 ((i % 256 : Nat) : Int) false (body i) = some ((List.range' n (n' - n)).map body, (2, ((n' % 256 : Nat) : Int), false, ms), 0, (W : Int), (n' : Int), M') ∧ Took body S n i M n' M' ms := by
  unfold f_again_Receiver_Take
  rw [if_neg (by simp; omega)]
  obtain ⟨D, hD⟩ : ∃ D : Nat, D = (((i : Int) - n) % 256).toNat := ⟨_, rfl⟩
  have c1 : IntKind.i64.wrap (IntKind.u8.wrap (((i % 256 : Nat) : Int) - IntKind.u8.wrap (n : Int))) = (D : Int) := by
    rw [IntKind.wrap_u8, IntKind.wrap_u8, w64 (by omega) (by omega)]; omega
  have c3 : IntKind.i64.wrap ((n : Int) + (D : Int)) = ((n + D : Nat) : Int) := by rw [w64 (by omega) (by omega)]; omega
  rw [c1, c3]
  -- what j1 makes of a map that has what the old one has, and perhaps i
  have fin : ∀ M1 : MP, Kp body n S M1 → (∀ k : Nat, (mget M (k : Int)).isSome = true → (mget M1 (k : Int)).isSome = true) → (i < n ∨ (mget M1 (i : Int)).isSome = true) → (∀ k : Nat, (mget M1 (k : Int)).isSome = true → (mget M (k : Int)).isSome = true ∨ k = i) →
      ∃ (n' : Nat) (M' : MP) (ms : ByteArray), f_again_Receiver_Take.j1 (W : Int) (n : Int) M1 = some ((List.range' n (n' - n)).map body, (2, ((n' % 256 : Nat) : Int), false, ms), 0, (W : Int), (n' : Int), M') ∧ Took body S n i M n' M' ms := by
    intro M1 h1 h2 h3 h4
    obtain ⟨n', M', ms, e1, e2, e3, e4, e5, e6, e7, e8, e9⟩ := j1_code (W := (W : Int)) hS hn h1
    have up : ∀ k : Nat, (mget M1 (k : Int)).isSome = true → k < n' ∨ (mget M' (k : Int)).isSome = true := by
      intro k hk
      by_cases hkn : k < n'
      · exact .inl hkn
      · exact .inr (by rw [e8 k (by omega)]; exact hk)
    refine ⟨n', M', ms, e1, e2, e3, e4, e5, e6, e7, fun k hk => ?_, ?_, fun k hk => ?_⟩
    · rcases hk with hk | hk
      · exact .inl (by omega)
      · exact up k (h2 k hk)
    · rcases h3 with h3 | h3
      · exact .inl (by omega)
      · exact up i h3
    · rcases hk with hk | hk
      · by_cases hkn : k < n
        · exact .inl hkn
        · exact .inr (h4 k (e9 k (by omega) hk))
      · by_cases hkn : k < n'
        · by_cases hkn2 : k < n
          · exact .inl hkn2
          · exact .inr (h4 k (e9 k (by omega) hkn))
        · rw [e8 k (by omega)] at hk
          exact .inr (h4 k hk)
  by_cases hin : n ≤ i
  · have hDi : n + D = i := by omega
    rw [if_pos (by rw [decide_eq_true_eq]; omega), hDi]
    cases hg : mget M (i : Int) with
    | some x =>
      simp only [Option.isSome_some, Bool.not_true, Bool.false_eq_true, if_false]
      exact fin M hK (fun _ h => h) (.inr (by rw [hg]; rfl)) (fun k h => .inl h)
    | none =>
      simp only [Option.isSome_none, Bool.not_false, if_true]
      refine fin (mput M (i : Int) (body i)) ?_ ?_ (.inr (by rw [mget_put, if_pos rfl]; rfl)) ?_
      · intro k x hx
        rw [mget_put] at hx
        by_cases hk : k = (i : Int)
        · rw [if_pos hk] at hx
          subst hk
          exact ⟨by omega, by omega, by rw [Int.toNat_natCast]; exact (Option.some.inj hx).symm⟩
        · rw [if_neg hk] at hx; exact hK _ _ hx
      · intro k hk
        rw [mget_put]
        split
        · rfl
        · exact hk
      · intro k hk
        rw [mget_put] at hk
        by_cases hke : (k : Int) = (i : Int)
        · exact .inr (by omega)
        · rw [if_neg hke] at hk; exact .inl hk
  · rw [if_neg (by rw [decide_eq_true_eq]; omega)]
    exact fin M hK (fun _ h => h) (.inl (by omega)) (fun k h => .inl h)

/-! ### It works -/
theorem OfferC {W T n F : Int} {L : List CE} {b : ByteArray} (hb : b.size ≤ 240) (hL : L.length < 4096) : f_again_Sender_Offer W T n F L b = some (0, W, T, n, F, L ++ [(b, false, 0, false)]) := by
  unfold f_again_Sender_Offer
  rw [if_neg (by rw [decide_eq_true_eq]; omega), if_neg (by rw [decide_eq_true_eq]; omega), if_pos (by simp only [List.length_cons, List.length_nil]; omega)]
theorem OfferC_long {W T n F : Int} {L : List CE} {b : ByteArray} (hb : 240 < b.size) : f_again_Sender_Offer W T n F L b = some (1, W, T, n, F, L) := by
  unfold f_again_Sender_Offer
  rw [if_pos (by rw [decide_eq_true_eq]; omega)]
theorem OfferC_full {W T n F : Int} {L : List CE} {b : ByteArray} (hb : b.size ≤ 240) (hL : 4096 ≤ L.length) : f_again_Sender_Offer W T n F L b = some (3, W, T, n, F, L) := by
  unfold f_again_Sender_Offer
  rw [if_neg (by rw [decide_eq_true_eq]; omega), if_pos (by rw [decide_eq_true_eq]; omega)]
theorem no_marks (w n : Int) (H : List ByteArray) (ml : List Int) : loop (f_again_Receiver_Take.s2 (w, n, [], H)) (ml, 0) = some ml := by
  refine loop_run 128 (fun j => (ml, (j : Int))) ml (fun j hj => ?_) ?_ rfl
  · simp only [f_again_Receiver_Take.s2, f_again_Receiver_Take.s2c, mget_nil]
    rw [if_pos (by rw [decide_eq_true_eq]; omega), if_neg (by simp), w64 (by omega) (by omega)]; rfl
  · simp only [f_again_Receiver_Take.s2, f_again_Receiver_Take.s2c]
    rw [if_neg (by simp)]
def bA : ByteArray := ByteArray.mk #[97]
def zs : ByteArray := bstr (List.replicate 16 0)
theorem take_one : f_again_Receiver_Take 2 0 [] 1 0 false bA = some ([bA], (2, 1, false, zs), 0, (2, 1, [])) := by
  have hj : f_again_Receiver_Take.j1 2 0 [(0, bA)] = some ([bA], (2, 1, false, zs), 0, (2, 1, [])) := by
    unfold f_again_Receiver_Take.j1
    have h1 : loop f_again_Receiver_Take.s1 ((2 : Int), (0 : Int), [((0 : Int), bA)], ([] : List ByteArray)) = some (2, 1, [], [bA]) := by
      rw [loop_step (s' := ((2 : Int), (1 : Int), ([] : List (Int × ByteArray)), [bA])) ?_]
      · exact loop_done rfl
      · simp only [f_again_Receiver_Take.s1, f_again_Receiver_Take.s1c]
        rw [show mget [((0 : Int), bA)] 0 = some bA from rfl]
        rw [if_neg (by simp), if_pos (by simp), w64 (by omega) (by omega)]
        rfl
    rw [h1]
    simp only [Option.bind_some]
    rw [no_marks]
    rfl
  unfold f_again_Receiver_Take
  rw [if_neg (by decide)]
  have e0 : IntKind.i64.wrap (IntKind.u8.wrap (0 - IntKind.u8.wrap 0)) = 0 := by decide
  rw [e0, if_pos (by decide), show IntKind.i64.wrap (0 + 0) = 0 by decide, if_pos (by simp [mget_nil])]
  exact hj
theorem inv_one : Inv 2 [(bA, 0, false)] 1 := by
  have hf : fr [(bA, (0 : Int), false)] = 0 := by simp [fr]
  refine ⟨by rw [hf]; omega, by simp, by rw [hf]; omega, fun p h => ?_, fun p h ha => ?_⟩
  · have : p = 0 := by simpa using h
    subst this; simp
  · simpa using h
theorem works_ok : f_foghornlaw28_works = some true := by
  unfold f_foghornlaw28_works
  have n1 : f_again_NewSender 2 5 = some (some (2, 5, 0, 0, []), 0) := by unfold f_again_NewSender; rw [if_neg (by decide)]
  have n2 : f_again_NewReceiver 2 = some (some (2, 0, []), 0) := by unfold f_again_NewReceiver; rw [if_neg (by decide)]
  rw [n1, n2]
  simp only [Option.bind_some]
  rw [if_neg (by decide), OfferC (by decide) (by decide)]
  simp only [Option.bind_some]
  have hf0 : fr [(bA, (-1 : Int), false)] = 0 := by simp [fr]
  have ht := TickC_ok (W := 2) (T := 5) (n := 0) (F := 0) (now := 0) (A := [(bA, (-1 : Int), false)]) (by rw [hf0]; rfl) (by simp) (by omega) (by omega) (by omega)
  have hv : vw [(bA, (-1 : Int), false)] 0 = [(bA, false, 0, false)] := rfl
  have hTO : TO 0 5 0 [(bA, (-1 : Int), false)] (min 2 1) = [(1, 0, false, bA)] := rfl
  have hTA : TA 0 5 0 (min 2 1) [(bA, (-1 : Int), false)] = [(bA, 0, false)] := rfl
  simp only [hf0, hv] at ht
  have ht' : f_again_Sender_Tick 2 5 0 0 ([] ++ [(ByteArray.mk #[97], false, 0, false)]) 0 = some ([(1, 0, false, bA)], 0, 2, 5, 0, 0, vw [(bA, 0, false)] 0) := ht
  rw [ht']
  simp only [Option.bind_some]
  have hg : gt [((1 : Int), (0 : Int), false, bA)] 0 = (1, 0, false, bA) := rfl
  rw [hg]
  rw [if_neg (by decide), if_pos (by decide), show seq bA (ByteArray.mk #[97]) = true by simp [seq, bA]]
  simp only [Option.bind_some, Bool.not_true, Bool.false_eq_true, if_false]
  rw [if_pos (by decide)]
  simp only [Option.bind_some]
  rw [if_neg (by decide), if_pos (by decide), take_one]
  simp only [Option.bind_some]
  rw [if_pos (by decide), if_pos (by decide), show gt [bA] (0 : Int) = bA from rfl, show seq bA (ByteArray.mk #[97]) = true by simp [seq, bA]]
  simp only [Option.bind_some]
  have hf1 : fr [(bA, (0 : Int), false)] = 0 := by simp [fr]
  have hz : zs.size = 16 := by unfold zs; rw [bstr_size]; simp
  have hHear : f_again_Sender_Hear 2 5 0 0 (vw [(bA, 0, false)] 0) 2 1 false zs = some (0, 2, 5, 0, 1, []) := by
    unfold f_again_Sender_Hear
    rw [if_neg (by rw [hz]; decide)]
    have k1 := K_code (W := 2) inv_one (by simp)
    rw [hf1] at k1
    have k1' : loop (f_again_Sender_Hear.s1 2 (vw [(bA, 0, false)] 0)) 0 = some 1 := k1
    rw [k1']
    simp only [Option.bind_some]
    rw [if_neg (by decide)]
    have m1 := marks_code (W := 2) (T := 5) (n := 0) (N := 1) (A := [(bA, (0 : Int), false)]) (K := 1) (D := 1) hz (by simp) (by rw [hf1]; simp) (by omega) (by omega) (by omega) (by rw [hf1]; rfl)
    rw [hf1] at m1
    have m1' : loop (f_again_Sender_Hear.s2 0 1 zs 1) (2, 5, 0, 0, vw [(bA, 0, false)] 0, 0) = some (2, 5, 0, 0, vw (HA zs 0 1 1 [(bA, 0, false)]) 0) := m1
    rw [m1']
    simp only [Option.bind_some]
    have hB : HA zs 0 1 1 [(bA, (0 : Int), false)] = [(bA, 0, true)] := by
      simp [HA, mi, hc]
    have hfB : fr [(bA, (0 : Int), true)] = 1 := by simp [fr]
    rw [hB]
    have c1 := cut_code (W := 2) (T := 5) (n := 0) (B := [(bA, (0 : Int), true)]) (f := 0) (by simp) (by omega)
    rw [hfB] at c1
    have c1' : loop f_again_Sender_Hear.s3 (2, 5, 0, 0, vw [(bA, 0, true)] 0) = some (2, 5, 0, 1, vw [(bA, 0, true)] 1) := c1
    rw [c1']
    rfl
  rw [if_pos (by decide), hHear]
  rfl

/-! ### An answer is heard -/
theorem Hear_ok {W S : Nat} {T n : Int} {A : List RE} (hI : Inv W A S) (hA : A.length ≤ 100000) (hW : W ≤ 128) {a : Nat} (ha : a ≤ S) (hex : fr A + W < a + 256) {ms : ByteArray} (hms : ms.size = 16) :
    ∃ B, f_again_Sender_Hear (W : Int) T n (fr A : Int) (vw A (fr A)) 2 ((a % 256 : Nat) : Int) false ms = some (0, (W : Int), T, n, (fr B : Int), vw B (fr B)) ∧ Inv W B S ∧ B.length = A.length ∧ fr A ≤ fr B ∧ a ≤ fr B ∧
      (∀ p (h : p < A.length) (h' : p < B.length), B[p].1 = A[p].1 ∧ B[p].2.1 = A[p].2.1) ∧
      (∀ p (h : p < A.length) (h' : p < B.length), B[p].2.2 = true → A[p].2.2 = true ∨ p < a ∨ ∃ m, m < 128 ∧ mk ms m = true ∧ p = a + 1 + m) := by
  have hl := fr_le A
  have hS := hI.Sl; have hw := hI.Sw; have hf := hI.fS
  unfold f_again_Sender_Hear
  rw [if_neg (by rw [hms]; simp), K_code hI hA]
  simp only [Option.bind_some]
  obtain ⟨D, hD⟩ : ∃ D : Nat, D = ((((a % 256 : Nat) : Int) - fr A) % 256).toNat := ⟨_, rfl⟩
  rw [(dd (N := ((a % 256 : Nat) : Int)) (f := fr A) (by omega) (by omega) (by omega)).1, ← hD]
  by_cases hc1 : S - fr A < D
  · rw [if_pos (by rw [decide_eq_true_eq]; omega)]
    exact ⟨A, rfl, hI, rfl, Nat.le_refl _, by omega, fun p h h' => ⟨rfl, rfl⟩, fun p h h' hb => .inl hb⟩
  · rw [if_neg (by rw [decide_eq_true_eq]; omega), marks_code hms hA (by omega) (by omega) (by omega) (by omega) hD]
    simp only [Option.bind_some]
    obtain ⟨h1, h2⟩ := hI.hear ms D
    rw [cut_code (by rw [HA_len]; exact hA) h2]
    have haD : a = fr A + D := by omega
    refine ⟨_, rfl, h1, HA_len, h2, ?_, fun p h h' => ?_, fun p h h' hb => ?_⟩
    · refine le_fr (by rw [HA_len]; omega) fun p hp hpa => ?_
      have hq : p < A.length := by rw [HA_len] at hp; exact hp
      rw [HA_at hq hp]
      by_cases hpf : p < fr A
      · split
        · rfl
        · exact (fr_spec A).1 p hq hpf
      · rw [if_pos]
        simp only [hc, Bool.and_eq_true, decide_eq_true_eq, Bool.or_eq_true]
        exact ⟨⟨by omega, by omega⟩, .inl (by omega)⟩
    · rw [HA_at h h']; split <;> exact ⟨rfl, rfl⟩
    · rw [HA_at h h'] at hb
      split at hb
      · rename_i hcc
        simp only [hc, Bool.and_eq_true, decide_eq_true_eq, Bool.or_eq_true] at hcc
        rcases hcc.2 with h3 | h3
        · exact .inr (.inl (by omega))
        · exact .inr (.inr ⟨p - fr A - D - 1, by omega, h3.2, by omega⟩)
      · exact .inl hb
/-! ### The link -/
abbrev FL := Int × Int × FR
abbrev LS := List (Int × Int)
theorem pbits : ∀ p : Fin 256, iand .i64 (p.val : Int) 1 = ((p.val % 2 : Nat) : Int) ∧ iand .i64 (ishr .i64 (p.val : Int) 1) 3 = ((p.val / 2 % 4 : Nat) : Int) ∧ iand .i64 (ishr .i64 (p.val : Int) 3) 7 = ((p.val / 8 % 8 : Nat) : Int) ∧ ishr .i64 (p.val : Int) 6 = ((p.val / 64 : Nat) : Int) := by
  decide +kernel
theorem pick_ok {w s0 s1 s2 s3 r0 r1 row base off : Int} {s4 : List CE} {r2 : MP} {th bk : List FL} {picks : List Int} {at_ : Nat} {lost : LS} {got : List ByteArray} {ex : Bool} {tm : List Int} (hpk : ∀ x ∈ picks, 0 ≤ x ∧ x < 256) (hat : at_ < 1099511627776) :
    ∃ p at' : Nat, p < 256 ∧ at_ ≤ at' ∧ at' ≤ at_ + 1 ∧ (∀ c : Nat, picks = [(c : Int)] → p = c) ∧
      f_foghornlaw28_link_pick w (some (s0, s1, s2, s3, s4)) (some (r0, r1, r2)) th bk picks (at_ : Int) lost row base off got ex tm = some ((p : Int), w, some (s0, s1, s2, s3, s4), some (r0, r1, r2), th, bk, picks, (at' : Int), lost, row, base, off, got, ex, tm) := by
  unfold f_foghornlaw28_link_pick
  by_cases h0 : picks.length = 0
  · rw [if_pos (by simp [h0])]
    refine ⟨0, at_, by omega, by omega, by omega, fun c hc => by rw [hc] at h0; simp at h0, rfl⟩
  · rw [if_neg (by simp only [beq_iff_eq]; omega)]
    simp only [Option.bind_some]
    rw [if_pos (by omega), w64 (x := (at_ : Int) + 1) (by omega) (by omega), w64 (x := (at_ : Int) + 1 - 1) (by omega) (by omega)]
    have e : ((at_ : Int) + 1 - 1).tmod (picks.length : Int) = ((at_ % picks.length : Nat) : Int) := by
      rw [show (at_ : Int) + 1 - 1 = (at_ : Int) by omega]; exact tmod_nat _ _
    have hlt : at_ % picks.length < picks.length := Nat.mod_lt _ (by omega)
    rw [e, if_pos (by omega), gt_nat hlt]
    have hx := hpk _ (List.getElem_mem hlt)
    refine ⟨(picks[at_ % picks.length]).toNat, at_ + 1, by omega, by omega, by omega, fun c hc => ?_, ?_⟩
    · subst hc; simp
    · rw [w64 (by omega) (by omega), Int.toNat_of_nonneg hx.1]; rfl
abbrev lst (W : Nat) (T nS : Int) (A : List RE) (R : Nat) (M : MP) (th bk : List FL) (at_ : Nat) (lost : LS) (row : Int) (N : Nat) (got : List ByteArray) (tm : List Int) (later : List FL) (i : Nat) :=
  ((W : Int), (W : Int), T, nS, (fr A : Int), vw A (fr A), (W : Int), (R : Int), M, th, bk, (at_ : Int), lost, row, (fr A : Int), (N : Int), got, false, tm, later, (i : Int))
theorem c1_late {W R N at_ i : Nat} {T nS row now : Int} {A : List RE} {M : MP} {th bk later : List FL} {lost : LS} {got : List ByteArray} {tm picks : List Int} (hi : i < th.length) (hth : th.length < 1099511627776) (hl : later.length < 1099511627776) (h : now < th[i].1) :
    f_foghornlaw28_link_come.s1 picks now (lst W T nS A R M th bk at_ lost row N got tm later i) = some (.inl (lst W T nS A R M th bk at_ lost row N got tm (later ++ [th[i]]) (i + 1))) := by
  simp only [f_foghornlaw28_link_come.s1, f_foghornlaw28_link_come.s1c, lst]
  rw [if_pos (by rw [decide_eq_true_eq]; omega), if_pos (by omega), gt_nat hi, if_pos (by rw [decide_eq_true_eq]; exact h), if_pos (by simp only [List.length_cons, List.length_nil]; omega), w64 (by omega) (by omega)]
  rfl
theorem c1_end {W R N at_ i : Nat} {T nS row now : Int} {A : List RE} {M : MP} {th bk later : List FL} {lost : LS} {got : List ByteArray} {tm picks : List Int} (hi : i = th.length) :
    f_foghornlaw28_link_come.s1 picks now (lst W T nS A R M th bk at_ lost row N got tm later i) = some (.inr (.inl ((W : Int), (W : Int), T, nS, (fr A : Int), vw A (fr A), (W : Int), (R : Int), M, th, bk, (at_ : Int), lost, row, (fr A : Int), (N : Int), got, false, tm, later))) := by
  simp only [f_foghornlaw28_link_come.s1, f_foghornlaw28_link_come.s1c, lst]
  rw [if_neg (by rw [decide_eq_true_eq]; omega)]
theorem c1_step {W R N at_ i S idx : Nat} {T nS row now : Int} {A : List RE} {M : MP} {th bk later : List FL} {lost : LS} {got : List ByteArray} {tm picks : List Int} {body : Nat → ByteArray}
    (hW : W ≤ 128) (hS : S ≤ 100000) (hR : R ≤ S) (hK : Kp body R S M) (hm : mget M (R : Int) = none) (hbs : ∀ k, (body k).size ≤ 240) (hpk : ∀ x ∈ picks, 0 ≤ x ∧ x < 256) (hat : at_ < 1099511627776)
    (hrow : 0 ≤ row ∧ row ≤ 3) (hgot : got.length = R) (hb : bk.length < 1099511627776) (hn0 : 0 ≤ now) (hn1 : now < 1099511627776) (hi : i < th.length) (hth : th.length < 1099511627776)
    (hf : th[i].2 = ((idx : Int), 1, ((idx % 256 : Nat) : Int), false, body idx)) (hidx : idx < S) (hSW : S ≤ R + W) (hle : th[i].1 ≤ now) :
    (256 - (W : Int) < (R : Int) - idx ∧ ∃ y, f_foghornlaw28_link_come.s1 picks now (lst W T nS A R M th bk at_ lost row N got tm later i) = some (.inr (.inr (true, y))) ∧ y.2.2.2.2.2.2.2.2.2.2.2.2.1 = true) ∨
    ∃ (R' : Nat) (M' : MP) (ms : ByteArray) (p at' : Nat), Took body S R idx M R' M' ms ∧ p < 256 ∧ at_ ≤ at' ∧ at' ≤ at_ + 1 ∧ (∀ c : Nat, picks = [(c : Int)] → p = c) ∧
      f_foghornlaw28_link_come.s1 picks now (lst W T nS A R M th bk at_ lost row N got tm later i) =
        some (.inl (if p % 2 = 1 ∧ row < 3 then lst W T nS A R' M' th bk at' lost (row + 1) N (got ++ (List.range' R (R' - R)).map body) tm later (i + 1)
          else lst W T nS A R' M' th (bk ++ [(now + 1 + ((p / 2 % 4 : Nat) : Int), (R' : Int), 2, ((R' % 256 : Nat) : Int), false, ms)]) at' lost 0 N (got ++ (List.range' R (R' - R)).map body) tm later (i + 1))) := by
  have hg : gt th (i : Int) = th[i] := gt_nat hi
  have hHand : ∀ w r : Int, f_again_Receiver_Handed w r = some r := fun _ _ => rfl
  by_cases hex : 256 - (W : Int) < (R : Int) - idx
  · refine .inl ⟨hex, ((W : Int), some ((W : Int), T, nS, (fr A : Int), vw A (fr A)), some ((W : Int), (R : Int), M), th, bk, picks, (at_ : Int), lost, row, (fr A : Int), (N : Int), got, true, tm), ?_, rfl⟩
    · simp only [f_foghornlaw28_link_come.s1, f_foghornlaw28_link_come.s1c, lst]
      rw [if_pos (by rw [decide_eq_true_eq]; omega), if_pos (by omega), hg, if_neg (by rw [decide_eq_true_eq]; omega), hHand]
      simp only [Option.bind_some, hf]
      rw [w64 (x := 256 - (W : Int)) (by omega) (by omega), w64 (by omega) (by omega), if_pos (by rw [decide_eq_true_eq]; exact hex)]
  · obtain ⟨R', M', ms, e1, e2⟩ := Take_ok hW hS hR hK hm hidx (by omega) (by omega) (hbs idx)
    have hRS := e2.leS
    have hRR := e2.le
    obtain ⟨p, at', q1, q2, q3, q4, q5⟩ := pick_ok (w := (W : Int)) (s0 := (W : Int)) (s1 := T) (s2 := nS) (s3 := (fr A : Int)) (r0 := (W : Int)) (r1 := (R' : Int)) (row := row) (base := (fr A : Int)) (off := (N : Int)) (s4 := vw A (fr A)) (r2 := M') (th := th) (bk := bk) (lost := lost) (got := got ++ (List.range' R (R' - R)).map body) (ex := false) (tm := tm) hpk hat
    refine .inr ⟨R', M', ms, p, at', e2, q1, q2, q3, q4, ?_⟩
    obtain ⟨b1, b2, -, -⟩ := pbits ⟨p, q1⟩
    simp only at b1 b2
    simp only [f_foghornlaw28_link_come.s1, f_foghornlaw28_link_come.s1c, lst]
    rw [if_pos (by rw [decide_eq_true_eq]; omega), if_pos (by omega), hg, if_neg (by rw [decide_eq_true_eq]; omega), hHand]
    simp only [Option.bind_some, hf]
    rw [w64 (x := 256 - (W : Int)) (by omega) (by omega), w64 (x := (R : Int) - idx) (by omega) (by omega), if_neg (by rw [decide_eq_true_eq]; exact hex), e1]
    simp only [Option.bind_some]
    rw [if_neg (by simp), if_pos (by simp only [List.length_map, List.length_range']; omega), q5]
    simp only [Option.bind_some, b1, b2]
    rw [w64 (x := (i : Int) + 1) (by omega) (by omega), w64 (x := row + 1) (by omega) (by omega), w64 (x := now + 1) (by omega) (by omega)]
    by_cases hp : p % 2 = 1 ∧ row < 3
    · rw [if_pos (by simp only [Bool.and_eq_true, beq_iff_eq, decide_eq_true_eq]; omega), if_pos hp]
      rfl
    · rw [if_neg (by simp only [Bool.and_eq_true, beq_iff_eq, decide_eq_true_eq]; omega), if_neg hp, hHand]
      simp only [Option.bind_some]
      rw [if_pos (by simp only [List.length_cons, List.length_nil]; omega), w64 (by omega) (by omega)]
      rfl
theorem c2_late {W R N at_ i : Nat} {T nS row now : Int} {A : List RE} {M : MP} {th bk later : List FL} {lost : LS} {got : List ByteArray} {tm picks : List Int} (hi : i < bk.length) (hth : bk.length < 1099511627776) (hl : later.length < 1099511627776) (h : now < bk[i].1) :
    f_foghornlaw28_link_come.s2 picks now (lst W T nS A R M th bk at_ lost row N got tm later i) = some (.inl (lst W T nS A R M th bk at_ lost row N got tm (later ++ [bk[i]]) (i + 1))) := by
  simp only [f_foghornlaw28_link_come.s2, f_foghornlaw28_link_come.s2c, lst]
  rw [if_pos (by rw [decide_eq_true_eq]; omega), if_pos (by omega), gt_nat hi, if_pos (by rw [decide_eq_true_eq]; exact h), if_pos (by simp only [List.length_cons, List.length_nil]; omega), w64 (by omega) (by omega)]
  rfl
theorem c2_end {W R N at_ i : Nat} {T nS row now : Int} {A : List RE} {M : MP} {th bk later : List FL} {lost : LS} {got : List ByteArray} {tm picks : List Int} (hi : i = bk.length) :
    f_foghornlaw28_link_come.s2 picks now (lst W T nS A R M th bk at_ lost row N got tm later i) = some (.inr (.inl ((W : Int), (W : Int), T, nS, (fr A : Int), vw A (fr A), (W : Int), (R : Int), M, th, bk, (at_ : Int), lost, row, (fr A : Int), (N : Int), got, false, tm, later))) := by
  simp only [f_foghornlaw28_link_come.s2, f_foghornlaw28_link_come.s2c, lst]
  rw [if_neg (by rw [decide_eq_true_eq]; omega)]
theorem c2_step {W R N at_ i S a : Nat} {T nS row now : Int} {A : List RE} {M : MP} {th bk later : List FL} {lost : LS} {got : List ByteArray} {tm picks : List Int} {ms : ByteArray}
    (hI : Inv W A S) (hA : A.length = N) (hN : N ≤ 100000) (hW : W ≤ 128) (ha : a ≤ S) (hms : ms.size = 16) (hi : i < bk.length) (hbk : bk.length < 1099511627776)
    (hb : bk[i].2 = ((a : Int), 2, ((a % 256 : Nat) : Int), false, ms)) (hle : bk[i].1 ≤ now) :
    (256 - (W : Int) ≤ (fr A : Int) - a ∧ ∃ y, f_foghornlaw28_link_come.s2 picks now (lst W T nS A R M th bk at_ lost row N got tm later i) = some (.inr (.inr (true, y))) ∧ y.2.2.2.2.2.2.2.2.2.2.2.2.1 = true) ∨
    ∃ B, Inv W B S ∧ B.length = A.length ∧ fr A ≤ fr B ∧ a ≤ fr B ∧
      (∀ p (h : p < A.length) (h' : p < B.length), B[p].1 = A[p].1 ∧ B[p].2.1 = A[p].2.1) ∧
      (∀ p (h : p < A.length) (h' : p < B.length), B[p].2.2 = true → A[p].2.2 = true ∨ p < a ∨ ∃ m, m < 128 ∧ mk ms m = true ∧ p = a + 1 + m) ∧
      f_foghornlaw28_link_come.s2 picks now (lst W T nS A R M th bk at_ lost row N got tm later i) = some (.inl (lst W T nS B R M th bk at_ lost row N got tm later (i + 1))) := by
  have hg : gt bk (i : Int) = bk[i] := gt_nat hi
  have hl := fr_le A
  by_cases hex : 256 - (W : Int) ≤ (fr A : Int) - a
  · refine .inl ⟨hex, ((W : Int), some ((W : Int), T, nS, (fr A : Int), vw A (fr A)), some ((W : Int), (R : Int), M), th, bk, picks, (at_ : Int), lost, row, (fr A : Int), (N : Int), got, true, tm), ?_, rfl⟩
    · simp only [f_foghornlaw28_link_come.s2, f_foghornlaw28_link_come.s2c, lst]
      rw [if_pos (by rw [decide_eq_true_eq]; omega), if_pos (by omega), hg, if_neg (by rw [decide_eq_true_eq]; omega)]
      simp only [hb]
      rw [w64 (x := 256 - (W : Int)) (by omega) (by omega), w64 (x := (fr A : Int) - a) (by omega) (by omega), if_pos (by rw [decide_eq_true_eq]; exact hex)]
  · obtain ⟨B, e1, e2, e3, e4, e5, e6, e7⟩ := Hear_ok (T := T) (n := nS) hI (by omega) hW ha (by omega) hms
    refine .inr ⟨B, e2, e3, e4, e5, e6, e7, ?_⟩
    have hlB := fr_le B
    simp only [f_foghornlaw28_link_come.s2, f_foghornlaw28_link_come.s2c, lst]
    rw [if_pos (by rw [decide_eq_true_eq]; omega), if_pos (by omega), hg, if_neg (by rw [decide_eq_true_eq]; omega)]
    simp only [hb]
    rw [w64 (x := 256 - (W : Int)) (by omega) (by omega), w64 (x := (fr A : Int) - a) (by omega) (by omega), if_neg (by rw [decide_eq_true_eq]; exact hex), e1]
    simp only [Option.bind_some]
    rw [if_neg (by simp), LeftC_ok]
    simp only [Option.bind_some]
    have : IntKind.i64.wrap ((N : Int) - ((B.length - fr B : Nat) : Int)) = (fr B : Int) := by rw [w64 (by omega) (by omega)]; omega
    rw [this, w64 (x := (i : Int) + 1) (by omega) (by omega)]
    rfl
/-- the state while what is sent goes on its way -/
abbrev tst (W : Nat) (T nS : Int) (A : List RE) (R : Nat) (M : MP) (th bk : List FL) (at_ : Nat) (lost : LS) (row : Int) (N : Nat) (got : List ByteArray) (tm : List Int) (i : Nat) :=
  ((W : Int), (W : Int), T, nS, (fr A : Int), vw A (fr A), (W : Int), (R : Int), M, th, bk, (at_ : Int), lost, row, (fr A : Int), (N : Int), got, false, tm, (i : Int))
theorem t_end {W R N at_ i : Nat} {T nS row now : Int} {A : List RE} {M : MP} {th bk : List FL} {lost : LS} {got : List ByteArray} {tm picks : List Int} {q : List FR × Int × Int × Int × Int × Int × List CE} (hi : i = q.1.length) :
    f_foghornlaw28_link_tick.s1 picks now q (tst W T nS A R M th bk at_ lost row N got tm i) = some (.inr (.inl ((W : Int), (W : Int), T, nS, (fr A : Int), vw A (fr A), (W : Int), (R : Int), M, th, bk, (at_ : Int), lost, row, (fr A : Int), (N : Int), got, false, tm))) := by
  simp only [f_foghornlaw28_link_tick.s1, f_foghornlaw28_link_tick.s1c, tst]
  rw [if_neg (by rw [decide_eq_true_eq]; omega)]
def gl (lost : LS) (k : Nat) : Int := (mget lost (k : Int)).getD 0
theorem t_step {W R N at_ i j : Nat} {T nS row now : Int} {A : List RE} {M : MP} {th bk : List FL} {lost : LS} {got : List ByteArray} {tm picks : List Int} {q : List FR × Int × Int × Int × Int × Int × List CE} {b : ByteArray}
    (hN : N ≤ 100000) (hj : j < 128) (hjN : fr A + j < N) (hpk : ∀ x ∈ picks, 0 ≤ x ∧ x < 256) (hat : at_ < 1099511627776) (hth : th.length < 1099511627776)
    (hl : 0 ≤ gl lost (fr A + j) ∧ gl lost (fr A + j) ≤ 3) (hn0 : 0 ≤ now) (hn1 : now < 1099511627776) (htm : tm.length = N) (hiq : q.1.length ≤ 128) (hi : i < q.1.length) (hq : q.1[i] = (1, (((fr A + j) % 256 : Nat) : Int), false, b)) :
    ∃ p at' : Nat, p < 256 ∧ at_ ≤ at' ∧ at' ≤ at_ + 1 ∧ (∀ c : Nat, picks = [(c : Int)] → p = c) ∧
      f_foghornlaw28_link_tick.s1 picks now q (tst W T nS A R M th bk at_ lost row N got tm i) =
        some (.inl (if p % 2 = 1 ∧ gl lost (fr A + j) < 3 then tst W T nS A R M th bk at' (mput lost ((fr A + j : Nat) : Int) (gl lost (fr A + j) + 1)) row N got (tm.set (fr A + j) (IntKind.i64.wrap (gt tm ((fr A + j : Nat) : Int) + 1))) (i + 1)
          else if p / 8 % 8 = 7 then tst W T nS A R M (th ++ [(now + 1 + ((p / 2 % 4 : Nat) : Int), ((fr A + j : Nat) : Int), 1, (((fr A + j) % 256 : Nat) : Int), false, b)] ++ [(now + 2 + ((p / 64 : Nat) : Int), ((fr A + j : Nat) : Int), 1, (((fr A + j) % 256 : Nat) : Int), false, b)]) bk at' lost row N got (tm.set (fr A + j) (IntKind.i64.wrap (gt tm ((fr A + j : Nat) : Int) + 1))) (i + 1)
          else tst W T nS A R M (th ++ [(now + 1 + ((p / 2 % 4 : Nat) : Int), ((fr A + j : Nat) : Int), 1, (((fr A + j) % 256 : Nat) : Int), false, b)]) bk at' lost row N got (tm.set (fr A + j) (IntKind.i64.wrap (gt tm ((fr A + j : Nat) : Int) + 1))) (i + 1))) := by
  have hg : gt q.1 (i : Int) = q.1[i] := gt_nat hi
  obtain ⟨p, at', q1, q2, q3, q4, q5⟩ := pick_ok (w := (W : Int)) (s0 := (W : Int)) (s1 := T) (s2 := nS) (s3 := (fr A : Int)) (r0 := (W : Int)) (r1 := (R : Int)) (row := row) (base := (fr A : Int)) (off := (N : Int)) (s4 := vw A (fr A)) (r2 := M) (th := th) (bk := bk) (lost := lost) (got := got) (ex := false) (tm := tm.set (fr A + j) (IntKind.i64.wrap (gt tm ((fr A + j : Nat) : Int) + 1))) hpk hat
  refine ⟨p, at', q1, q2, q3, q4, ?_⟩
  obtain ⟨b1, b2, b3, b4⟩ := pbits ⟨p, q1⟩
  simp only at b1 b2 b3 b4
  have hix : IntKind.i64.wrap ((fr A : Int) + IntKind.i64.wrap (IntKind.u8.wrap ((((fr A + j) % 256 : Nat) : Int) - IntKind.u8.wrap (fr A : Int)))) = ((fr A + j : Nat) : Int) := by
    rw [IntKind.wrap_u8, IntKind.wrap_u8, w64 (x := ((((fr A + j) % 256 : Nat) : Int) - ((fr A : Int)) % 256) % 256) (by omega) (by omega), w64 (by omega) (by omega)]
    omega
  simp only [f_foghornlaw28_link_tick.s1, f_foghornlaw28_link_tick.s1c, tst]
  rw [if_pos (by rw [decide_eq_true_eq]; omega), if_pos (by omega), hg, hq]
  simp only [hix]
  rw [if_neg (by rw [decide_eq_true_eq]; omega), if_pos (by omega), if_pos (by omega), Int.toNat_natCast, q5]
  simp only [Option.bind_some, b1, b2, b3, b4]
  rw [w64 (x := (i : Int) + 1) (by omega) (by omega), w64 (x := now + 1) (by omega) (by omega), w64 (x := now + 2) (by omega) (by omega), w64 (x := now + 1 + ((p / 2 % 4 : Nat) : Int)) (by omega) (by omega), w64 (x := now + 2 + ((p / 64 : Nat) : Int)) (by omega) (by omega)]
  have hgl : (mget lost ((fr A + j : Nat) : Int)).getD 0 = gl lost (fr A + j) := rfl
  rw [hgl, w64 (x := gl lost (fr A + j) + 1) (by omega) (by omega)]
  by_cases hp : p % 2 = 1 ∧ gl lost (fr A + j) < 3
  · rw [if_pos (by simp only [Bool.and_eq_true, beq_iff_eq, decide_eq_true_eq]; omega), if_pos hp]
    rfl
  · rw [if_neg (by simp only [Bool.and_eq_true, beq_iff_eq, decide_eq_true_eq]; omega), if_neg hp, if_pos (by omega), if_pos (by simp only [List.length_cons, List.length_nil]; omega)]
    by_cases hp2 : p / 8 % 8 = 7
    · rw [if_pos (by simp only [beq_iff_eq]; omega), if_pos hp2, if_pos (by omega), if_pos (by simp only [List.length_append, List.length_cons, List.length_nil]; omega)]
      rfl
    · rw [if_neg (by simp only [beq_iff_eq]; omega), if_neg hp2]
      rfl

/-! ### How long the front message takes -/
def RK (F R : Nat) (lost : LS) (row : Int) : Int := (3 - gl lost F) + (if F < R then 4 - row else 4)
def PD (F : Nat) (th : List FL) (D : Int) : Nat := th.countP (fun f => f.2.1 == (F : Int) && decide (f.1 + 5 ≤ D))
def C1 (F R : Nat) (lost : LS) (row : Int) (th bk : List FL) (Z T D : Int) : Prop :=
  (∃ b ∈ bk, (F : Int) < b.2.1 ∧ b.1 ≤ D) ∨ RK F R lost row ≤ PD F th D ∨ ∃ q : Nat, RK F R lost row ≤ PD F th D + q + 1 ∧ Z + q * T + 10 ≤ D
theorem PD_append {F : Nat} {l m : List FL} {D : Int} : PD F (l ++ m) D = PD F l D + PD F m D := by simp [PD, List.countP_append]
theorem PD_cons {F : Nat} {f : FL} {l : List FL} {D : Int} : PD F (f :: l) D = PD F l D + if f.2.1 = (F : Int) ∧ f.1 + 5 ≤ D then 1 else 0 := by
  unfold PD
  rw [List.countP_cons]
  by_cases h : f.2.1 = (F : Int) ∧ f.1 + 5 ≤ D
  · rw [if_pos h, if_pos (by simp [h])]
  · rw [if_neg h, if_neg (by simpa using h)]
theorem PD_nil {F : Nat} {D : Int} : PD F [] D = 0 := rfl
theorem PD_pos {F : Nat} {th : List FL} {D : Int} (h : 1 ≤ PD F th D) : ∃ f ∈ th, f.1 + 5 ≤ D := by
  have := List.countP_pos_iff.1 (show 0 < _ from h)
  obtain ⟨f, h1, h2⟩ := this
  simp only [Bool.and_eq_true, decide_eq_true_eq] at h2
  exact ⟨f, h1, h2.2⟩
theorem C1.deadline {F R : Nat} {lost : LS} {row : Int} {th bk : List FL} {Z T D t : Int} (h : C1 F R lost row th bk Z T D) (h1 : ∀ f ∈ th, t ≤ f.1) (h2 : ∀ b ∈ bk, t ≤ b.1) (hZ : t ≤ Z) (hT : 0 ≤ T) (hr : 1 ≤ RK F R lost row) :
    t ≤ D ∧ ((∃ b ∈ bk, (F : Int) < b.2.1 ∧ b.1 ≤ D) ∨ t + 5 ≤ D) := by
  rcases h with ⟨b, hb, c1, c2⟩ | h | ⟨q, c1, c2⟩
  · exact ⟨by have := h2 b hb; omega, .inl ⟨b, hb, c1, c2⟩⟩
  · obtain ⟨f, hf, hD⟩ := PD_pos (F := F) (th := th) (D := D) (by omega)
    have := h1 f hf
    exact ⟨by omega, .inr (by omega)⟩
  · have : 0 ≤ (q : Int) * T := Int.mul_nonneg (by omega) hT
    exact ⟨by omega, .inr (by omega)⟩
theorem C1.next {F R : Nat} {lost lost' : LS} {row : Int} {th th' bk : List FL} {Z T D : Int} (h : C1 F R lost row th bk Z T D) (hT : 0 ≤ T)
    (h0 : RK F R lost' row - PD F th' D ≤ RK F R lost row - PD F th D) (h1 : Z + 10 ≤ D → RK F R lost' row - PD F th' D + 1 ≤ RK F R lost row - PD F th D) : C1 F R lost' row th' bk (Z + T) T D := by
  rcases h with h | h | ⟨q, c1, c2⟩
  · exact .inl h
  · exact .inr (.inl (by omega))
  · have hm : 0 ≤ (q : Int) * T := Int.mul_nonneg (by omega) hT
    have := h1 (by omega)
    cases q with
    | zero => exact .inr (.inl (by simp at c1; omega))
    | succ q =>
      have e : ((q + 1 : Nat) : Int) * T = (q : Int) * T + T := by rw [Int.natCast_add, Int.add_mul]; simp
      rw [e] at c2
      exact .inr (.inr ⟨q, by omega, by omega⟩)
theorem C1.same {F R R' : Nat} {lost lost' : LS} {row row' : Int} {th th' bk bk' : List FL} {Z T D : Int} (h : C1 F R lost row th bk Z T D)
    (h0 : RK F R' lost' row' - PD F th' D ≤ RK F R lost row - PD F th D) (hb : ∀ b ∈ bk, (F : Int) < b.2.1 → b ∈ bk') : C1 F R' lost' row' th' bk' Z T D := by
  rcases h with ⟨b, h1, h2, h3⟩ | h | ⟨q, c1, c2⟩
  · exact .inl ⟨b, hb b h1 h2, h2, h3⟩
  · exact .inr (.inl (by omega))
  · exact .inr (.inr ⟨q, by omega, c2⟩)
theorem C1.new {F R : Nat} {lost : LS} {row : Int} {th bk : List FL} {Z T now : Int} (hl : 0 ≤ gl lost F) (hr : 0 ≤ row) (hZ : Z ≤ now + T) : C1 F R lost row th bk Z T (now + 7 * T + 10) := by
  refine .inr (.inr ⟨6, ?_, ?_⟩)
  · unfold RK; split <;> omega
  · simp; omega
/-! ### The link's state -/
def Zf (A : List RE) (t T : Int) : Int := match A[fr A]? with
  | some r => if 0 ≤ r.2.1 ∧ t ≤ r.2.1 + T then r.2.1 + T else t
  | none => t
theorem Zf_lt {A : List RE} {t T : Int} (h : fr A < A.length) : Zf A t T = if 0 ≤ A[fr A].2.1 ∧ t ≤ A[fr A].2.1 + T then A[fr A].2.1 + T else t := by
  unfold Zf; rw [List.getElem?_eq_getElem h]
structure Sl (body : Nat → ByteArray) (S : Nat) (t : Int) (f : FL) : Prop where
  e : ∃ i : Nat, f.2 = ((i : Int), 1, ((i % 256 : Nat) : Int), false, body i) ∧ i < S
  le : t ≤ f.1
structure Bl (R : Nat) (M : MP) (t : Int) (b : FL) : Prop where
  e : ∃ (a : Nat) (ms : ByteArray), b.2 = ((a : Int), 2, ((a % 256 : Nat) : Int), false, ms) ∧ a ≤ R ∧ ms.size = 16 ∧ ∀ m, m < 128 → mk ms m = true → a + 1 + m < R ∨ (mget M ((a + 1 + m : Nat) : Int)).isSome = true
  le : t ≤ b.1
structure LK (W N : Nat) (T : Int) (body : Nat → ByteArray) (t now Z : Int) (A : List RE) (S R : Nat) (M : MP) (th bk : List FL) (at_ : Nat) (lost : LS) (row : Int) (got : List ByteArray) (tm : List Int) (lim : Nat) : Prop where
  inv : Inv W A S
  AN : A.length = N
  bod : ∀ p (h : p < A.length), A[p].1 = body p
  kp : Kp body R S M
  m0 : mget M (R : Int) = none
  RS : R ≤ S
  ans : ∀ p (h : p < A.length), A[p].2.2 = true → p < R ∨ (mget M (p : Int)).isSome = true
  gotE : got = (List.range R).map body
  fth : ∀ f ∈ th, Sl body S t f
  fbk : ∀ b ∈ bk, Bl R M t b
  tmN : tm.length = N
  rowB : 0 ≤ row ∧ row ≤ 3
  lostB : ∀ k : Nat, 0 ≤ gl lost k ∧ gl lost k ≤ 3
  sz : 2 * th.length + bk.length + at_ ≤ lim
  atn : ∀ p (h : p < A.length), A[p].2.1 ≤ now
  live : fr A < N → ∃ D, C1 (fr A) R lost row th bk Z T D ∧ D ≤ (7 * T + 10) * ((fr A : Int) + 1)
theorem LK.frR {W N : Nat} {T : Int} {body : Nat → ByteArray} {t now Z : Int} {A : List RE} {S R : Nat} {M : MP} {th bk : List FL} {at_ : Nat} {lost : LS} {row : Int} {got : List ByteArray} {tm : List Int} {lim : Nat}
    (h : LK W N T body t now Z A S R M th bk at_ lost row got tm lim) : fr A ≤ R := by
  rcases Nat.lt_or_ge R (fr A) with h1 | h1
  · have hl := fr_le A
    have h2 := (fr_spec A).1 R (by omega) h1
    have := h.ans R (by omega) h2
    rw [h.m0] at this
    simp at this
  · exact h1
theorem Took.old {body : Nat → ByteArray} {S n i : Nat} {M : MP} {n' : Nat} {M' : MP} {ms : ByteArray} (h : Took body S n i M n' M' ms) {t : Int} {b : FL} (hb : Bl n M t b) : Bl n' M' t b := by
  obtain ⟨⟨a, m, e1, e2, e3, e4⟩, e5⟩ := hb
  refine ⟨⟨a, m, e1, by have := h.le; omega, e3, fun k hk hm => h.mono _ (e4 k hk hm)⟩, e5⟩
theorem Took.ans {body : Nat → ByteArray} {S n i : Nat} {M : MP} {n' : Nat} {M' : MP} {ms : ByteArray} (h : Took body S n i M n' M' ms) {t x : Int} (hx : t ≤ x) : Bl n' M' t (x, (n' : Int), 2, ((n' % 256 : Nat) : Int), false, ms) := by
  refine ⟨⟨n', ms, rfl, by omega, h.sz, fun k hk hm => .inr ?_⟩, hx⟩
  rw [← h.mks k hk]; exact hm
theorem Took.front {body : Nat → ByteArray} {S n i : Nat} {M : MP} {n' : Nat} {M' : MP} {ms : ByteArray} (h : Took body S n i M n' M' ms) (hi : i ≤ n) : i < n' := by
  rcases h.got with h1 | h1
  · exact h1
  · have := h.le
    by_cases h2 : i = n'
    · subst h2; rw [h.m0] at h1; simp at h1
    · omega
/-- What is taken: an answer is lost, or on its way. -/
theorem LK_take {W N : Nat} {T : Int} {body : Nat → ByteArray} {now Z : Int} {A : List RE} {S R : Nat} {M : MP} {l1 l2 : List FL} {f : FL} {bk : List FL} {at_ at' : Nat} {lost : LS} {row : Int} {got : List ByteArray} {tm : List Int} {lim : Nat}
    (h : LK W N T body now now Z A S R M (l1 ++ f :: l2) bk at_ lost row got tm lim) (hT : 0 ≤ T) (hZ : now ≤ Z) {idx : Nat} (hf : f.2 = ((idx : Int), 1, ((idx % 256 : Nat) : Int), false, body idx)) (hle : f.1 ≤ now)
    {R' : Nat} {M' : MP} {ms : ByteArray} (tk : Took body S R idx M R' M' ms) (hat : at' ≤ at_ + 1) {p : Nat} :
    (row < 3 → LK W N T body now now Z A S R' M' (l1 ++ l2) bk at' lost (row + 1) (got ++ (List.range' R (R' - R)).map body) tm lim) ∧
    LK W N T body now now Z A S R' M' (l1 ++ l2) (bk ++ [(now + 1 + ((p / 2 % 4 : Nat) : Int), (R' : Int), 2, ((R' % 256 : Nat) : Int), false, ms)]) at' lost 0 (got ++ (List.range' R (R' - R)).map body) tm lim := by
  have hRR := tk.le
  have hfR := h.frR
  have hrow := h.rowB
  have hf1 : now ≤ f.1 := (h.fth f (by simp)).le
  have hgot : got ++ (List.range' R (R' - R)).map body = (List.range R').map body := by
    rw [h.gotE, ← List.map_append, List.range_eq_range', List.range_eq_range']
    congr 1
    have := List.range'_append (s := 0) (m := R) (n := R' - R) (step := 1)
    simp only [Nat.one_mul, Nat.zero_add] at this
    rw [this, show R + (R' - R) = R' by omega]
  have hans : ∀ p (h : p < A.length), A[p].2.2 = true → p < R' ∨ (mget M' (p : Int)).isSome = true := fun p hp ha => tk.mono p (h.ans p hp ha)
  have hfth : ∀ g ∈ l1 ++ l2, Sl body S now g := fun g hg => h.fth g (by
    rcases List.mem_append.1 hg with hg | hg
    · exact List.mem_append.2 (.inl hg)
    · exact List.mem_append.2 (.inr (List.mem_cons_of_mem _ hg)))
  have hfbk : ∀ b ∈ bk, Bl R' M' now b := fun b hb => tk.old (h.fbk b hb)
  have hsz := h.sz
  simp only [List.length_append, List.length_cons] at hsz
  have hP : ∀ D, (PD (fr A) (l1 ++ f :: l2) D : Int) = PD (fr A) (l1 ++ l2) D + (if (idx : Int) = (fr A : Int) ∧ f.1 + 5 ≤ D then 1 else 0) := by
    intro D
    rw [PD_append, PD_append, PD_cons, hf]
    split <;> simp only [Int.natCast_add] <;> omega
  have hfront : idx = fr A → fr A < R' := fun e => by subst e; exact tk.front hfR
  have hgl := h.lostB (fr A)
  refine ⟨fun hr3 => ⟨h.inv, h.AN, h.bod, tk.kp, tk.m0, tk.leS, hans, hgot, hfth, hfbk, h.tmN, by omega, h.lostB, by simp only [List.length_append]; omega, h.atn, fun hF => ?_⟩,
    ⟨h.inv, h.AN, h.bod, tk.kp, tk.m0, tk.leS, hans, hgot, hfth, ?_, h.tmN, by omega, h.lostB, by simp only [List.length_append, List.length_cons, List.length_nil]; omega, h.atn, fun hF => ?_⟩⟩
  · obtain ⟨D, c1, c2⟩ := h.live hF
    refine ⟨D, c1.same ?_ (fun b hb _ => hb), c2⟩
    rw [hP D]
    unfold RK
    by_cases he : idx = fr A
    · have := hfront he
      rw [if_pos this]
      split <;> split <;> omega
    · have hif : (if (idx : Int) = (fr A : Int) ∧ f.1 + 5 ≤ D then 1 else 0 : Int) = 0 := if_neg (by omega)
      rw [hif]
      split <;> split <;> omega
  · intro b hb
    rcases List.mem_append.1 hb with hb | hb
    · exact hfbk b hb
    · rw [List.mem_singleton] at hb
      subst hb
      exact tk.ans (by omega)
  · obtain ⟨D, c1, c2⟩ := h.live hF
    refine ⟨D, ?_, c2⟩
    by_cases hR' : fr A < R'
    · obtain ⟨d1, d2⟩ := c1.deadline (fun g hg => (h.fth g hg).le) (fun b hb => (h.fbk b hb).le) hZ hT (by unfold RK; split <;> omega)
      rcases d2 with ⟨b, hb, d3, d4⟩ | d2
      · exact .inl ⟨b, List.mem_append.2 (.inl hb), d3, d4⟩
      · refine .inl ⟨_, List.mem_append.2 (.inr (List.mem_singleton.2 rfl)), ?_, ?_⟩
        · simp only; omega
        · simp only; omega
    · refine c1.same ?_ (fun b hb _ => List.mem_append.2 (.inl hb))
      have hif : (if (idx : Int) = (fr A : Int) ∧ f.1 + 5 ≤ D then 1 else 0 : Int) = 0 := if_neg (fun e => hR' (hfront (by omega)))
      rw [hP D, hif]
      unfold RK
      rw [if_neg hR', if_neg (by omega)]
      omega
/-- An answer is heard. -/
theorem LK_hear {W N : Nat} {T : Int} {body : Nat → ByteArray} {now : Int} {A B : List RE} {S R : Nat} {M : MP} {th l1 l2 : List FL} {f : FL} {at_ : Nat} {lost : LS} {row : Int} {got : List ByteArray} {tm : List Int} {lim : Nat}
    (h : LK W N T body now now (Zf A (now + 1) T) A S R M th (l1 ++ f :: l2) at_ lost row got tm lim) (hT : 1 ≤ T) {a : Nat} {ms : ByteArray} (hf : f.2 = ((a : Int), 2, ((a % 256 : Nat) : Int), false, ms)) (ha : a ≤ R) (hm : ∀ m, m < 128 → mk ms m = true → a + 1 + m < R ∨ (mget M ((a + 1 + m : Nat) : Int)).isSome = true)
    (b1 : Inv W B S) (b2 : B.length = A.length) (b3 : fr A ≤ fr B) (b4 : a ≤ fr B)
    (b5 : ∀ p (h : p < A.length) (h' : p < B.length), B[p].1 = A[p].1 ∧ B[p].2.1 = A[p].2.1)
    (b6 : ∀ p (h : p < A.length) (h' : p < B.length), B[p].2.2 = true → A[p].2.2 = true ∨ p < a ∨ ∃ m, m < 128 ∧ mk ms m = true ∧ p = a + 1 + m) :
    LK W N T body now now (Zf B (now + 1) T) B S R M th (l1 ++ l2) at_ lost row got tm lim := by
  have hsz := h.sz
  simp only [List.length_append, List.length_cons] at hsz
  have hAN := h.AN
  refine ⟨b1, by rw [b2]; exact h.AN, fun p hp => ?_, h.kp, h.m0, h.RS, fun p hp hb => ?_, h.gotE, h.fth, ?_, h.tmN, h.rowB, h.lostB, by simp only [List.length_append]; omega, fun p hp => ?_, fun hF => ?_⟩
  · rw [(b5 p (by omega) hp).1]; exact h.bod p (by omega)
  · rcases b6 p (by omega) hp hb with h1 | h1 | ⟨m, m1, m2, m3⟩
    · exact h.ans p (by omega) h1
    · exact .inl (by omega)
    · subst m3; exact hm m m1 m2
  · intro b hb
    refine h.fbk b ?_
    rcases List.mem_append.1 hb with hb | hb
    · exact List.mem_append.2 (.inl hb)
    · exact List.mem_append.2 (.inr (List.mem_cons_of_mem _ hb))
  · rw [(b5 p (by omega) hp).2]; exact h.atn p (by omega)
  · obtain ⟨D, c1, c2⟩ := h.live (by omega)
    have hgl := h.lostB (fr A)
    have hrow := h.rowB
    have hZ : now + 1 ≤ Zf A (now + 1) T := by
      rw [Zf_lt (by omega)]; split <;> omega
    have hZB : Zf B (now + 1) T ≤ now + T := by
      rw [Zf_lt (by omega)]
      have := h.atn (fr B) (by omega)
      have e := (b5 (fr B) (by omega) (by omega)).2
      rw [e]
      split <;> omega
    by_cases hFF : fr B = fr A
    · refine ⟨D, ?_, by rw [hFF]; exact c2⟩
      have hZZ : Zf B (now + 1) T = Zf A (now + 1) T := by
        rw [Zf_lt (by omega), Zf_lt (by omega)]
        have e := (b5 (fr A) (by omega) (by omega)).2
        have e2 : B[fr B]'(by omega) = B[fr A]'(by omega) := by congr 1
        rw [e2, e]
      rw [hZZ, hFF]
      refine c1.same (by omega) fun b hb hbF => ?_
      rcases List.mem_append.1 hb with hb | hb
      · exact List.mem_append.2 (.inl hb)
      · rcases List.mem_cons.1 hb with hb | hb
        · subst hb; rw [hf] at hbF; simp only at hbF; omega
        · exact List.mem_append.2 (.inr hb)
    · refine ⟨now + 7 * T + 10, C1.new (h.lostB _).1 hrow.1 hZB, ?_⟩
      have hd := (c1.deadline (fun g hg => (h.fth g hg).le) (fun b hb => (h.fbk b hb).le) (by omega) (by omega) (by unfold RK; split <;> omega)).1
      have e1 : (7 * T + 10) * ((fr A : Int) + 1) + (7 * T + 10) = (7 * T + 10) * ((fr A : Int) + 1 + 1) := by rw [Int.mul_add (7 * T + 10) ((fr A : Int) + 1) 1]; omega
      have e2 : (7 * T + 10) * ((fr A : Int) + 1 + 1) ≤ (7 * T + 10) * ((fr B : Int) + 1) := Int.mul_le_mul_of_nonneg_left (by omega) (by omega)
      omega

/-! ### What is sent at a tick -/
def fm (F : Nat) (body : Nat → ByteArray) (j : Nat) : FR := (1, (((F + j) % 256 : Nat) : Int), false, body (F + j))
theorem TO_js {now T : Int} {F : Nat} {A : List RE} {body : Nat → ByteArray} (hb : ∀ p (h : p < A.length), A[p].1 = body p) (n : Nat) (hn : F + n ≤ A.length) :
    TO now T F A n = ((List.range n).filter (fun j => !skip now T (gt A ((F + j : Nat) : Int)))).map (fm F body) := by
  induction n with
  | zero => rfl
  | succ n ih =>
    have hg : gt A ((F + n : Nat) : Int) = A[F + n]'(by omega) := gt_nat (by omega)
    rw [TO, List.range_succ, List.filter_append, List.map_append, ← ih (by omega)]
    by_cases h : skip now T (gt A ((F + n : Nat) : Int)) = true
    · rw [if_pos h]
      simp only [List.filter_cons, h, Bool.not_true, Bool.false_eq_true, if_false, List.filter_nil, List.map_nil, List.append_nil]
    · rw [if_neg h]
      simp only [Bool.not_eq_true] at h
      simp only [List.filter_cons, h, Bool.not_false, if_true, List.filter_nil, List.map_cons, List.map_nil, fm]
      rw [hg, hb]
theorem LK_tick {W N : Nat} {T : Int} {body : Nat → ByteArray} {now : Int} {A : List RE} {S R : Nat} {M : MP} {th bk : List FL} {at_ : Nat} {lost : LS} {row : Int} {got : List ByteArray} {tm : List Int} {lim : Nat}
    (h : LK W N T body now now (Zf A now T) A S R M th bk at_ lost row got tm lim) (hW : 1 ≤ W) (hT : 1 ≤ T) (h0 : 0 ≤ now) (h1 : now < 1099511627776) (hT2 : T < 1099511627776) {A' : List RE} (hA' : A' = TA now T (fr A) (min W (A.length - fr A)) A) :
    LK W N T body now now (Zf A now T) A' (fr A + min W (A.length - fr A)) R M th bk at_ lost row got tm lim ∧ fr A' = fr A ∧
    (∀ hF : fr A < A.length, (skip now T A[fr A] = false → Zf A now T = now ∧ Zf A' (now + 1) T = Zf A now T + T) ∧ (skip now T A[fr A] = true → Zf A' (now + 1) T = Zf A now T)) := by
  subst hA'
  obtain ⟨i1, i2⟩ := h.inv.tick (now := now) (wait := T) h0
  have hS := h.inv.Sl; have hw := h.inv.Sw; have hf := h.inv.fS
  have hAN := h.AN
  refine ⟨⟨i1, by rw [TA_len]; exact h.AN, fun p hp => ?_, fun k x hx => ?_, h.m0, by have := h.RS; omega, fun p hp ha => ?_, h.gotE, fun f hf => ?_, h.fbk, h.tmN, h.rowB, h.lostB, h.sz, fun p hp => ?_, by rw [i2]; exact h.live⟩, i2, fun hF => ?_⟩
  · have hq : p < A.length := by rw [TA_len] at hp; exact hp
    rw [TA_at hq hp]
    split
    · exact h.bod p hq
    · exact h.bod p hq
  · obtain ⟨h2, h3, h4⟩ := h.kp k x hx
    exact ⟨h2, by omega, h4⟩
  · have hq : p < A.length := by rw [TA_len] at hp; exact hp
    rw [TA_at hq hp] at ha
    refine h.ans p hq ?_
    revert ha; split <;> exact id
  · obtain ⟨⟨i, e1, e2⟩, e3⟩ := h.fth f hf
    exact ⟨⟨i, e1, by omega⟩, e3⟩
  · have hq : p < A.length := by rw [TA_len] at hp; exact hp
    rw [TA_at hq hp]
    split
    · simp only; omega
    · exact h.atn p hq
  · have hun := (fr_spec A).2 hF
    have hat := h.atn (fr A) hF
    have hq : fr A < (TA now T (fr A) (min W (A.length - fr A)) A).length := by rw [TA_len]; exact hF
    have hsk : skip now T A[fr A] = (decide (0 ≤ A[fr A].2.1) && decide (now - A[fr A].2.1 < T)) := by
      unfold skip
      rw [hun, Bool.false_or]
      by_cases h3 : 0 ≤ A[fr A].2.1
      · rw [w64 (by omega) (by omega)]
      · simp [h3]
    have eA := TA_at (now := now) (wait := T) (f := fr A) (j := min W (A.length - fr A)) hF hq
    rw [Zf_lt hF, Zf_lt (by rw [i2]; exact hq)]
    have e2 : (TA now T (fr A) (min W (A.length - fr A)) A)[fr (TA now T (fr A) (min W (A.length - fr A)) A)]'(by rw [i2]; exact hq) = (TA now T (fr A) (min W (A.length - fr A)) A)[fr A] := by congr 1
    constructor
    · intro hs
      have hc : (decide (fr A ≤ fr A) && decide (fr A < fr A + min W (A.length - fr A)) && !skip now T A[fr A]) = true := by
        simp only [hs, Bool.not_false, Bool.and_true, Bool.and_eq_true, decide_eq_true_eq]; omega
      rw [if_pos hc] at eA
      rw [e2, eA]
      rw [hsk] at hs
      simp only [Bool.and_eq_false_iff, decide_eq_false_iff_not] at hs
      simp only
      split <;> split <;> omega
    · intro hs
      have hc : ¬ (decide (fr A ≤ fr A) && decide (fr A < fr A + min W (A.length - fr A)) && !skip now T A[fr A]) = true := by simp [hs]
      rw [if_neg hc] at eA
      rw [e2, eA]
      rw [hsk] at hs
      simp only [Bool.and_eq_true, decide_eq_true_eq] at hs
      split <;> split <;> omega
theorem gl_put {lost : LS} {k j : Nat} {v : Int} : gl (mput lost (k : Int) v) j = if j = k then v else gl lost j := by
  unfold gl
  rw [mget_put]
  by_cases h : j = k
  · subst h; rw [if_pos rfl, if_pos rfl]; rfl
  · rw [if_neg (by omega), if_neg h]
theorem LK_send {W N : Nat} {T : Int} {body : Nat → ByteArray} {now Z : Int} {A : List RE} {S R : Nat} {M : MP} {th bk : List FL} {at_ at' : Nat} {lost : LS} {row : Int} {got : List ByteArray} {tm : List Int} {lim : Nat}
    (h : LK W N T body now now Z A S R M th bk at_ lost row got tm lim) (hT : 0 ≤ T) {j : Nat} (hj : fr A + j < S) (hZ : j = 0 → Z = now) (hat : at' ≤ at_ + 1) {v : Int} :
    (gl lost (fr A + j) < 3 → LK W N T body now now (if j = 0 then Z + T else Z) A S R M th bk at' (mput lost ((fr A + j : Nat) : Int) (gl lost (fr A + j) + 1)) row got (tm.set (fr A + j) v) (lim + 5)) ∧
    (∀ (x : Int) (l : List FL), now ≤ x → x ≤ now + 4 → l.length ≤ 1 → (∀ f ∈ l, Sl body S now f) → LK W N T body now now (if j = 0 then Z + T else Z) A S R M (th ++ [(x, ((fr A + j : Nat) : Int), 1, (((fr A + j) % 256 : Nat) : Int), false, body (fr A + j))] ++ l) bk at' lost row got (tm.set (fr A + j) v) (lim + 5)) := by
  have hl := h.lostB
  have hsz := h.sz
  constructor
  · intro h3
    refine ⟨h.inv, h.AN, h.bod, h.kp, h.m0, h.RS, h.ans, h.gotE, h.fth, h.fbk, by rw [List.length_set]; exact h.tmN, h.rowB, fun k => ?_, by omega, h.atn, fun hF => ?_⟩
    · rw [gl_put]
      have := hl k; have := hl (fr A + j)
      split <;> omega
    · obtain ⟨D, c1, c2⟩ := h.live hF
      refine ⟨D, ?_, c2⟩
      by_cases hj0 : j = 0
      · subst hj0
        have : RK (fr A) R (mput lost ((fr A + 0 : Nat) : Int) (gl lost (fr A + 0) + 1)) row = RK (fr A) R lost row - 1 := by
          unfold RK; rw [gl_put, Nat.add_zero, if_pos rfl]; omega
        rw [if_pos rfl]
        exact c1.next hT (by omega) (fun _ => by omega)
      · rw [if_neg hj0]
        refine c1.same ?_ (fun b hb _ => hb)
        unfold RK; rw [gl_put, if_neg (by omega)]; omega
  · intro x l hx0 hx1 hl1 hlS
    refine ⟨h.inv, h.AN, h.bod, h.kp, h.m0, h.RS, h.ans, h.gotE, fun f hf => ?_, h.fbk, by rw [List.length_set]; exact h.tmN, h.rowB, hl, by simp only [List.length_append, List.length_cons, List.length_nil]; omega, h.atn, fun hF => ?_⟩
    · rcases List.mem_append.1 hf with hf | hf
      · rcases List.mem_append.1 hf with hf | hf
        · exact h.fth f hf
        · rw [List.mem_singleton] at hf; subst hf; exact ⟨⟨fr A + j, rfl, hj⟩, hx0⟩
      · exact hlS f hf
    · obtain ⟨D, c1, c2⟩ := h.live hF
      refine ⟨D, ?_, c2⟩
      by_cases hj0 : j = 0
      · subst hj0
        rw [if_pos rfl]
        have hZ := hZ rfl
        refine c1.next hT ?_ (fun hD => ?_)
        · rw [PD_append, PD_append]; omega
        · rw [PD_append, PD_append, PD_cons, if_pos ⟨by simp, by simp only; omega⟩]; omega
      · rw [if_neg hj0]
        refine c1.same ?_ (fun b hb _ => hb)
        rw [PD_append, PD_append]; omega
abbrev tdn (W : Nat) (T nS : Int) (A : List RE) (R : Nat) (M : MP) (th bk : List FL) (at_ : Nat) (lost : LS) (row : Int) (N : Nat) (got : List ByteArray) (tm : List Int) :=
  ((W : Int), (W : Int), T, nS, (fr A : Int), vw A (fr A), (W : Int), (R : Int), M, th, bk, (at_ : Int), lost, row, (fr A : Int), (N : Int), got, false, tm)
/-- one frame goes out -/
theorem send_step {W N : Nat} {T nS : Int} {body : Nat → ByteArray} {now Z : Int} {A : List RE} {S R : Nat} {M : MP} {th bk : List FL} {at_ : Nat} {lost : LS} {row : Int} {got : List ByteArray} {tm picks : List Int} {lim i j : Nat} {q : List FR × Int × Int × Int × Int × Int × List CE}
    (h : LK W N T body now now Z A S R M th bk at_ lost row got tm lim) (hT : 0 ≤ T) (hN : N ≤ 100000) (hW : W ≤ 128) (hn0 : 0 ≤ now) (hn1 : now < 1099511627776) (hlim : lim < 1099511627776) (hpk : ∀ x ∈ picks, 0 ≤ x ∧ x < 256) (hiq : q.1.length ≤ 128) (hi : i < q.1.length) (hq : q.1[i] = fm (fr A) body j)
    (hj : fr A + j < S) (hZ : j = 0 → Z = now) :
    ∃ th' at' lost' tm', f_foghornlaw28_link_tick.s1 picks now q (tst W T nS A R M th bk at_ lost row N got tm i) = some (.inl (tst W T nS A R M th' bk at' lost' row N got tm' (i + 1))) ∧
      LK W N T body now now (if j = 0 then Z + T else Z) A S R M th' bk at' lost' row got tm' (lim + 5) := by
  have hS := h.inv.Sl; have hw := h.inv.Sw; have hAN := h.AN
  have hsz := h.sz
  obtain ⟨p, at', q1, q2, q3, -, q4⟩ := t_step (W := W) (R := R) (M := M) (T := T) (nS := nS) (row := row) (bk := bk) (got := got) (A := A) (th := th) (at_ := at_) (lost := lost) (tm := tm) (picks := picks) (N := N) (now := now) (q := q) (i := i) (j := j) (b := body (fr A + j)) hN (by omega) (by omega) hpk (by omega) (by omega) (h.lostB _) hn0 hn1 h.tmN hiq hi hq
  obtain ⟨s1, s2⟩ := LK_send h hT hj hZ q3 (v := IntKind.i64.wrap (gt tm ((fr A + j : Nat) : Int) + 1))
  by_cases hc : p % 2 = 1 ∧ gl lost (fr A + j) < 3
  · rw [if_pos hc] at q4
    exact ⟨_, _, _, _, q4, s1 hc.2⟩
  · rw [if_neg hc] at q4
    by_cases hc2 : p / 8 % 8 = 7
    · rw [if_pos hc2] at q4
      refine ⟨_, _, _, _, q4, s2 _ _ (by omega) (by omega) (by simp) fun f hf => ?_⟩
      rw [List.mem_singleton] at hf; subst hf
      exact ⟨⟨fr A + j, rfl, hj⟩, by simp only; omega⟩
    · rw [if_neg hc2] at q4
      have := s2 (now + 1 + ((p / 2 % 4 : Nat) : Int)) [] (by omega) (by omega) (by simp) (fun f hf => by simp at hf)
      rw [List.append_nil] at this
      exact ⟨_, _, _, _, q4, this⟩
theorem send_loop {W N : Nat} {T nS : Int} {body : Nat → ByteArray} {now Z : Int} {A : List RE} {S R : Nat} {M : MP} {bk : List FL} {row : Int} {got : List ByteArray} {picks : List Int} {q : List FR × Int × Int × Int × Int × Int × List CE}
    (hT : 0 ≤ T) (hN : N ≤ 100000) (hW : W ≤ 128) (hn0 : 0 ≤ now) (hn1 : now < 1099511627776) (hpk : ∀ x ∈ picks, 0 ≤ x ∧ x < 256) (hiq : q.1.length ≤ 128) : ∀ (l : List Nat) (i : Nat) (th : List FL) (at_ : Nat) (lost : LS) (tm : List Int) (lim : Nat),
    q.1.drop i = l.map (fm (fr A) body) → (∀ j ∈ l, 1 ≤ j ∧ fr A + j < S) → LK W N T body now now Z A S R M th bk at_ lost row got tm lim → lim + 5 * l.length < 1099511627776 →
    ∃ th' at' lost' tm', loop (f_foghornlaw28_link_tick.s1 picks now q) (tst W T nS A R M th bk at_ lost row N got tm i) = some (.inl (tdn W T nS A R M th' bk at' lost' row N got tm')) ∧
      LK W N T body now now Z A S R M th' bk at' lost' row got tm' (lim + 5 * l.length) := by
  intro l
  induction l with
  | nil =>
    intro i th at_ lost tm lim hd hj h hlim
    by_cases hi : i < q.1.length
    · rw [List.drop_eq_getElem_cons hi] at hd; cases hd
    · by_cases hi2 : i = q.1.length
      · exact ⟨th, at_, lost, tm, loop_done (t_end hi2), h⟩
      · refine ⟨th, at_, lost, tm, loop_done ?_, h⟩
        simp only [f_foghornlaw28_link_tick.s1, f_foghornlaw28_link_tick.s1c, tst]
        rw [if_neg (by rw [decide_eq_true_eq]; omega)]
  | cons j l ih =>
    intro i th at_ lost tm lim hd hj h hlim
    simp only [List.length_cons] at hlim
    have hi : i < q.1.length := by
      rcases Nat.lt_or_ge i q.1.length with h1 | h1
      · exact h1
      · rw [List.drop_eq_nil_of_le h1] at hd; simp at hd
    rw [List.drop_eq_getElem_cons hi, List.map_cons, List.cons.injEq] at hd
    have hj0 := hj j (by simp)
    obtain ⟨th1, at1, lost1, tm1, e1, e2⟩ := send_step (nS := nS) h hT hN hW hn0 hn1 (by omega) hpk hiq hi hd.1 hj0.2 (fun e => by omega)
    rw [if_neg (by omega)] at e2
    obtain ⟨th2, at2, lost2, tm2, e3, e4⟩ := ih (i + 1) th1 at1 lost1 tm1 (lim + 5) hd.2 (fun k hk => hj k (by simp [hk])) e2 (by omega)
    refine ⟨th2, at2, lost2, tm2, ?_, ?_⟩
    · rw [loop_step e1, e3]
    · rw [show lim + 5 * (j :: l).length = lim + 5 + 5 * l.length by simp only [List.length_cons]; omega]; exact e4
theorem come1 {W N : Nat} {T nS : Int} {body : Nat → ByteArray} {now Z : Int} {A : List RE} {S : Nat} {th : List FL} {lost : LS} {tm picks : List Int} {lim : Nat}
    (hT : 0 ≤ T) (hN : N ≤ 100000) (hW : W ≤ 128) (hn0 : 0 ≤ now) (hn1 : now < 1099511627776) (hpk : ∀ x ∈ picks, 0 ≤ x ∧ x < 256) (hZ : now ≤ Z) (hbs : ∀ k, (body k).size ≤ 240) (hth : th.length < 1099511627776) (hlim : lim < 1099511627776) :
    ∀ (k i : Nat) (later : List FL) (R : Nat) (M : MP) (bk : List FL) (at_ : Nat) (row : Int) (got : List ByteArray), i + k = th.length → LK W N T body now now Z A S R M (later ++ th.drop i) bk at_ lost row got tm lim → (∀ f ∈ later, now < f.1) →
    (∃ y, loop (f_foghornlaw28_link_come.s1 picks now) (lst W T nS A R M th bk at_ lost row N got tm later i) = some (.inr (true, y)) ∧ y.2.2.2.2.2.2.2.2.2.2.2.2.1 = true) ∨
    ∃ R' M' bk' at' row' got' later', loop (f_foghornlaw28_link_come.s1 picks now) (lst W T nS A R M th bk at_ lost row N got tm later i) = some (.inl ((W : Int), (W : Int), T, nS, (fr A : Int), vw A (fr A), (W : Int), (R' : Nat), M', th, bk', (at' : Nat), lost, row', (fr A : Int), (N : Int), got', false, tm, later')) ∧
      LK W N T body now now Z A S R' M' later' bk' at' lost row' got' tm lim ∧ ∀ f ∈ later', now < f.1 := by
  intro k
  induction k with
  | zero =>
    intro i later R M bk at_ row got hi h hl
    refine .inr ⟨R, M, bk, at_, row, got, later, loop_done (c1_end (by omega)), ?_, hl⟩
    rw [List.drop_eq_nil_of_le (by omega), List.append_nil] at h
    exact h
  | succ k ih =>
    intro i later R M bk at_ row got hi h hl
    have hi' : i < th.length := by omega
    rw [List.drop_eq_getElem_cons hi'] at h
    have hsz := h.sz
    simp only [List.length_append, List.length_cons] at hsz
    by_cases hlate : now < th[i].1
    · have e1 := c1_late (W := W) (R := R) (N := N) (T := T) (nS := nS) (row := row) (A := A) (M := M) (bk := bk) (at_ := at_) (lost := lost) (got := got) (tm := tm) (picks := picks) (later := later) hi' hth (by omega) hlate
      rw [loop_step e1]
      refine ih (i + 1) (later ++ [th[i]]) R M bk at_ row got (by omega) ?_ fun f hf => ?_
      · rw [List.append_assoc]; exact h
      · rcases List.mem_append.1 hf with hf | hf
        · exact hl f hf
        · rw [List.mem_singleton] at hf; subst hf; exact hlate
    · obtain ⟨⟨idx, f1, f2⟩, f3⟩ := h.fth th[i] (List.mem_append.2 (.inr (List.mem_cons_self ..)))
      have hgl : got.length = R := by rw [h.gotE]; simp
      have hfR := h.frR
      have hSl := h.inv.Sl; have hw := h.inv.Sw; have hAN := h.AN
      rcases c1_step (T := T) (nS := nS) (A := A) (N := N) (later := later) (lost := lost) (tm := tm) hW (by omega) h.RS h.kp h.m0 hbs hpk (at_ := at_) (by omega) h.rowB hgl (bk := bk) (by omega) hn0 hn1 hi' hth f1 f2 (by omega) (by omega) with ⟨-, y, y1, y2⟩ | ⟨R', M', ms, p, at', tk, p1, p2, p3, -, e1⟩
      · exact .inl ⟨y, loop_done y1, y2⟩
      · obtain ⟨t1, t2⟩ := LK_take h hT hZ f1 (by omega) tk p3 (p := p)
        by_cases hc : p % 2 = 1 ∧ row < 3
        · rw [if_pos hc] at e1
          rw [loop_step e1]
          exact ih (i + 1) later R' M' bk at' (row + 1) _ (by omega) (t1 hc.2) hl
        · rw [if_neg hc] at e1
          rw [loop_step e1]
          exact ih (i + 1) later R' M' _ at' 0 _ (by omega) t2 hl
theorem come2 {W N : Nat} {T nS : Int} {body : Nat → ByteArray} {now : Int} {S R : Nat} {M : MP} {th bk : List FL} {at_ : Nat} {lost : LS} {row : Int} {got : List ByteArray} {tm picks : List Int} {lim : Nat}
    (hT : 1 ≤ T) (hN : N ≤ 100000) (hW : W ≤ 128) (hbk : bk.length < 1099511627776) (hlim : lim < 1099511627776) :
    ∀ (k i : Nat) (later : List FL) (A : List RE), i + k = bk.length → LK W N T body now now (Zf A (now + 1) T) A S R M th (later ++ bk.drop i) at_ lost row got tm lim → (∀ f ∈ later, now < f.1) →
    (∃ y, loop (f_foghornlaw28_link_come.s2 picks now) (lst W T nS A R M th bk at_ lost row N got tm later i) = some (.inr (true, y)) ∧ y.2.2.2.2.2.2.2.2.2.2.2.2.1 = true) ∨
    ∃ A' later', loop (f_foghornlaw28_link_come.s2 picks now) (lst W T nS A R M th bk at_ lost row N got tm later i) = some (.inl ((W : Int), (W : Int), T, nS, (fr A' : Int), vw A' (fr A'), (W : Int), (R : Int), M, th, bk, (at_ : Int), lost, row, (fr A' : Int), (N : Int), got, false, tm, later')) ∧
      LK W N T body now now (Zf A' (now + 1) T) A' S R M th later' at_ lost row got tm lim ∧ ∀ f ∈ later', now < f.1 := by
  intro k
  induction k with
  | zero =>
    intro i later A hi h hl
    refine .inr ⟨A, later, loop_done (c2_end (by omega)), ?_, hl⟩
    rw [List.drop_eq_nil_of_le (by omega), List.append_nil] at h
    exact h
  | succ k ih =>
    intro i later A hi h hl
    have hi' : i < bk.length := by omega
    rw [List.drop_eq_getElem_cons hi'] at h
    have hsz := h.sz
    simp only [List.length_append, List.length_cons] at hsz
    by_cases hlate : now < bk[i].1
    · have e1 := c2_late (W := W) (R := R) (N := N) (T := T) (nS := nS) (row := row) (A := A) (M := M) (th := th) (at_ := at_) (lost := lost) (got := got) (tm := tm) (picks := picks) (later := later) hi' hbk (by omega) hlate
      rw [loop_step e1]
      refine ih (i + 1) (later ++ [bk[i]]) A (by omega) ?_ fun f hf => ?_
      · rw [List.append_assoc]; exact h
      · rcases List.mem_append.1 hf with hf | hf
        · exact hl f hf
        · rw [List.mem_singleton] at hf; subst hf; exact hlate
    · obtain ⟨⟨a, ms, f1, f2, f3, f4⟩, f5⟩ := h.fbk bk[i] (List.mem_append.2 (.inr (List.mem_cons_self ..)))
      have hRS := h.RS
      rcases c2_step (T := T) (nS := nS) (R := R) (M := M) (th := th) (at_ := at_) (lost := lost) (row := row) (got := got) (tm := tm) (picks := picks) (later := later) h.inv h.AN hN hW (by omega) f3 hi' hbk f1 (now := now) (by omega) with ⟨-, y, y1, y2⟩ | ⟨B, b1, b2, b3, b4, b5, b6, e1⟩
      · exact .inl ⟨y, loop_done y1, y2⟩
      · rw [loop_step e1]
        exact ih (i + 1) later B (by omega) (LK_hear h hT f1 f2 f4 b1 b2 b3 b4 b5 b6) hl

/-! ### A tick -/
theorem LK.up {W N : Nat} {T : Int} {body : Nat → ByteArray} {t now Z : Int} {A : List RE} {S R : Nat} {M : MP} {th bk : List FL} {at_ : Nat} {lost : LS} {row : Int} {got : List ByteArray} {tm : List Int} {lim lim' : Nat}
    (h : LK W N T body t now Z A S R M th bk at_ lost row got tm lim) (hl : lim ≤ lim') : LK W N T body t now Z A S R M th bk at_ lost row got tm lim' :=
  ⟨h.inv, h.AN, h.bod, h.kp, h.m0, h.RS, h.ans, h.gotE, h.fth, h.fbk, h.tmN, h.rowB, h.lostB, by have := h.sz; omega, h.atn, h.live⟩
theorem LK.shift {W N : Nat} {T : Int} {body : Nat → ByteArray} {now Z : Int} {A : List RE} {S R : Nat} {M : MP} {th bk : List FL} {at_ : Nat} {lost : LS} {row : Int} {got : List ByteArray} {tm : List Int} {lim : Nat}
    (h : LK W N T body now now Z A S R M th bk at_ lost row got tm lim) (h1 : ∀ f ∈ th, now < f.1) (h2 : ∀ f ∈ bk, now < f.1) : LK W N T body (now + 1) (now + 1) Z A S R M th bk at_ lost row got tm lim :=
  ⟨h.inv, h.AN, h.bod, h.kp, h.m0, h.RS, h.ans, h.gotE, fun f hf => ⟨(h.fth f hf).e, by have := h1 f hf; omega⟩, fun b hb => ⟨(h.fbk b hb).e, by have := h2 b hb; omega⟩, h.tmN, h.rowB, h.lostB, h.sz, fun p hp => by have := h.atn p hp; omega, h.live⟩
theorem come_ok {W N : Nat} {T nS : Int} {body : Nat → ByteArray} {now : Int} {A : List RE} {S R : Nat} {M : MP} {th bk : List FL} {at_ : Nat} {lost : LS} {row : Int} {got : List ByteArray} {tm picks : List Int} {lim : Nat}
    (h : LK W N T body now now (Zf A (now + 1) T) A S R M th bk at_ lost row got tm lim) (hF : fr A < N) (hT : 1 ≤ T) (hN : N ≤ 100000) (hW : W ≤ 128) (hn0 : 0 ≤ now) (hn1 : now < 1099511627776) (hlim : lim < 1099511627776) (hpk : ∀ x ∈ picks, 0 ≤ x ∧ x < 256) (hbs : ∀ k, (body k).size ≤ 240) :
    (∃ y, f_foghornlaw28_link_come (W : Int) (some ((W : Int), T, nS, (fr A : Int), vw A (fr A))) (some ((W : Int), (R : Int), M)) th bk picks (at_ : Int) lost row (fr A : Int) (N : Int) got false tm now = some (true, y) ∧ y.2.2.2.2.2.2.2.2.2.2.2.2.1 = true) ∨
    ∃ (A' : List RE) (R' : Nat) (M' : MP) (th' bk' : List FL) (at' : Nat) (row' : Int) (got' : List ByteArray), f_foghornlaw28_link_come (W : Int) (some ((W : Int), T, nS, (fr A : Int), vw A (fr A))) (some ((W : Int), (R : Int), M)) th bk picks (at_ : Int) lost row (fr A : Int) (N : Int) got false tm now =
        some (true, ((W : Int), some ((W : Int), T, nS, (fr A' : Int), vw A' (fr A')), some ((W : Int), (R' : Int), M'), th', bk', picks, (at' : Int), lost, row', (fr A' : Int), (N : Int), got', false, tm)) ∧
      LK W N T body (now + 1) (now + 1) (Zf A' (now + 1) T) A' S R' M' th' bk' at' lost row' got' tm lim := by
  have hsz := h.sz
  have hAN := h.AN
  have hZ : now ≤ Zf A (now + 1) T := by
    rw [Zf_lt (by omega)]; split <;> omega
  unfold f_foghornlaw28_link_come
  simp only [Option.bind_some]
  rcases come1 (W := W) (N := N) (T := T) (nS := nS) (body := body) (now := now) (A := A) (S := S) (lost := lost) (tm := tm) (th := th) (picks := picks) (lim := lim) (by omega) hN hW hn0 hn1 hpk hZ hbs (by omega) hlim th.length 0 [] R M bk at_ row got (by omega) h (fun f hf => by simp at hf) with ⟨y, y1, y2⟩ | ⟨R1, M1, bk1, at1, row1, got1, later1, e1, e2, e3⟩
  · refine .inl ⟨_, bnd_eq y1 rfl, y2⟩
  · have hsz2 := e2.sz
    rcases come2 (W := W) (N := N) (T := T) (nS := nS) (body := body) (now := now) (S := S) (R := R1) (M := M1) (lost := lost) (tm := tm) (at_ := at1) (row := row1) (got := got1) (bk := bk1) (th := later1) (picks := picks) (lim := lim) hT hN hW (by omega) hlim bk1.length 0 [] A (by omega) e2 (fun f hf => by simp at hf) with ⟨y, y1, y2⟩ | ⟨A2, later2, g1, g2, g3⟩
    · refine .inl ⟨_, bnd_eq e1 (bnd_eq y1 rfl), y2⟩
    · exact .inr ⟨A2, R1, M1, later1, later2, at1, row1, got1, bnd_eq e1 (bnd_eq g1 rfl), g2.shift e3 g3⟩
theorem js_split (n : Nat) (hn : 1 ≤ n) (p : Nat → Bool) : ∃ l : List Nat, (∀ j ∈ l, 1 ≤ j ∧ j < n) ∧ l.length < n ∧ (List.range n).filter p = if p 0 = true then 0 :: l else l := by
  obtain ⟨m, rfl⟩ : ∃ m, n = m + 1 := ⟨n - 1, by omega⟩
  refine ⟨((List.range m).map (· + 1)).filter p, fun j hj => ?_, ?_, ?_⟩
  · have := (List.mem_filter.1 hj).1
    simp only [List.mem_map, List.mem_range] at this
    obtain ⟨a, h1, h2⟩ := this
    omega
  · have := List.length_filter_le p ((List.range m).map (· + 1))
    simp only [List.length_map, List.length_range] at this
    omega
  · rw [List.range_succ_eq_map, List.filter_cons]
theorem tick_ok {W N : Nat} {T nS : Int} {body : Nat → ByteArray} {now : Int} {A : List RE} {S R : Nat} {M : MP} {th bk : List FL} {at_ : Nat} {lost : LS} {row : Int} {got : List ByteArray} {tm picks : List Int} {lim : Nat}
    (h : LK W N T body now now (Zf A now T) A S R M th bk at_ lost row got tm lim) (hF : fr A < N) (hT : 1 ≤ T) (hT2 : T < 1099511627776) (hN : N ≤ 100000) (hW1 : 1 ≤ W) (hW : W ≤ 128) (hn0 : 0 ≤ now) (hn1 : now < 1099511627776) (hnS : nS ≤ now) (hlim : lim + 640 < 1099511627776) (hpk : ∀ x ∈ picks, 0 ≤ x ∧ x < 256) (hbs : ∀ k, (body k).size ≤ 240) :
    (∃ y, f_foghornlaw28_link_tick (W : Int) (some ((W : Int), T, nS, (fr A : Int), vw A (fr A))) (some ((W : Int), (R : Int), M)) th bk picks (at_ : Int) lost row (fr A : Int) (N : Int) got false tm now = some (true, y) ∧ y.2.2.2.2.2.2.2.2.2.2.2.2.1 = true) ∨
    ∃ (A' : List RE) (S' R' : Nat) (M' : MP) (th' bk' : List FL) (at' : Nat) (lost' : LS) (row' : Int) (got' : List ByteArray) (tm' : List Int), f_foghornlaw28_link_tick (W : Int) (some ((W : Int), T, nS, (fr A : Int), vw A (fr A))) (some ((W : Int), (R : Int), M)) th bk picks (at_ : Int) lost row (fr A : Int) (N : Int) got false tm now =
        some (true, ((W : Int), some ((W : Int), T, now, (fr A' : Int), vw A' (fr A')), some ((W : Int), (R' : Int), M'), th', bk', picks, (at' : Int), lost', row', (fr A' : Int), (N : Int), got', false, tm')) ∧
      LK W N T body (now + 1) (now + 1) (Zf A' (now + 1) T) A' S' R' M' th' bk' at' lost' row' got' tm' (lim + 640) := by
  have hAN := h.AN
  have hsz := h.sz
  obtain ⟨n, hn⟩ : ∃ n, n = min W (A.length - fr A) := ⟨_, rfl⟩
  obtain ⟨A1, hA1⟩ : ∃ A1, A1 = TA now T (fr A) (min W (A.length - fr A)) A := ⟨_, rfl⟩
  obtain ⟨k1, k2, k3⟩ := LK_tick h hW1 hT hn0 hn1 hT2 hA1
  obtain ⟨k4, k5⟩ := k3 (by omega)
  have ht := TickC_ok (W := W) (T := T) (n := nS) (F := (fr A : Int)) (now := now) (A := A) rfl (by omega) hW hnS hn0
  have hb : ∀ p (h : p < A.length), A[p].1 = body p := h.bod
  have hTO := TO_js (now := now) (T := T) (F := fr A) (A := A) (body := body) hb n (by omega)
  obtain ⟨l, l1, l2, l3⟩ := js_split n (by omega) (fun j => !skip now T (gt A ((fr A + j : Nat) : Int)))
  rw [l3] at hTO
  have hg0 : gt A ((fr A + 0 : Nat) : Int) = A[fr A] := gt_nat (by omega)
  rw [hg0] at hTO
  have hfm : fm (fr A) body = fm (fr A1) body := by rw [k2]
  rw [hfm] at hTO
  rw [← hA1, ← hn] at ht
  obtain ⟨q, hq⟩ : ∃ q : List FR × Int × Int × Int × Int × Int × List CE, q = (TO now T (fr A) A n, 0, (W : Int), T, now, (fr A : Int), vw A1 (fr A)) := ⟨_, rfl⟩
  rw [← hq] at ht
  have hq1 : q.1 = TO now T (fr A) A n := by rw [hq]
  have hq2 : q.2.1 = 0 := by rw [hq]
  have hq3 : q.2.2 = ((W : Int), T, now, (fr A : Int), vw A1 (fr A)) := by rw [hq]
  have hql : q.1.length ≤ n := by rw [hq1]; exact TO_len _ _ _ _ _
  have hq128 : q.1.length ≤ 128 := by omega
  rw [hn] at l1 l2
  -- the frames go out
  have key : ∃ th' at' lost' tm', loop (f_foghornlaw28_link_tick.s1 picks now q) (tst W T now A1 R M th bk at_ lost row N got tm 0) = some (.inl (tdn W T now A1 R M th' bk at' lost' row N got tm')) ∧
      LK W N T body now now (Zf A1 (now + 1) T) A1 (fr A + min W (A.length - fr A)) R M th' bk at' lost' row got tm' (lim + 640) := by
    by_cases hs : skip now T A[fr A] = true
    · rw [hs] at hTO
      simp only [Bool.not_true, Bool.false_eq_true, if_false] at hTO
      rw [k5 hs]
      obtain ⟨th', at', lost', tm', e1, e2⟩ := send_loop (nS := now) (q := q) (by omega) hN hW hn0 hn1 hpk hq128 l 0 th at_ lost tm lim (by rw [hq1, hTO]; rfl) (fun j hj => ⟨(l1 j hj).1, by have := (l1 j hj).2; omega⟩) k1 (by omega)
      exact ⟨th', at', lost', tm', e1, e2.up (by omega)⟩
    · simp only [Bool.not_eq_true] at hs
      rw [hs] at hTO
      simp only [Bool.not_false, if_true, List.map_cons] at hTO
      obtain ⟨k6, k7⟩ := k4 hs
      rw [k7]
      have hi0 : 0 < q.1.length := by rw [hq1, hTO]; simp
      have hqi : q.1[0] = fm (fr A1) body 0 := by simp only [hq1, hTO]; rfl
      obtain ⟨th1, at1, lost1, tm1, e1, e2⟩ := send_step (nS := now) (q := q) k1 (by omega) hN hW hn0 hn1 (by omega) hpk hq128 hi0 hqi (by omega) (fun _ => k6)
      rw [if_pos rfl] at e2
      obtain ⟨th', at', lost', tm', e3, e4⟩ := send_loop (nS := now) (q := q) (by omega) hN hW hn0 hn1 hpk hq128 l 1 th1 at1 lost1 tm1 (lim + 5) (by rw [hq1, hTO]; rfl) (fun j hj => ⟨(l1 j hj).1, by have := (l1 j hj).2; omega⟩) e2 (by omega)
      exact ⟨th', at', lost', tm', by rw [loop_step e1, e3], e4.up (by omega)⟩
  obtain ⟨th1, at1, lost1, tm1, e1, e2⟩ := key
  have hc := come_ok (nS := now) (picks := picks) e2 (by omega) hT hN hW hn0 hn1 (by omega) hpk hbs
  unfold f_foghornlaw28_link_tick
  simp only [Option.bind_some]
  have hcond : ¬ (((q.2.1 != (0 : Int)) || (decide ((W : Int) < (q.1.length : Int)))) = true) := by
    rw [hq2]; simp only [bne_self_eq_false, Bool.false_or, decide_eq_true_eq]; omega
  have hinit : ((W : Int), q.2.2.1, q.2.2.2.1, q.2.2.2.2.1, q.2.2.2.2.2.1, q.2.2.2.2.2.2, (W : Int), (R : Int), M, th, bk, (at_ : Int), lost, row, (fr A : Int), (N : Int), got, false, tm, (0 : Int)) = tst W T now A1 R M th bk at_ lost row N got tm 0 := by
    rw [hq3, tst, k2]; rfl
  rcases hc with ⟨y, y1, y2⟩ | ⟨A', R', M', th', bk', at', row', got', y1, y2⟩
  · refine .inl ⟨(y.1, y.2.1, y.2.2.1, y.2.2.2.1, y.2.2.2.2.1, picks, y.2.2.2.2.2.2.1, y.2.2.2.2.2.2.2.1, y.2.2.2.2.2.2.2.2.1, y.2.2.2.2.2.2.2.2.2.1, y.2.2.2.2.2.2.2.2.2.2.1, y.2.2.2.2.2.2.2.2.2.2.2.1, y.2.2.2.2.2.2.2.2.2.2.2.2.1, y.2.2.2.2.2.2.2.2.2.2.2.2.2), bnd_eq ht ?_, y2⟩
    rw [if_neg hcond, hinit]
    exact bnd_eq e1 (bnd_eq y1 rfl)
  · refine .inr ⟨A', _, R', M', th', bk', at', lost1, row', got', tm1, bnd_eq ht ?_, y2⟩
    rw [if_neg hcond, hinit]
    exact bnd_eq e1 (bnd_eq y1 rfl)

/-! ### The whole -/
def bod (k : Nat) : ByteArray := bstr [IntKind.u8.wrap (k : Int), IntKind.u8.wrap (IntKind.i64.wrap (((k : Int)).tdiv 256))]
theorem bod_size (k : Nat) : (bod k).size = 2 := by unfold bod; rw [bstr_size]; rfl
def RA (n : Nat) : List RE := (List.range n).map (fun k => (bod k, (-1 : Int), false))
theorem RA_len (n : Nat) : (RA n).length = n := by simp [RA]
theorem RA_at {n p : Nat} (h : p < (RA n).length) : (RA n)[p] = (bod p, (-1 : Int), false) := by simp [RA]
theorem RA_fr (n : Nat) : fr (RA n) = 0 := fr_unique (by omega) (fun p hp h => by omega) (fun h => by rw [RA_at])
theorem RA_succ (n : Nat) : RA (n + 1) = RA n ++ [(bod n, (-1 : Int), false)] := by simp [RA, List.range_succ]
theorem LK_start {W N : Nat} {T : Int} (hT : 1 ≤ T) : LK W N T bod 0 0 (Zf (RA N) 0 T) (RA N) 0 0 [] [] [] 0 [] 0 [] (List.replicate N 0) 0 := by
  have hf := RA_fr N
  have hl := RA_len N
  refine ⟨⟨by omega, by omega, by omega, fun p hp => ?_, fun p hp ha => ?_⟩, hl, fun p hp => by rw [RA_at], fun k x hx => by rw [mget_nil] at hx; simp at hx, mget_nil _, Nat.le_refl _, fun p hp ha => ?_, rfl, fun f hf => by simp at hf, fun f hf => by simp at hf, by simp, ⟨by omega, by omega⟩, fun k => ?_, by simp, fun p hp => ?_, fun hF => ?_⟩
  · rw [RA_at]; simp
  · rw [RA_at] at ha; simp at ha
  · rw [RA_at] at ha; simp at ha
  · simp [gl, mget_nil]
  · rw [RA_at]; simp
  · rw [hf]
    refine ⟨0 + 7 * T + 10, C1.new (by simp [gl, mget_nil]) (by omega) ?_, by omega⟩
    rw [Zf_lt (by omega), RA_at]
    simp only; omega
theorem once_true (Wi : Int) (w0 : (Lit.int .i64 Wi).wf = true) (Ti : Int) (w1 : (Lit.int .i64 Ti).wf = true) (Ni : Int) (w2 : (Lit.int .i64 Ni).wf = true)
    (picks : List Int) (w3 : ∀ x ∈ picks, (Lit.int .u8 x).wf = true) {g : Prop} (r3 : g) : f_foghornlaw28_AgainOnce Wi Ti Ni picks = some true := by
  have hpk : ∀ x ∈ picks, 0 ≤ x ∧ x < 256 := fun x hx => wf_u8 (w3 x hx)
  unfold f_foghornlaw28_AgainOnce
  rw [works_ok]
  simp only [Option.bind_some]
  rw [if_neg (by simp)]
  have u64b : ∀ x : Int, 0 ≤ IntKind.u64.wrap x ∧ IntKind.u64.wrap x < 18446744073709551616 := fun x => by simp only [IntKind.wrap, IntKind.bits, IntKind.signed]; simp; omega
  obtain ⟨W, hW⟩ : ∃ W : Nat, IntKind.i64.wrap ((1 : Int) + (IntKind.i64.wrap ((IntKind.u64.wrap Wi).tmod (128 : Int)))) = (W : Int) ∧ 1 ≤ W ∧ W ≤ 128 := by
    have := u64b Wi
    rw [tmodn this.1, w64 (x := IntKind.u64.wrap Wi % 128) (by omega) (by omega), w64 (by omega) (by omega)]
    exact ⟨(1 + IntKind.u64.wrap Wi % 128).toNat, by omega, by omega, by omega⟩
  obtain ⟨T, hT⟩ : ∃ T : Int, IntKind.i64.wrap ((1 : Int) + (IntKind.i64.wrap ((IntKind.u64.wrap Ti).tmod (30 : Int)))) = T ∧ 1 ≤ T ∧ T ≤ 30 := by
    have := u64b Ti
    rw [tmodn this.1, w64 (x := IntKind.u64.wrap Ti % 30) (by omega) (by omega), w64 (by omega) (by omega)]
    exact ⟨_, rfl, by omega, by omega⟩
  obtain ⟨N, hN⟩ : ∃ N : Nat, IntKind.i64.wrap ((IntKind.u64.wrap Ni).tmod (400 : Int)) = (N : Int) ∧ N < 400 := by
    have := u64b Ni
    rw [tmodn this.1, w64 (by omega) (by omega)]
    exact ⟨(IntKind.u64.wrap Ni % 400).toNat, by omega, by omega⟩
  obtain ⟨hW, hW1, hW2⟩ := hW
  obtain ⟨hT, hT1, hT2⟩ := hT
  obtain ⟨hN, hN1⟩ := hN
  have n1 : f_again_NewSender (W : Int) T = some (some ((W : Int), T, 0, 0, []), 0) := by
    unfold f_again_NewSender; rw [if_neg (by simp only [Bool.or_eq_true, decide_eq_true_eq]; omega)]
  have n2 : f_again_NewReceiver (W : Int) = some (some ((W : Int), 0, []), 0) := by
    unfold f_again_NewReceiver; rw [if_neg (by simp only [Bool.or_eq_true, decide_eq_true_eq]; omega)]
  rw [hW, hT, hN, n1, n2]
  simp only [Option.bind_some]
  rw [if_neg (by simp), if_pos (by omega), Int.toNat_natCast]
  -- what is offered
  have s1 : loop (f_foghornlaw28_AgainOnce.s1 Ni) ((W : Int), T, (0 : Int), (0 : Int), ([] : List CE), (W : Int), (0 : Int), ([] : MP), (W : Int), ([] : List FL), ([] : List FL), (0 : Int), ([] : LS), (0 : Int), (0 : Int), (N : Int), ([] : List ByteArray), false, List.replicate N (0 : Int), (0 : Int)) =
      some (.inl ((W : Int), T, (0 : Int), (0 : Int), vw (RA N) 0, (W : Int), (0 : Int), ([] : MP), (W : Int), ([] : List FL), ([] : List FL), (0 : Int), ([] : LS), (0 : Int), (0 : Int), (N : Int), ([] : List ByteArray), false, List.replicate N (0 : Int))) := by
    refine loop_run N (fun i => ((W : Int), T, (0 : Int), (0 : Int), vw (RA i) 0, (W : Int), (0 : Int), ([] : MP), (W : Int), ([] : List FL), ([] : List FL), (0 : Int), ([] : LS), (0 : Int), (0 : Int), (N : Int), ([] : List ByteArray), false, List.replicate N (0 : Int), (i : Int))) _ (fun i hi => ?_) ?_ rfl
    · simp only [f_foghornlaw28_AgainOnce.s1, f_foghornlaw28_AgainOnce.s1c]
      rw [hN, if_pos (by rw [decide_eq_true_eq]; omega)]
      have hb : (bod i).size ≤ 240 := by rw [bod_size]; omega
      have := OfferC (W := (W : Int)) (T := T) (n := 0) (F := 0) (L := vw (RA i) 0) hb (by rw [vw_len, RA_len]; omega)
      rw [show (bstr [IntKind.u8.wrap (i : Int), IntKind.u8.wrap (IntKind.i64.wrap (((i : Int)).tdiv 256))]) = bod i from rfl, this]
      simp only [Option.bind_some]
      rw [if_neg (by simp), w64 (by omega) (by omega), RA_succ]
      have : vw (RA i ++ [(bod i, (-1 : Int), false)]) 0 = vw (RA i) 0 ++ [(bod i, false, 0, false)] := by simp [vw, cv]
      rw [this]; rfl
    · simp only [f_foghornlaw28_AgainOnce.s1, f_foghornlaw28_AgainOnce.s1c]
      rw [hN, if_neg (by rw [decide_eq_true_eq]; omega)]
  refine bnd_eq s1 ?_
  -- the ticks
  obtain ⟨most, hmost⟩ : ∃ most : Nat, IntKind.i64.wrap (IntKind.i64.wrap (IntKind.i64.wrap ((N : Int) + 2) * 8) * IntKind.i64.wrap (T + 10)) = (most : Int) ∧ (most : Int) = ((N : Int) + 2) * 8 * (T + 10) ∧ most ≤ 200000 := by
    have e1 : 0 ≤ ((N : Int) + 2) * 8 * (T + 10) := Int.mul_nonneg (by omega) (by omega)
    have e2 : ((N : Int) + 2) * 8 * (T + 10) ≤ 3208 * 40 := Int.mul_le_mul (by omega) (by omega) (by omega) (by omega)
    rw [w64 (x := (N : Int) + 2) (by omega) (by omega), w64 (x := ((N : Int) + 2) * 8) (by omega) (by omega), w64 (x := T + 10) (by omega) (by omega), w64 (by omega) (by omega)]
    exact ⟨(((N : Int) + 2) * 8 * (T + 10)).toNat, by omega, by omega, by omega⟩
  obtain ⟨hm1, hm2, hm3⟩ := hmost
  have main : ∀ k now : Nat, now + k = most + 1 → ∀ (nS : Int) (A : List RE) (S R : Nat) (M : MP) (th bk : List FL) (at_ : Nat) (lost : LS) (row : Int) (got : List ByteArray) (tm : List Int),
      nS ≤ now → LK W N T bod now now (Zf A now T) A S R M th bk at_ lost row got tm (640 * now) →
      (loop (f_foghornlaw28_AgainOnce.s2 Ti Ni picks) ((W : Int), T, nS, (fr A : Int), vw A (fr A), (W : Int), (R : Int), M, (W : Int), th, bk, (at_ : Int), lost, row, (fr A : Int), (N : Int), got, false, tm, (now : Int)) = some (.inr true)) ∨
      ∃ nS' A' M' th' bk' at' lost' row' got' tm', got'.length = N ∧ fr A' = N ∧ A'.length = N ∧
        loop (f_foghornlaw28_AgainOnce.s2 Ti Ni picks) ((W : Int), T, nS, (fr A : Int), vw A (fr A), (W : Int), (R : Int), M, (W : Int), th, bk, (at_ : Int), lost, row, (fr A : Int), (N : Int), got, false, tm, (now : Int)) =
          some (.inl ((W : Int), T, nS', (fr A' : Int), vw A' (fr A'), (W : Int), (N : Int), M', (W : Int), th', bk', at', lost', row', (fr A' : Int), (N : Int), got', false, tm')) := by
    intro k
    induction k with
    | zero =>
      intro now hk nS A S R M th bk at_ lost row got tm hnS h
      have hAN := h.AN
      have hfl := fr_le A
      have hfR := h.frR
      have hRS := h.RS
      have hSl := h.inv.Sl
      by_cases hF : fr A < N
      · exfalso
        obtain ⟨D, c1, c2⟩ := h.live hF
        have hgl := h.lostB (fr A)
        have hrow := h.rowB
        have hZ : (now : Int) ≤ Zf A now T := by rw [Zf_lt (by omega)]; split <;> omega
        have hd := (c1.deadline (fun g hg => (h.fth g hg).le) (fun b hb => (h.fbk b hb).le) hZ (by omega) (by unfold RK; split <;> omega)).1
        have e1 : (7 * T + 10) * ((fr A : Int) + 1) ≤ (8 * (T + 10)) * ((N : Int) + 2) := Int.mul_le_mul (by omega) (by omega) (by omega) (by omega)
        have e2 : ((N : Int) + 2) * 8 * (T + 10) = (8 * (T + 10)) * ((N : Int) + 2) := by rw [Int.mul_assoc, Int.mul_comm]
        omega
      · have hRN : R = N := by omega
        subst hRN
        refine .inr ⟨nS, A, M, th, bk, at_, lost, row, got, tm, by rw [h.gotE]; simp, by omega, hAN, loop_done ?_⟩
        simp only [f_foghornlaw28_AgainOnce.s2, f_foghornlaw28_AgainOnce.s2c]
        rw [hN, hT, hm1, if_neg (by rw [decide_eq_true_eq]; omega)]
        rfl
    | succ k ih =>
      intro now hk nS A S R M th bk at_ lost row got tm hnS h
      have hAN := h.AN
      have hfl := fr_le A
      have hfR := h.frR
      have hRS := h.RS
      have hSl := h.inv.Sl
      have hz : (if (decide ((now : Int) ≤ (most : Int))) = true then ((f_again_Sender_Left (W : Int) T nS (fr A : Int) (vw A (fr A))).bind fun q116 => (some (decide ((0 : Int) < q116)))) else (some false)) = some (decide (fr A < N)) := by
        rw [if_pos (by rw [decide_eq_true_eq]; omega), LeftC_ok]
        simp only [Option.bind_some, Option.some.injEq, decide_eq_decide]
        omega
      by_cases hF : fr A < N
      · rcases tick_ok (nS := nS) (picks := picks) h hF hT1 (by omega) (by omega) hW1 hW2 (by omega) (by omega) hnS (by omega) hpk (fun k => by rw [bod_size]; omega) with ⟨y, y1, y2⟩ | ⟨A', S', R', M', th', bk', at', lost', row', got', tm', y1, y2⟩
        · refine .inl (loop_done ?_)
          simp only [f_foghornlaw28_AgainOnce.s2, f_foghornlaw28_AgainOnce.s2c]
          rw [hN, hT, hm1]
          refine bnd_eq hz ?_
          rw [if_pos (by rw [decide_eq_true_eq]; exact hF)]
          refine bnd_eq y1 ?_
          rw [if_neg (by simp), if_pos y2]
        · have hg := y2.gotE
          have hRS' := y2.RS; have hSl' := y2.inv.Sl; have hAN' := y2.AN
          have s3 : ∀ q : Bool × (Int × (Option (Int × Int × Int × Int × (List (ByteArray × Bool × Int × Bool)))) × (Option (Int × Int × (List (Int × ByteArray)))) × (List (Int × Int × (Int × Int × Bool × ByteArray))) × (List (Int × Int × (Int × Int × Bool × ByteArray))) × (List Int) × Int × (List (Int × Int)) × Int × Int × Int × (List ByteArray) × Bool × (List Int)),
              q.2.2.2.2.2.2.2.2.2.2.2.2.1 = got' → loop (f_foghornlaw28_AgainOnce.s3 Ni q) 0 = some (.inl ()) := by
            intro q hq
            have hgl : got'.length = R' := by rw [hg]; simp
            refine loop_run R' (fun i => (i : Int)) _ (fun i hi => ?_) ?_ rfl
            · simp only [f_foghornlaw28_AgainOnce.s3, f_foghornlaw28_AgainOnce.s3c, hq]
              have hgi : gt got' (i : Int) = bod i := by
                rw [gt_nat (by omega)]; simp only [hg, List.getElem_map, List.getElem_range]
              rw [hN, if_pos (by rw [decide_eq_true_eq]; omega), if_neg (by rw [decide_eq_true_eq]; omega), if_pos (by omega), hgi,
                show (bstr [IntKind.u8.wrap (i : Int), IntKind.u8.wrap (IntKind.i64.wrap (((i : Int)).tdiv 256))]) = bod i from rfl]
              have : seq (bod i) (bod i) = true := by simp [seq]
              simp only [Option.bind_some, this, Bool.not_true, Bool.false_eq_true, if_false]
              rw [w64 (by omega) (by omega)]; rfl
            · simp only [f_foghornlaw28_AgainOnce.s3, f_foghornlaw28_AgainOnce.s3c, hq]
              rw [if_neg (by rw [decide_eq_true_eq]; omega)]
          have y2' : LK W N T bod ((now + 1 : Nat) : Int) ((now + 1 : Nat) : Int) (Zf A' ((now + 1 : Nat) : Int) T) A' S' R' M' th' bk' at' lost' row' got' tm' (640 * (now + 1)) := by
            have e : ((now + 1 : Nat) : Int) = (now : Int) + 1 := by omega
            rw [e]; exact y2
          have hstep : f_foghornlaw28_AgainOnce.s2 Ti Ni picks ((W : Int), T, nS, (fr A : Int), vw A (fr A), (W : Int), (R : Int), M, (W : Int), th, bk, (at_ : Int), lost, row, (fr A : Int), (N : Int), got, false, tm, (now : Int)) =
              some (.inl ((W : Int), T, (now : Int), (fr A' : Int), vw A' (fr A'), (W : Int), (R' : Int), M', (W : Int), th', bk', (at' : Int), lost', row', (fr A' : Int), (N : Int), got', false, tm', ((now + 1 : Nat) : Int))) := by
            simp only [f_foghornlaw28_AgainOnce.s2, f_foghornlaw28_AgainOnce.s2c]
            rw [hN, hT, hm1]
            refine bnd_eq hz ?_
            rw [if_pos (by rw [decide_eq_true_eq]; exact hF)]
            refine bnd_eq y1 ?_
            rw [if_neg (by simp), if_neg (by simp)]
            simp only [Option.bind_some]
            refine bnd_eq (s3 _ rfl) ?_
            rw [w64 (by omega) (by omega)]; rfl
          rw [loop_step hstep]
          exact ih (now + 1) (by omega) now A' S' R' M' th' bk' at' lost' row' got' tm' (by omega) y2'
      · have hRN : R = N := by omega
        subst hRN
        refine .inr ⟨nS, A, M, th, bk, at_, lost, row, got, tm, by rw [h.gotE]; simp, by omega, hAN, loop_done ?_⟩
        simp only [f_foghornlaw28_AgainOnce.s2, f_foghornlaw28_AgainOnce.s2c]
        rw [hN, hT, hm1]
        refine bnd_eq hz ?_
        rw [if_neg (by rw [decide_eq_true_eq]; exact hF)]
  have h0 := main (most + 1) 0 (by omega) 0 (RA N) 0 0 [] [] [] 0 [] 0 [] (List.replicate N 0) (by omega) (LK_start hT1)
  rw [RA_fr] at h0
  rcases h0 with h0 | ⟨nS', A', M', th', bk', at', lost', row', got', tm', g1, g2, g3, h0⟩
  · exact bnd_eq h0 rfl
  · refine bnd_eq h0 ?_
    simp only [sm]
    rw [LeftC_ok]
    simp only [Option.bind_some]
    rw [if_pos (by rw [g1, g2, g3]; simp)]
    have : ∀ w r : Int, f_again_Receiver_Handed w r = some r := fun _ _ => rfl
    rw [this]
    simp

end Go.Proofs.Ytmdigffgmohcnaa
