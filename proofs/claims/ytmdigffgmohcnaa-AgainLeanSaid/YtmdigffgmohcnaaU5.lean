/- AgainLean: the plain law. -/
import Derived.Test.YtmdigffgmohcnaaG5
import Derived.Test.YtmdigffgmohcnaaGlK
import Derived.Test.YtmdigffgmohcnaaGlW
set_option linter.unusedVariables false
set_option linter.unusedSimpArgs false
set_option maxRecDepth 100000
set_option maxHeartbeats 1000000
namespace Go.Proofs.Ytmdigffgmohcnaa
open Go GL
/-! ### Lists changed by place -/
section
variable {α : Type}
def mi (P : Nat → α → Bool) (g : α → α) (A : List α) : List α := A.mapIdx fun p r => if P p r = true then g r else r
variable {P Q : Nat → α → Bool} {g : α → α} {A : List α}
theorem mi_len : (mi P g A).length = A.length := by simp [mi]
theorem mi_get {p : Nat} (h : p < A.length) : (mi P g A)[p]'(by rw [mi_len]; exact h) = if P p A[p] = true then g A[p] else A[p] := by simp [mi]
theorem mi_get? (p : Nat) : (mi P g A)[p]? = (A[p]?).map fun r => if P p r = true then g r else r := by simp [mi]
theorem mi_congr (h : ∀ p r, A[p]? = some r → P p r = Q p r) : mi P g A = mi Q g A := by
  apply List.ext_getElem?
  intro p
  rw [mi_get?, mi_get?]
  cases hp : A[p]? with
  | none => rfl
  | some r => simp only [Option.map_some]; rw [h p r hp]
theorem mi_set {m : Nat} (hm : m < A.length) (h : ∀ p r, A[p]? = some r → p ≠ m → Q p r = P p r) : mi Q g A = (mi P g A).set m (if Q m A[m] = true then g A[m] else A[m]) := by
  apply List.ext_getElem?
  intro p
  rw [mi_get?]
  by_cases hp : m = p
  · subst hp
    rw [List.getElem?_set_self (by rw [mi_len]; exact hm), List.getElem?_eq_getElem hm]; rfl
  · rw [List.getElem?_set_ne hp, mi_get?]
    cases hq : A[p]? with
    | none => rfl
    | some r => simp only [Option.map_some]; rw [h p r hq (Ne.symm hp)]
theorem mi_none (h : ∀ p r, A[p]? = some r → P p r = false) : mi P g A = A := by
  apply List.ext_getElem?
  intro p
  rw [mi_get?]
  cases hp : A[p]? with
  | none => rfl
  | some r => simp only [Option.map_some]; rw [h p r hp]; rfl
theorem gt_set_self [Inhabited α] {X : List α} {j : Nat} (h : j < X.length) (y : α) : gt (X.set j y) (j : Int) = y := by
  rw [gt_nat (by simpa using h)]; simp
end
theorem loop_run {S R : Type} {f : S → Option (S ⊕ R)} (n : Nat) (s : Nat → S) (r : R) (h1 : ∀ i, i < n → f (s i) = some (.inl (s (i + 1)))) (h2 : f (s n) = some (.inr r)) {s0 : S} (h0 : s0 = s 0) : loop f s0 = some r := by
  subst h0
  have : ∀ k i : Nat, i + k = n → loop f (s i) = some r := by
    intro k
    induction k with
    | zero => intro i hi; obtain rfl : i = n := by omega
              exact loop_done h2
    | succ k ih => intro i hi; rw [loop_step (h1 i (by omega))]; exact ih (i + 1) (by omega)
  exact this n 0 (by omega)

theorem bnd_eq {α β : Type} {o : Option α} {a : α} {f : α → Option β} {r : Option β} (h : o = some a) (h2 : f a = r) : o.bind f = r := by subst h; exact h2
theorem tmodn {x : Int} (h : 0 ≤ x) (m : Int) : x.tmod m = x % m := Int.tmod_eq_emod_of_nonneg h
/-! ### What is answered for -/
abbrev RE := ByteArray × Int × Bool
abbrev CE := ByteArray × Bool × Int × Bool
abbrev FR := Int × Int × Bool × ByteArray
def cv (r : RE) : CE := (r.1, decide (0 ≤ r.2.1), if 0 ≤ r.2.1 then r.2.1 else 0, r.2.2)
def vw (A : List RE) (f : Nat) : List CE := (A.drop f).map cv
theorem vw_len {A : List RE} {f : Nat} : (vw A f).length = A.length - f := by simp [vw]
theorem vw_gt {A : List RE} {f j : Nat} (h : f + j < A.length) : gt (vw A f) (j : Int) = cv (A[f + j]) := by
  rw [gt_nat (by rw [vw_len]; omega)]; simp [vw]
theorem vw_set {A : List RE} {f j : Nat} {y : RE} : vw (A.set (f + j) y) f = (vw A f).set j (cv y) := by
  unfold vw
  rw [← List.map_set]
  congr 1
  apply List.ext_getElem?
  intro i
  rw [List.getElem?_drop]
  by_cases h : j = i
  · subst h
    by_cases hl : f + j < A.length
    · rw [List.getElem?_set_self hl, List.getElem?_set_self (by simp; omega)]
    · rw [List.getElem?_eq_none (by simp; omega), List.getElem?_eq_none (by simp; omega)]
  · rw [List.getElem?_set_ne (by omega), List.getElem?_set_ne h, List.getElem?_drop]
theorem vw_drop {A : List RE} {f : Nat} : (vw A f).drop 1 = vw A (f + 1) := by simp [vw]

def fr (A : List RE) : Nat := (A.takeWhile (·.2.2)).length
theorem fr_le (A : List RE) : fr A ≤ A.length := by
  unfold fr
  exact List.IsPrefix.length_le (List.takeWhile_prefix _)
theorem fr_unique {A : List RE} {m : Nat} (hm : m ≤ A.length) (h : ∀ p (hp : p < A.length), p < m → A[p].2.2 = true) (h1 : ∀ (hp : m < A.length), A[m].2.2 = false) : fr A = m := by
  induction A generalizing m with
  | nil => simp at hm; subst hm; rfl
  | cons a A ih =>
    cases m with
    | zero =>
      have := h1 (by simp)
      simp at this
      simp [fr, List.takeWhile_cons, this]
    | succ m =>
      have h0 := h 0 (by simp) (by omega)
      simp at h0
      have := ih (m := m) (by simpa using hm) (fun p hp hpm => by have := h (p + 1) (by simpa using hp) (by omega); simpa using this) (fun hp => by have := h1 (by simpa using hp); simpa using this)
      unfold fr at this ⊢
      rw [List.takeWhile_cons, h0]
      simp [this]
theorem fr_spec (A : List RE) : (∀ p (hp : p < A.length), p < fr A → A[p].2.2 = true) ∧ (∀ (hp : fr A < A.length), A[fr A].2.2 = false) := by
  induction A with
  | nil => exact ⟨fun p hp => by simp at hp, fun hp => by simp at hp⟩
  | cons a A ih =>
    by_cases ha : a.2.2 = true
    · have e : fr (a :: A) = fr A + 1 := by simp [fr, List.takeWhile_cons, ha]
      refine ⟨fun p hp h => ?_, fun hp => ?_⟩
      · cases p with
        | zero => exact ha
        | succ p => have := ih.1 p (by simpa using hp) (by omega); simpa using this
      · have h2 : fr A < A.length := by rw [e] at hp; simpa using hp
        have := ih.2 h2
        simp only [e]
        simpa using this
    · have e : fr (a :: A) = 0 := by simp [fr, List.takeWhile_cons, ha]
      refine ⟨fun p hp h => by omega, fun hp => ?_⟩
      simp only [e]
      simpa using ha
theorem le_fr {A : List RE} {m : Nat} (hm : m ≤ A.length) (h : ∀ p (hp : p < A.length), p < m → A[p].2.2 = true) : m ≤ fr A := by
  rcases Nat.lt_or_ge (fr A) m with h1 | h1
  · have h2 := (fr_spec A).2 (by omega)
    have h3 := h (fr A) (by omega) h1
    rw [h2] at h3; cases h3
  · exact h1
theorem fr_same {A B : List RE} (hl : A.length = B.length) (h : ∀ p (hp : p < A.length) (hq : p < B.length), A[p].2.2 = B[p].2.2) : fr A = fr B := by
  have hs := fr_spec B
  have hb := fr_le B
  refine fr_unique (by omega) (fun p hp hpm => ?_) (fun hp => ?_)
  · rw [h p hp (by omega)]; exact hs.1 p (by omega) hpm
  · rw [h _ hp (by omega)]; exact hs.2 (by omega)

/-- What holds of all messages of a sender: those that were sent are the first ones, no more than the window behind the front. -/
structure Inv (W : Nat) (A : List RE) (S : Nat) : Prop where
  fS : fr A ≤ S
  Sl : S ≤ A.length
  Sw : S ≤ fr A + W
  sent : ∀ p (h : p < A.length), 0 ≤ A[p].2.1 ↔ p < S
  ans : ∀ p (h : p < A.length), A[p].2.2 = true → p < S
theorem Inv.new (W : Nat) : Inv W [] 0 := ⟨by simp [fr], by simp, by simp, fun p h => by simp at h, fun p h => by simp at h⟩
theorem Inv.offer {W : Nat} {A : List RE} {S : Nat} (h : Inv W A S) (b : ByteArray) : Inv W (A ++ [(b, -1, false)]) S ∧ fr (A ++ [(b, -1, false)]) = fr A := by
  have hs := fr_spec A
  have hl := fr_le A
  have e : fr (A ++ [(b, -1, false)]) = fr A := by
    refine fr_unique (by simp; omega) (fun p hp hpm => ?_) (fun hp => ?_)
    · rw [List.getElem_append_left (by omega)]; exact hs.1 p (by omega) hpm
    · rcases Nat.lt_or_ge (fr A) A.length with h1 | h1
      · rw [List.getElem_append_left h1]; exact hs.2 h1
      · rw [List.getElem_append_right (by omega)]; simp
  refine ⟨⟨by rw [e]; exact h.fS, by simp; have := h.Sl; omega, by rw [e]; exact h.Sw, fun p hp => ?_, fun p hp ha => ?_⟩, e⟩
  · rcases Nat.lt_or_ge p A.length with h1 | h1
    · rw [List.getElem_append_left h1]; exact h.sent p h1
    · rw [List.getElem_append_right (by omega)]; have := h.Sl; simp; omega
  · rcases Nat.lt_or_ge p A.length with h1 | h1
    · rw [List.getElem_append_left h1] at ha; exact h.ans p h1 ha
    · rw [List.getElem_append_right (by omega)] at ha; simp at ha
/-! ### Tick -/
def skip (now wait : Int) (r : RE) : Bool := r.2.2 || (decide (0 ≤ r.2.1) && decide (IntKind.i64.wrap (now - r.2.1) < wait))
def TA (now wait : Int) (f j : Nat) (A : List RE) : List RE := mi (fun p r => decide (f ≤ p) && decide (p < f + j) && !skip now wait r) (fun r => (r.1, now, r.2.2)) A
def TO (now wait : Int) (f : Nat) (A : List RE) : Nat → List FR
  | 0 => []
  | j + 1 => if skip now wait (gt A ((f + j : Nat) : Int)) = true then TO now wait f A j else TO now wait f A j ++ [(1, (((f + j) % 256 : Nat) : Int), false, (gt A ((f + j : Nat) : Int)).1)]
theorem TO_len (now wait : Int) (f : Nat) (A : List RE) (j : Nat) : (TO now wait f A j).length ≤ j := by
  induction j with
  | zero => simp [TO]
  | succ j ih =>
    unfold TO
    split
    · omega
    · simp; omega
theorem TA_len {now wait : Int} {f j : Nat} {A : List RE} : (TA now wait f j A).length = A.length := mi_len
theorem TA_at {now wait : Int} {f j p : Nat} {A : List RE} (h : p < A.length) (hp : p < (TA now wait f j A).length) :
    (TA now wait f j A)[p] = if (decide (f ≤ p) && decide (p < f + j) && !skip now wait A[p]) = true then (A[p].1, now, A[p].2.2) else A[p] := mi_get h
theorem TA_zero {now wait : Int} {f : Nat} {A : List RE} : TA now wait f 0 A = A := mi_none fun p r _ => by
  have : ¬ (f ≤ p ∧ p < f + 0) := by omega
  simp; omega
theorem TA_get {now wait : Int} {f j : Nat} {A : List RE} (h : f + j < A.length) : (TA now wait f j A)[f + j]'(by rw [TA_len]; exact h) = A[f + j] := by
  rw [TA_at h]
  simp
theorem TA_succ {now wait : Int} {f j : Nat} {A : List RE} (h : f + j < A.length) : TA now wait f (j + 1) A = if skip now wait A[f + j] = true then TA now wait f j A else (TA now wait f j A).set (f + j) (A[f + j].1, now, A[f + j].2.2) := by
  have := mi_set (P := fun p r => decide (f ≤ p) && decide (p < f + j) && !skip now wait r) (Q := fun p r => decide (f ≤ p) && decide (p < f + (j + 1)) && !skip now wait r) (g := fun r => (r.1, now, r.2.2)) h (fun p r _ hp => by
    by_cases h1 : p < f + j
    · simp [h1, show p < f + (j + 1) by omega]
    · simp [h1, show ¬ p < f + (j + 1) by omega])
  have e : decide (f + j < f + (j + 1)) = true := by simp
  simp only [e, Nat.le_add_right, decide_true, Bool.true_and] at this
  unfold TA
  rw [this]
  by_cases hs : skip now wait A[f + j] = true
  · rw [if_pos hs]
    simp only [hs, Bool.not_true, Bool.false_eq_true, if_false]
    have h2 := TA_get (now := now) (wait := wait) h
    unfold TA at h2
    have h3 : (mi (fun p r => decide (f ≤ p) && decide (p < f + j) && !skip now wait r) (fun r => (r.1, now, r.2.2)) A).set (f + j) A[f + j] = (mi (fun p r => decide (f ≤ p) && decide (p < f + j) && !skip now wait r) (fun r => (r.1, now, r.2.2)) A) := by
      conv => lhs; rw [← h2]
      exact List.set_getElem_self _
    exact h3
  · rw [if_neg hs]
    simp only [Bool.not_eq_true] at hs
    simp only [hs, Bool.not_false, if_true]
theorem Inv.tick {W : Nat} {A : List RE} {S : Nat} (h : Inv W A S) {now wait : Int} (hn : 0 ≤ now) :
    Inv W (TA now wait (fr A) (min W (A.length - fr A)) A) (fr A + min W (A.length - fr A)) ∧ fr (TA now wait (fr A) (min W (A.length - fr A)) A) = fr A := by
  have hl := fr_le A
  have hS := h.Sl; have hw := h.Sw; have hf := h.fS
  have e : fr (TA now wait (fr A) (min W (A.length - fr A)) A) = fr A := by
    refine fr_same TA_len fun p hp hq => ?_
    rw [TA_at hq hp]; split <;> rfl
  refine ⟨⟨by rw [e]; omega, by rw [TA_len]; omega, by rw [e]; omega, fun p hp => ?_, fun p hp ha => ?_⟩, e⟩
  · have hq : p < A.length := by rw [TA_len] at hp; exact hp
    rw [TA_at hq hp]
    have hs := h.sent p hq
    have ha := h.ans p hq
    split
    · rename_i hc
      simp only [Bool.and_eq_true, decide_eq_true_eq] at hc
      simp only [hn, true_iff]; omega
    · rename_i hc
      simp only [Bool.and_eq_true, decide_eq_true_eq, Bool.not_eq_true'] at hc
      by_cases h1 : fr A ≤ p ∧ p < fr A + min W (A.length - fr A)
      · have h2 : skip now wait A[p] = true := by
          cases hk : skip now wait A[p] with
          | true => rfl
          | false => exact absurd ⟨h1, hk⟩ hc
        unfold skip at h2
        rw [hs]
        simp only [Bool.or_eq_true, Bool.and_eq_true, decide_eq_true_eq] at h2
        have : p < S := by
          rcases h2 with h2 | h2
          · exact ha h2
          · exact hs.1 h2.1
        omega
      · rw [hs]; omega
  · have hq : p < A.length := by rw [TA_len] at hp; exact hp
    rw [TA_at hq hp] at ha
    have : A[p].2.2 = true := by revert ha; split <;> exact id
    have := h.ans p hq this
    omega
/-! ### Hear -/
def mk (body : ByteArray) (m : Nat) : Bool := iand .u8 (ishr .u8 (bt body ((m / 8 : Nat) : Int)) ((7 - m % 8 : Nat) : Int)) 1 == 1
def hc (body : ByteArray) (D i : Nat) : Bool := decide (i < D) || (decide (D < i) && mk body (i - D - 1))
def HA (body : ByteArray) (f D m : Nat) (A : List RE) : List RE := mi (fun p _ => decide (f ≤ p) && decide (p < f + m) && hc body D (p - f)) (fun r => (r.1, r.2.1, true)) A
theorem HA_len {body : ByteArray} {f D j : Nat} {A : List RE} : (HA body f D j A).length = A.length := mi_len
theorem HA_at {body : ByteArray} {f D j p : Nat} {A : List RE} (h : p < A.length) (hp : p < (HA body f D j A).length) :
    (HA body f D j A)[p] = if (decide (f ≤ p) && decide (p < f + j) && hc body D (p - f)) = true then (A[p].1, A[p].2.1, true) else A[p] := mi_get h
theorem HA_zero {body : ByteArray} {f D : Nat} {A : List RE} : HA body f D 0 A = A := mi_none fun p r _ => by
  simp; omega
theorem HA_succ {body : ByteArray} {f D j : Nat} {A : List RE} (h : f + j < A.length) : HA body f D (j + 1) A = if hc body D j = true then (HA body f D j A).set (f + j) (A[f + j].1, A[f + j].2.1, true) else HA body f D j A := by
  have hset := mi_set (P := fun p _ => decide (f ≤ p) && decide (p < f + j) && hc body D (p - f)) (Q := fun p _ => decide (f ≤ p) && decide (p < f + (j + 1)) && hc body D (p - f)) (g := fun (r : RE) => (r.1, r.2.1, true)) h (fun p r _ hp => by
    by_cases h1 : p < f + j
    · simp [h1, show p < f + (j + 1) by omega]
    · simp [h1, show ¬ p < f + (j + 1) by omega])
  by_cases hq : hc body D j = true
  · rw [if_pos hq]
    unfold HA
    rw [hset]
    simp [hq]
  · rw [if_neg hq]
    simp only [Bool.not_eq_true] at hq
    unfold HA
    refine mi_congr fun p r _ => ?_
    by_cases h1 : p = f + j
    · subst h1; simp [hq]
    · by_cases h2 : p < f + j
      · simp [h2, show p < f + (j + 1) by omega]
      · simp [h2, show ¬ p < f + (j + 1) by omega]
theorem HA_get {body : ByteArray} {f D j : Nat} {A : List RE} (h : f + j < A.length) : (HA body f D j A)[f + j]'(by rw [HA_len]; exact h) = A[f + j] := by
  rw [HA_at h]; simp
theorem Inv.hear {W : Nat} {A : List RE} {S : Nat} (h : Inv W A S) (body : ByteArray) (D : Nat) : Inv W (HA body (fr A) D (S - fr A) A) S ∧ fr A ≤ fr (HA body (fr A) D (S - fr A) A) := by
  have hl := fr_le A
  have hS := h.Sl; have hw := h.Sw; have hf := h.fS
  have hsp := fr_spec A
  have e : fr A ≤ fr (HA body (fr A) D (S - fr A) A) := by
    refine le_fr (by rw [HA_len]; exact hl) fun p hp hpm => ?_
    have hq : p < A.length := by rw [HA_len] at hp; exact hp
    rw [HA_at hq hp]
    split
    · rfl
    · exact hsp.1 p hq hpm
  have hans : ∀ p (hp : p < (HA body (fr A) D (S - fr A) A).length), (HA body (fr A) D (S - fr A) A)[p].2.2 = true → p < S := by
    intro p hp ha
    have hq : p < A.length := by rw [HA_len] at hp; exact hp
    rw [HA_at hq hp] at ha
    split at ha
    · rename_i hc'
      simp only [Bool.and_eq_true, decide_eq_true_eq] at hc'
      omega
    · exact h.ans p hq ha
  refine ⟨⟨?_, by rw [HA_len]; exact hS, by omega, fun p hp => ?_, hans⟩, e⟩
  · rcases Nat.lt_or_ge S (fr (HA body (fr A) D (S - fr A) A)) with h1 | h1
    · have h3 := fr_le (HA body (fr A) D (S - fr A) A)
      have h2 := (fr_spec (HA body (fr A) D (S - fr A) A)).1 S (by omega) h1
      have := hans S (by omega) h2
      omega
    · exact h1
  · have hq : p < A.length := by rw [HA_len] at hp; exact hp
    have := h.sent p hq
    rw [HA_at hq hp]
    split
    · exact this
    · exact this

/-! ### The code's sender, by itself -/
theorem LeftC_ok {W T n F : Int} {A : List RE} : f_again_Sender_Left W T n F (vw A (fr A)) = some ((A.length - fr A : Nat) : Int) := by
  unfold f_again_Sender_Left
  rw [vw_len]
theorem due_cv (now wait : Int) (r : RE) : ((!(cv r).2.2.2) && ((!(cv r).2.1) || (decide (wait ≤ (IntKind.i64.wrap (now - (cv r).2.2.1)))))) = !skip now wait r := by
  unfold skip cv
  by_cases h : 0 ≤ r.2.1
  · simp only [h, decide_true, if_true, Bool.not_true, Bool.false_or, Bool.true_and]
    by_cases h2 : wait ≤ IntKind.i64.wrap (now - r.2.1)
    · simp [h2, show ¬ IntKind.i64.wrap (now - r.2.1) < wait by omega]
    · simp [h2, show IntKind.i64.wrap (now - r.2.1) < wait by omega]
  · simp [h]
theorem TickC_ok {W : Nat} {T n F now : Int} {A : List RE} (hF : F = (fr A : Int)) (hA : A.length ≤ 100000) (hW : W ≤ 128) (hn : n ≤ now) (h0 : 0 ≤ now) :
    f_again_Sender_Tick (W : Int) T n F (vw A (fr A)) now = some (TO now T (fr A) A (min W (A.length - fr A)), 0, (W : Int), T, now, F, vw (TA now T (fr A) (min W (A.length - fr A)) A) (fr A)) := by
  have hl := fr_le A
  unfold f_again_Sender_Tick
  rw [if_neg (by rw [decide_eq_true_eq]; omega)]
  refine bnd_eq (loop_run (min W (A.length - fr A)) (fun j => ((W : Int), T, now, F, vw (TA now T (fr A) j A) (fr A), now, TO now T (fr A) A j, (j : Int))) ((W : Int), T, now, F, vw (TA now T (fr A) (min W (A.length - fr A)) A) (fr A), TO now T (fr A) A (min W (A.length - fr A))) (fun j hj => ?_) ?_ ?_) rfl
  · have hj' : fr A + j < A.length := by omega
    have hL : (TA now T (fr A) j A).length = A.length := TA_len
    simp only [f_again_Sender_Tick.s1, f_again_Sender_Tick.s1c]
    rw [vw_len, vw_len, hL, imin_nat, if_pos (by rw [decide_eq_true_eq]; omega), if_pos (by omega)]
    simp only [f_again_Sender_Tick_1, Option.bind_some]
    have hg : gt (vw (TA now T (fr A) j A) (fr A)) (j : Int) = cv A[fr A + j] := by rw [vw_gt (by omega), TA_get hj']
    rw [hg, due_cv]
    have hTA := TA_succ (now := now) (wait := T) hj'
    have hTO : TO now T (fr A) A (j + 1) = if skip now T A[fr A + j] = true then TO now T (fr A) A j else TO now T (fr A) A j ++ [(1, (((fr A + j) % 256 : Nat) : Int), false, A[fr A + j].1)] := by
      have : gt A ((fr A + j : Nat) : Int) = A[fr A + j] := gt_nat hj'
      rw [TO, this]
    have hTl := TO_len now T (fr A) A j
    have hw1 : IntKind.i64.wrap ((j : Int) + 1) = ((j + 1 : Nat) : Int) := by rw [w64 (by omega) (by omega)]; omega
    by_cases hs : skip now T A[fr A + j] = true
    · rw [if_pos hs] at hTA hTO
      simp only [hs, Bool.not_true, Bool.false_eq_true, if_false]
      rw [hTA, hTO, hw1]
    · rw [if_neg hs] at hTA hTO
      simp only [Bool.not_eq_true] at hs
      simp only [hs, Bool.not_false, if_true]
      have hlen : j < (vw (TA now T (fr A) j A) (fr A)).length := by rw [vw_len]; omega
      simp only [Int.toNat_natCast, gt_set_self hlen, List.set_set]
      have hn8 : IntKind.u8.wrap (IntKind.i64.wrap (F + (j : Int))) = (((fr A + j) % 256 : Nat) : Int) := by
        rw [hF, w64 (by omega) (by omega), IntKind.wrap_u8]; omega
      rw [if_pos (by simp only [List.length_cons, List.length_nil]; omega), hn8, hw1, hTA, hTO, vw_set]
      simp only [cv, h0, decide_true, if_true]
  · have hL : (TA now T (fr A) (min W (A.length - fr A)) A).length = A.length := TA_len
    simp only [f_again_Sender_Tick.s1, f_again_Sender_Tick.s1c]
    rw [vw_len, imin_nat, if_neg (by rw [decide_eq_true_eq]; omega)]
  · rw [TA_zero]; rfl
theorem dd {N : Int} {f : Nat} (h0 : 0 ≤ N) (h1 : N < 256) (hf : f ≤ 100000) :
    IntKind.i64.wrap (IntKind.u8.wrap (N - IntKind.u8.wrap (f : Int))) = ((((N - f) % 256).toNat : Nat) : Int) ∧
    (IntKind.i64.wrap (IntKind.i64.wrap (IntKind.i64.wrap N - ((f : Int)).tmod 256) + 256)).tmod 256 = ((((N - f) % 256).toNat : Nat) : Int) := by
  constructor
  · rw [IntKind.wrap_u8, IntKind.wrap_u8, w64 (by omega) (by omega)]; omega
  · rw [show ((f : Int)).tmod 256 = (f : Int) % 256 from tmodn (by omega) _, w64 (x := N) (by omega) (by omega), w64 (x := N - (f : Int) % 256) (by omega) (by omega), w64 (by omega) (by omega), tmodn (by omega)]; omega
theorem mark_expr {body : ByteArray} (hb : body.size = 16) {m : Nat} (hm : m < 128) :
    (if 0 ≤ IntKind.i64.wrap (((m : Int)).tdiv 8) ∧ IntKind.i64.wrap (((m : Int)).tdiv 8) < (body.size : Int) then
            if 0 ≤ IntKind.i64.wrap (7 - ((m : Int)).tmod 8) then
              some (iand .u8 (ishr .u8 (bt body (IntKind.i64.wrap (((m : Int)).tdiv 8))) (IntKind.i64.wrap (7 - ((m : Int)).tmod 8))) 1 == 1)
            else none
          else none) = some (mk body m) := by
  have e1 : ((m : Int)).tdiv 8 = ((m / 8 : Nat) : Int) := tdiv_nat m 8
  have e2 : ((m : Int)).tmod 8 = ((m % 8 : Nat) : Int) := tmod_nat m 8
  unfold mk
  rw [e1, e2, w64 (x := ((m / 8 : Nat) : Int)) (by omega) (by omega), if_pos (by rw [hb]; omega), w64 (by omega) (by omega), if_pos (by omega)]
  rw [show (7 : Int) - ((m % 8 : Nat) : Int) = ((7 - m % 8 : Nat) : Int) by omega]
theorem K_code {W S : Nat} {A : List RE} (hI : Inv W A S) (hA : A.length ≤ 100000) : loop (f_again_Sender_Hear.s1 (W : Int) (vw A (fr A))) 0 = some ((S - fr A : Nat) : Int) := by
  have hS := hI.Sl; have hw := hI.Sw; have hf := hI.fS
  refine loop_for1 (S - fr A) _ (fun i hi => ?_) ?_
  · simp only [f_again_Sender_Hear.s1, f_again_Sender_Hear.s1c]
    rw [vw_len, imin_nat, if_pos (by rw [decide_eq_true_eq]; omega), if_pos (by omega), vw_gt (by omega)]
    have := (hI.sent (fr A + i) (by omega)).2 (by omega)
    simp only [Option.bind_some, cv, this, decide_true, if_true]
    rw [w64 (by omega) (by omega)]; rfl
  · simp only [f_again_Sender_Hear.s1, f_again_Sender_Hear.s1c]
    rw [vw_len, imin_nat]
    by_cases h : S - fr A < min W (A.length - fr A)
    · rw [if_pos (by rw [decide_eq_true_eq]; omega), if_pos (by omega), vw_gt (by omega)]
      have : ¬ 0 ≤ A[fr A + (S - fr A)].2.1 := fun h1 => by have := (hI.sent _ (by omega)).1 h1; omega
      simp [cv, this]
    · rw [if_neg (by rw [decide_eq_true_eq]; omega)]; rfl
theorem cut_code {W T n : Int} {B : List RE} {f : Nat} (hB : B.length ≤ 100000) (hf : f ≤ fr B) : loop f_again_Sender_Hear.s3 (W, T, n, (f : Int), vw B f) = some (W, T, n, (fr B : Int), vw B (fr B)) := by
  have hl := fr_le B
  have hs := fr_spec B
  refine loop_run (fr B - f) (fun j => (W, T, n, ((f + j : Nat) : Int), vw B (f + j))) _ (fun j hj => ?_) ?_ rfl
  · simp only [f_again_Sender_Hear.s3, f_again_Sender_Hear.s3c]
    have h0 : gt (vw B (f + j)) 0 = cv (B[f + j]'(by omega)) := vw_gt (j := 0) (by omega)
    rw [vw_len, if_pos (by rw [decide_eq_true_eq]; omega), if_pos (by omega), h0]
    have := hs.1 (f + j) (by omega) (by omega)
    simp only [Option.bind_some, cv, this, if_true]
    rw [if_pos (by omega), w64 (by omega) (by omega), show (1 : Int).toNat = 1 from rfl, vw_drop]
    refine congrArg some (congrArg Sum.inl ?_)
    refine Prod.ext rfl (Prod.ext rfl (Prod.ext rfl (Prod.ext ?_ rfl))); simp only; omega
  · simp only [f_again_Sender_Hear.s3, f_again_Sender_Hear.s3c]
    have e : f + (fr B - f) = fr B := by omega
    rw [e, vw_len]
    by_cases h : fr B < B.length
    · have h0 : gt (vw B (fr B)) 0 = cv B[fr B] := vw_gt (j := 0) (by omega)
      rw [if_pos (by rw [decide_eq_true_eq]; omega), if_pos (by omega), h0]
      simp [cv, hs.2 h]
    · rw [if_neg (by rw [decide_eq_true_eq]; omega)]; rfl
/-- what the marks do, in the code -/
theorem marks_code {W T n N : Int} {A : List RE} {body : ByteArray} {K D : Nat} (hb : body.size = 16) (hA : A.length ≤ 100000) (hK : fr A + K ≤ A.length) (hK2 : K ≤ 128) (h0 : 0 ≤ N) (h1 : N < 256) (hD : D = ((N - fr A) % 256).toNat) :
    loop (f_again_Sender_Hear.s2 (fr A : Int) N body (K : Int)) (W, T, n, (fr A : Int), vw A (fr A), 0) = some (W, T, n, (fr A : Int), vw (HA body (fr A) D K A) (fr A)) := by
  have hl := fr_le A
  refine loop_run K (fun j => (W, T, n, (fr A : Int), vw (HA body (fr A) D j A) (fr A), (j : Int))) _ (fun j hj => ?_) ?_ ?_
  · have hL : (HA body (fr A) D j A).length = A.length := HA_len
    have hj' : fr A + j < A.length := by omega
    simp only [f_again_Sender_Hear.s2, f_again_Sender_Hear.s2c]
    rw [(dd h0 h1 (by omega)).1, ← hD, if_pos (by rw [decide_eq_true_eq]; omega)]
    have hD2 : D < 256 := by omega
    have e0 : IntKind.i64.wrap ((j : Int) - (D : Int)) = (j : Int) - D := w64 (by omega) (by omega)
    have e1 : IntKind.i64.wrap ((j : Int) - (D : Int) - 1) = (j : Int) - D - 1 := w64 (by omega) (by omega)
    rw [e0, e1]
    have hg : gt (vw (HA body (fr A) D j A) (fr A)) (j : Int) = cv A[fr A + j] := by rw [vw_gt (by omega), HA_get hj']
    have hz : (if decide ((j : Int) < (D : Int)) = true then some true else
        ((if decide ((0 : Int) ≤ (j : Int) - D - 1) = true then
          if 0 ≤ IntKind.i64.wrap (((j : Int) - D - 1).tdiv 8) ∧ IntKind.i64.wrap (((j : Int) - D - 1).tdiv 8) < (body.size : Int) then
            if 0 ≤ IntKind.i64.wrap (7 - ((j : Int) - D - 1).tmod 8) then
              some (iand .u8 (ishr .u8 (bt body (IntKind.i64.wrap (((j : Int) - D - 1).tdiv 8))) (IntKind.i64.wrap (7 - ((j : Int) - D - 1).tmod 8))) 1 == 1)
            else none
          else none
        else some false).bind fun z => some z)) = some (hc body D j) := by
      unfold hc
      by_cases c1 : j < D
      · simp [c1]
      · by_cases c2 : D < j
        · have e2 : (j : Int) - D - 1 = ((j - D - 1 : Nat) : Int) := by omega
          have := mark_expr hb (m := j - D - 1) (by omega)
          rw [if_neg (by rw [decide_eq_true_eq]; omega), if_pos (by rw [decide_eq_true_eq]; omega), e2, this]
          simp [c1, c2]
        · rw [if_neg (by rw [decide_eq_true_eq]; omega), if_neg (by rw [decide_eq_true_eq]; omega)]
          simp [c1, c2]
    rw [hz]
    simp only [Option.bind_some]
    have hw1 : IntKind.i64.wrap ((j : Int) + 1) = ((j + 1 : Nat) : Int) := by rw [w64 (by omega) (by omega)]; omega
    have hH := HA_succ (body := body) (D := D) hj'
    by_cases hq : hc body D j = true
    · rw [if_pos hq] at hH
      rw [if_pos hq, vw_len, hL, if_pos (by omega), hw1, hH, vw_set, hg, Int.toNat_natCast]
      rfl
    · rw [if_neg hq] at hH
      rw [if_neg hq, hw1, hH]
  · simp only [f_again_Sender_Hear.s2, f_again_Sender_Hear.s2c]
    rw [if_neg (by rw [decide_eq_true_eq]; omega)]
  · rw [HA_zero]; rfl

/-! ### The code's receiver, by itself -/
abbrev MP := List (Int × ByteArray)
def Kp (body : Nat → ByteArray) (n S : Nat) (M : MP) : Prop := ∀ (k : Int) (x : ByteArray), mget M k = some x → (n : Int) ≤ k ∧ k < (S : Int) ∧ x = body k.toNat
theorem hand_code {w : Int} {body : Nat → ByteArray} {S : Nat} (hS : S ≤ 100000) : ∀ (c n : Nat) (M : MP) (H : List ByteArray), n + c = S → H.length ≤ n → Kp body n S M →
    ∃ (n' : Nat) (M' : MP), loop f_again_Receiver_Take.s1 (w, (n : Int), M, H) = some (w, (n' : Int), M', H ++ (List.range' n (n' - n)).map body) ∧ n ≤ n' ∧ n' ≤ S ∧ mget M' (n' : Int) = none ∧ Kp body n' S M' ∧
      (∀ k : Int, (n' : Int) ≤ k → mget M' k = mget M k) ∧ (∀ k : Nat, n ≤ k → k < n' → (mget M (k : Int)).isSome = true) := by
  intro c
  induction c with
  | zero =>
    intro n M H hn hH hK
    have hg : mget M (n : Int) = none := by
      cases h : mget M (n : Int) with
      | none => rfl
      | some x => have := (hK _ _ h).2.1; omega
    refine ⟨n, M, ?_, by omega, by omega, hg, hK, fun _ _ => rfl, fun k h1 h2 => by omega⟩
    rw [Nat.sub_self]; simp only [List.range'_zero, List.map_nil, List.append_nil]
    refine loop_done ?_
    simp only [f_again_Receiver_Take.s1, f_again_Receiver_Take.s1c, hg]; rfl
  | succ c ih =>
    intro n M H hn hH hK
    cases hg : mget M (n : Int) with
    | none =>
      refine ⟨n, M, ?_, by omega, by omega, hg, hK, fun _ _ => rfl, fun k h1 h2 => by omega⟩
      rw [Nat.sub_self]; simp only [List.range'_zero, List.map_nil, List.append_nil]
      refine loop_done ?_
      simp only [f_again_Receiver_Take.s1, f_again_Receiver_Take.s1c, hg]; rfl
    | some x =>
      have hx := (hK _ _ hg).2.2
      rw [Int.toNat_natCast] at hx
      have hK2 : Kp body (n + 1) S (mdel M (n : Int)) := by
        intro k y hy
        rw [mget_del] at hy
        by_cases hk : k = (n : Int)
        · rw [if_pos hk] at hy; cases hy
        · rw [if_neg hk] at hy
          obtain ⟨h1, h2, h3⟩ := hK _ _ hy
          exact ⟨by omega, h2, h3⟩
      obtain ⟨n', M', e1, e2, e3, e4, e5, e6, e7⟩ := ih (n + 1) (mdel M (n : Int)) (H ++ [x]) (by omega) (by simp; omega) hK2
      refine ⟨n', M', ?_, by omega, e3, e4, e5, fun k hk => ?_, fun k h1 h2 => ?_⟩
      · rw [loop_step (s' := (w, ((n + 1 : Nat) : Int), mdel M (n : Int), H ++ [x])) ?_, e1]
        · have : n' - n = n' - (n + 1) + 1 := by omega
          rw [this, List.range'_succ, List.map_cons, List.append_assoc, hx]; rfl
        · simp only [f_again_Receiver_Take.s1, f_again_Receiver_Take.s1c, hg]
          rw [if_neg (by simp), if_pos (by simp only [List.length_cons, List.length_nil]; omega), w64 (by omega) (by omega)]
          rfl
      · rw [e6 k hk, mget_del, if_neg (by omega)]
      · by_cases hk : k = n
        · subst hk; rw [hg]; rfl
        · have := e7 k (by omega) h2
          rw [mget_del, if_neg (by omega)] at this
          exact this
/-! The marks, bit by bit -/
theorem bit_or : ∀ x : Fin 256, ∀ r : Fin 8, 0 ≤ ior .u8 (x.val : Int) (ishr .u8 128 (r.val : Int)) ∧ ior .u8 (x.val : Int) (ishr .u8 128 (r.val : Int)) < 256 ∧
    ∀ s : Fin 8, (iand .u8 (ishr .u8 (ior .u8 (x.val : Int) (ishr .u8 128 (r.val : Int))) ((7 - s.val : Nat) : Int)) 1 == 1) = (decide (s = r) || (iand .u8 (ishr .u8 (x.val : Int) ((7 - s.val : Nat) : Int)) 1 == 1)) := by
  decide +kernel
def mkL (ml : List Int) (m : Nat) : Bool := iand .u8 (ishr .u8 (gt ml ((m / 8 : Nat) : Int)) ((7 - m % 8 : Nat) : Int)) 1 == 1
def BInv (ok : Nat → Bool) (i : Nat) (ml : List Int) : Prop := ml.length = 16 ∧ (∀ b : Nat, b < 16 → 0 ≤ gt ml (b : Int) ∧ gt ml (b : Int) < 256) ∧ ∀ m, m < 128 → mkL ml m = (decide (m < i) && ok m)
theorem BInv.zero (ok : Nat → Bool) : BInv ok 0 (List.replicate 16 (0 : Int)) := by
  have h : ∀ b : Nat, b < 16 → gt (List.replicate 16 (0 : Int)) (b : Int) = 0 := fun b hb => by rw [gt_nat (by simpa using hb), List.getElem_replicate]
  refine ⟨by simp, fun b hb => by rw [h b hb]; omega, fun m hm => ?_⟩
  unfold mkL
  rw [h _ (by omega)]
  have : ∀ s : Fin 8, (iand .u8 (ishr .u8 0 ((7 - s.val : Nat) : Int)) 1 == 1) = false := by decide
  have h2 := this ⟨m % 8, Nat.mod_lt _ (by omega)⟩
  simp only at h2
  rw [h2]; simp
theorem BInv.skip {ok : Nat → Bool} {i : Nat} {ml : List Int} (h : BInv ok i ml) (hk : ok i = false) : BInv ok (i + 1) ml := by
  refine ⟨h.1, h.2.1, fun m hm => ?_⟩
  rw [h.2.2 m hm]
  by_cases h1 : m = i
  · subst h1; simp [hk]
  · have : decide (m < i) = decide (m < i + 1) := by congr 1; simp; omega
    rw [this]
theorem BInv.put {ok : Nat → Bool} {i : Nat} {ml : List Int} (h : BInv ok i ml) (hi : i < 128) (hk : ok i = true) : BInv ok (i + 1) (ml.set (i / 8) (ior .u8 (gt ml ((i / 8 : Nat) : Int)) (ishr .u8 128 ((i % 8 : Nat) : Int)))) := by
  obtain ⟨l1, l2, l3⟩ := h
  obtain ⟨x0, x1⟩ := l2 (i / 8) (by omega)
  obtain ⟨x, hx⟩ : ∃ x : Nat, gt ml ((i / 8 : Nat) : Int) = (x : Int) := ⟨(gt ml ((i / 8 : Nat) : Int)).toNat, by omega⟩
  have hb := bit_or ⟨x, by omega⟩ ⟨i % 8, Nat.mod_lt _ (by omega)⟩
  simp only at hb
  obtain ⟨b1, b2, b3⟩ := hb
  rw [hx]
  refine ⟨by rw [List.length_set]; exact l1, fun b hb => ?_, fun m hm => ?_⟩
  · by_cases hbi : b = i / 8
    · subst hbi; rw [gt_set_self (by omega)]; exact ⟨b1, b2⟩
    · rw [gt_nat (by rw [List.length_set]; omega), List.getElem_set_ne (Ne.symm hbi), ← gt_nat]; exact l2 b hb
  · have h3 := l3 m hm
    unfold mkL at h3 ⊢
    by_cases hbi : m / 8 = i / 8
    · rw [hbi, gt_set_self (by omega)]
      rw [hbi, hx] at h3
      have h4 := b3 ⟨m % 8, Nat.mod_lt _ (by omega)⟩
      simp only at h4
      rw [h4, h3]
      by_cases he : m = i
      · subst he; simp [hk]
      · have : m % 8 ≠ i % 8 := by omega
        have e1 : decide ((⟨m % 8, Nat.mod_lt _ (by omega)⟩ : Fin 8) = ⟨i % 8, Nat.mod_lt _ (by omega)⟩) = false := by simp [Fin.ext_iff, this]
        have e2 : decide (m < i) = decide (m < i + 1) := by congr 1; simp; omega
        rw [e1, e2]; simp
    · have hg : gt (ml.set (i / 8) (ior .u8 (x : Int) (ishr .u8 128 ((i % 8 : Nat) : Int)))) ((m / 8 : Nat) : Int) = gt ml ((m / 8 : Nat) : Int) := by
        rw [gt_nat (by rw [List.length_set]; omega), List.getElem_set_ne (Ne.symm hbi), ← gt_nat]
      rw [hg, h3]
      have e2 : decide (m < i) = decide (m < i + 1) := by congr 1; simp; omega
      rw [e2]
theorem marks_bits {w : Int} {H : List ByteArray} {n : Nat} {M : MP} (hn : n ≤ 100000) : ∀ (k i : Nat) (ml : List Int), i + k = 128 → BInv (fun m => (mget M ((n + 1 + m : Nat) : Int)).isSome) i ml →
    ∃ q, loop (f_again_Receiver_Take.s2 (w, (n : Int), M, H)) (ml, (i : Int)) = some q ∧ BInv (fun m => (mget M ((n + 1 + m : Nat) : Int)).isSome) 128 q := by
  intro k
  induction k with
  | zero =>
    intro i ml hi hM
    refine ⟨ml, loop_done ?_, by rw [show 128 = i by omega]; exact hM⟩
    simp only [f_again_Receiver_Take.s2, f_again_Receiver_Take.s2c]
    rw [if_neg (by rw [decide_eq_true_eq]; omega)]
  | succ k ih =>
    intro i ml hi hM
    have e1 : IntKind.i64.wrap (IntKind.i64.wrap ((n : Int) + 1) + (i : Int)) = ((n + 1 + i : Nat) : Int) := by rw [w64 (x := (n : Int) + 1) (by omega) (by omega), w64 (by omega) (by omega)]; omega
    have e2 : IntKind.i64.wrap ((i : Int) + 1) = ((i + 1 : Nat) : Int) := by rw [w64 (by omega) (by omega)]; omega
    have e3 : IntKind.i64.wrap (((i : Int)).tdiv 8) = ((i / 8 : Nat) : Int) := by rw [show ((i : Int)).tdiv 8 = ((i / 8 : Nat) : Int) from tdiv_nat i 8, w64 (by omega) (by omega)]
    have e4 : ((i : Int)).tmod 8 = ((i % 8 : Nat) : Int) := tmod_nat i 8
    cases hk : (mget M ((n + 1 + i : Nat) : Int)).isSome with
    | false =>
      obtain ⟨q, q1, q2⟩ := ih (i + 1) ml (by omega) (hM.skip hk)
      refine ⟨q, ?_, q2⟩
      rw [loop_step (s' := (ml, ((i + 1 : Nat) : Int))) ?_, q1]
      simp only [f_again_Receiver_Take.s2, f_again_Receiver_Take.s2c]
      rw [if_pos (by rw [decide_eq_true_eq]; omega), e1, hk, if_neg (by simp), e2]
    | true =>
      obtain ⟨q, q1, q2⟩ := ih (i + 1) _ (by omega) (hM.put (by omega) hk)
      refine ⟨q, ?_, q2⟩
      rw [loop_step (s' := (ml.set (i / 8) (ior .u8 (gt ml ((i / 8 : Nat) : Int)) (ishr .u8 128 ((i % 8 : Nat) : Int))), ((i + 1 : Nat) : Int))) ?_, q1]
      simp only [f_again_Receiver_Take.s2, f_again_Receiver_Take.s2c]
      rw [if_pos (by rw [decide_eq_true_eq]; omega), e1, hk, if_pos rfl, e3, if_pos (by omega), e4, if_pos (by omega), if_pos (by omega), e2, Int.toNat_natCast]
theorem bt_bstr {xs : List Int} {b : Nat} (hb : b < xs.length) (h0 : 0 ≤ gt xs (b : Int)) (h1 : gt xs (b : Int) < 256) : bt (bstr xs) (b : Int) = gt xs (b : Int) := by
  rw [gt_nat hb] at h0 h1 ⊢
  unfold bt bstr
  simp [List.getD_eq_getElem?_getD, hb]
  omega
theorem bstr_size (xs : List Int) : (bstr xs).size = xs.length := by simp [bstr, ByteArray.size]
theorem mk_bstr {ok : Nat → Bool} {q : List Int} (h : BInv ok 128 q) : (bstr q).size = 16 ∧ ∀ m, m < 128 → mk (bstr q) m = ok m := by
  refine ⟨by rw [bstr_size, h.1], fun m hm => ?_⟩
  obtain ⟨h0, h1⟩ := h.2.1 (m / 8) (by omega)
  have := h.2.2 m hm
  unfold mkL at this
  unfold mk
  rw [bt_bstr (by rw [h.1]; omega) h0 h1, this]
  simp [hm]
/-- A frame comes in. -/
structure Took (body : Nat → ByteArray) (S n i : Nat) (M : MP) (n' : Nat) (M' : MP) (ms : ByteArray) : Prop where
  le : n ≤ n'
  leS : n' ≤ S
  kp : Kp body n' S M'
  m0 : mget M' (n' : Int) = none
  sz : ms.size = 16
  mks : ∀ m, m < 128 → mk ms m = (mget M' ((n' + 1 + m : Nat) : Int)).isSome
  mono : ∀ k : Nat, (k < n ∨ (mget M (k : Int)).isSome = true) → k < n' ∨ (mget M' (k : Int)).isSome = true
  got : i < n' ∨ (mget M' (i : Int)).isSome = true
  new : ∀ k : Nat, k < n' ∨ (mget M' (k : Int)).isSome = true → k < n ∨ (mget M (k : Int)).isSome = true ∨ k = i
theorem j1_code {W : Int} {body : Nat → ByteArray} {S n : Nat} {M : MP} (hS : S ≤ 100000) (hn : n ≤ S) (hK : Kp body n S M) :
    ∃ (n' : Nat) (M' : MP) (ms : ByteArray), f_again_Receiver_Take.j1 W (n : Int) M = some ((List.range' n (n' - n)).map body, (2, ((n' % 256 : Nat) : Int), false, ms), 0, W, (n' : Int), M') ∧
      n ≤ n' ∧ n' ≤ S ∧ Kp body n' S M' ∧ mget M' (n' : Int) = none ∧ ms.size = 16 ∧ (∀ m, m < 128 → mk ms m = (mget M' ((n' + 1 + m : Nat) : Int)).isSome) ∧ (∀ k : Int, (n' : Int) ≤ k → mget M' k = mget M k) ∧ (∀ k : Nat, n ≤ k → k < n' → (mget M (k : Int)).isSome = true) := by
  obtain ⟨n', M', e1, e2, e3, e4, e5, e6, e7⟩ := hand_code (w := W) hS (S - n) n M [] (by omega) (by simp) hK
  obtain ⟨q, q1, q2⟩ := marks_bits (w := W) (H := [] ++ (List.range' n (n' - n)).map body) (n := n') (M := M') (by omega) 128 0 _ rfl (BInv.zero _)
  obtain ⟨m1, m2⟩ := mk_bstr q2
  refine ⟨n', M', bstr q, ?_, e2, e3, e5, e4, m1, m2, e6, e7⟩
  unfold f_again_Receiver_Take.j1
  rw [e1]
  simp only [Option.bind_some]
  have q1' : loop (f_again_Receiver_Take.s2 (W, (n' : Int), M', [] ++ (List.range' n (n' - n)).map body)) (List.replicate 16 (0 : Int), 0) = some q := q1
  rw [q1']
  have : IntKind.u8.wrap (n' : Int) = ((n' % 256 : Nat) : Int) := by rw [IntKind.wrap_u8]; omega
  simp only [Option.bind_some, this, List.nil_append]
theorem Take_ok {W S n i : Nat} {body : Nat → ByteArray} {M : MP} (hW : W ≤ 128) (hS : S ≤ 100000) (hn : n ≤ S) (hK : Kp body n S M) (hm : mget M (n : Int) = none) (hi : i < S) (hiW : i < n + W) (hlo : n ≤ i + (256 - W)) (hb : (body i).size ≤ 240) :
    ∃ (n' : Nat) (M' : MP) (ms : ByteArray), f_again_Receiver_Take (W : Int) (n : Int) M 1 ((i % 256 : Nat) : Int) false (body i) = some ((List.range' n (n' - n)).map body, (2, ((n' % 256 : Nat) : Int), false, ms), 0, (W : Int), (n' : Int), M') ∧ Took body S n i M n' M' ms := by
  unfold f_again_Receiver_Take
  rw [if_neg (by simp; omega)]
  obtain ⟨D, hD⟩ : ∃ D : Nat, D = (((i : Int) - n) % 256).toNat := ⟨_, rfl⟩
  have c1 : IntKind.i64.wrap (IntKind.u8.wrap (((i % 256 : Nat) : Int) - IntKind.u8.wrap (n : Int))) = (D : Int) := by
    rw [IntKind.wrap_u8, IntKind.wrap_u8, w64 (by omega) (by omega)]; omega
  have c3 : IntKind.i64.wrap ((n : Int) + (D : Int)) = ((n + D : Nat) : Int) := by rw [w64 (by omega) (by omega)]; omega
  rw [c1, c3]
  -- what j1 makes of a map that has what the old one has, and perhaps i
  have fin : ∀ M1 : MP, Kp body n S M1 → (∀ k : Nat, (mget M (k : Int)).isSome = true → (mget M1 (k : Int)).isSome = true) → (i < n ∨ (mget M1 (i : Int)).isSome = true) → (∀ k : Nat, (mget M1 (k : Int)).isSome = true → (mget M (k : Int)).isSome = true ∨ k = i) →
      ∃ (n' : Nat) (M' : MP) (ms : ByteArray), f_again_Receiver_Take.j1 (W : Int) (n : Int) M1 = some ((List.range' n (n' - n)).map body, (2, ((n' % 256 : Nat) : Int), false, ms), 0, (W : Int), (n' : Int), M') ∧ Took body S n i M n' M' ms := by
    intro M1 h1 h2 h3 h4
    obtain ⟨n', M', ms, e1, e2, e3, e4, e5, e6, e7, e8, e9⟩ := j1_code (W := (W : Int)) hS hn h1
    have up : ∀ k : Nat, (mget M1 (k : Int)).isSome = true → k < n' ∨ (mget M' (k : Int)).isSome = true := by
      intro k hk
      by_cases hkn : k < n'
      · exact .inl hkn
      · exact .inr (by rw [e8 k (by omega)]; exact hk)
    refine ⟨n', M', ms, e1, e2, e3, e4, e5, e6, e7, fun k hk => ?_, ?_, fun k hk => ?_⟩
    · rcases hk with hk | hk
      · exact .inl (by omega)
      · exact up k (h2 k hk)
    · rcases h3 with h3 | h3
      · exact .inl (by omega)
      · exact up i h3
    · rcases hk with hk | hk
      · by_cases hkn : k < n
        · exact .inl hkn
        · exact .inr (h4 k (e9 k (by omega) hk))
      · by_cases hkn : k < n'
        · by_cases hkn2 : k < n
          · exact .inl hkn2
          · exact .inr (h4 k (e9 k (by omega) hkn))
        · rw [e8 k (by omega)] at hk
          exact .inr (h4 k hk)
  by_cases hin : n ≤ i
  · have hDi : n + D = i := by omega
    rw [if_pos (by rw [decide_eq_true_eq]; omega), hDi]
    cases hg : mget M (i : Int) with
    | some x =>
      simp only [Option.isSome_some, Bool.not_true, Bool.false_eq_true, if_false]
      exact fin M hK (fun _ h => h) (.inr (by rw [hg]; rfl)) (fun k h => .inl h)
    | none =>
      simp only [Option.isSome_none, Bool.not_false, if_true]
      refine fin (mput M (i : Int) (body i)) ?_ ?_ (.inr (by rw [mget_put, if_pos rfl]; rfl)) ?_
      · intro k x hx
        rw [mget_put] at hx
        by_cases hk : k = (i : Int)
        · rw [if_pos hk] at hx
          subst hk
          exact ⟨by omega, by omega, by rw [Int.toNat_natCast]; exact (Option.some.inj hx).symm⟩
        · rw [if_neg hk] at hx; exact hK _ _ hx
      · intro k hk
        rw [mget_put]
        split
        · rfl
        · exact hk
      · intro k hk
        rw [mget_put] at hk
        by_cases hke : (k : Int) = (i : Int)
        · exact .inr (by omega)
        · rw [if_neg hke] at hk; exact .inl hk
  · rw [if_neg (by rw [decide_eq_true_eq]; omega)]
    exact fin M hK (fun _ h => h) (.inl (by omega)) (fun k h => .inl h)

/-! ### It works -/
theorem OfferC {W T n F : Int} {L : List CE} {b : ByteArray} (hb : b.size ≤ 240) (hL : L.length < 4096) : f_again_Sender_Offer W T n F L b = some (0, W, T, n, F, L ++ [(b, false, 0, false)]) := by
  unfold f_again_Sender_Offer
  rw [if_neg (by rw [decide_eq_true_eq]; omega), if_neg (by rw [decide_eq_true_eq]; omega), if_pos (by simp only [List.length_cons, List.length_nil]; omega)]
theorem OfferC_long {W T n F : Int} {L : List CE} {b : ByteArray} (hb : 240 < b.size) : f_again_Sender_Offer W T n F L b = some (1, W, T, n, F, L) := by
  unfold f_again_Sender_Offer
  rw [if_pos (by rw [decide_eq_true_eq]; omega)]
theorem OfferC_full {W T n F : Int} {L : List CE} {b : ByteArray} (hb : b.size ≤ 240) (hL : 4096 ≤ L.length) : f_again_Sender_Offer W T n F L b = some (3, W, T, n, F, L) := by
  unfold f_again_Sender_Offer
  rw [if_neg (by rw [decide_eq_true_eq]; omega), if_pos (by rw [decide_eq_true_eq]; omega)]
theorem no_marks (w n : Int) (H : List ByteArray) (ml : List Int) : loop (f_again_Receiver_Take.s2 (w, n, [], H)) (ml, 0) = some ml := by
  refine loop_run 128 (fun j => (ml, (j : Int))) ml (fun j hj => ?_) ?_ rfl
  · simp only [f_again_Receiver_Take.s2, f_again_Receiver_Take.s2c, mget_nil]
    rw [if_pos (by rw [decide_eq_true_eq]; omega), if_neg (by simp), w64 (by omega) (by omega)]; rfl
  · simp only [f_again_Receiver_Take.s2, f_again_Receiver_Take.s2c]
    rw [if_neg (by simp)]
def bA : ByteArray := ByteArray.mk #[97]
def zs : ByteArray := bstr (List.replicate 16 0)
theorem take_one : f_again_Receiver_Take 2 0 [] 1 0 false bA = some ([bA], (2, 1, false, zs), 0, (2, 1, [])) := by
  have hj : f_again_Receiver_Take.j1 2 0 [(0, bA)] = some ([bA], (2, 1, false, zs), 0, (2, 1, [])) := by
    unfold f_again_Receiver_Take.j1
    have h1 : loop f_again_Receiver_Take.s1 ((2 : Int), (0 : Int), [((0 : Int), bA)], ([] : List ByteArray)) = some (2, 1, [], [bA]) := by
      rw [loop_step (s' := ((2 : Int), (1 : Int), ([] : List (Int × ByteArray)), [bA])) ?_]
      · exact loop_done rfl
      · simp only [f_again_Receiver_Take.s1, f_again_Receiver_Take.s1c]
        rw [show mget [((0 : Int), bA)] 0 = some bA from rfl]
        rw [if_neg (by simp), if_pos (by simp), w64 (by omega) (by omega)]
        rfl
    rw [h1]
    simp only [Option.bind_some]
    rw [no_marks]
    rfl
  unfold f_again_Receiver_Take
  rw [if_neg (by decide)]
  have e0 : IntKind.i64.wrap (IntKind.u8.wrap (0 - IntKind.u8.wrap 0)) = 0 := by decide
  rw [e0, if_pos (by decide), show IntKind.i64.wrap (0 + 0) = 0 by decide, if_pos (by simp [mget_nil])]
  exact hj
theorem inv_one : Inv 2 [(bA, 0, false)] 1 := by
  have hf : fr [(bA, (0 : Int), false)] = 0 := by simp [fr]
  refine ⟨by rw [hf]; omega, by simp, by rw [hf]; omega, fun p h => ?_, fun p h ha => ?_⟩
  · have : p = 0 := by simpa using h
    subst this; simp
  · simpa using h
theorem works_ok : f_foghornlaw28_works = some true := by
  unfold f_foghornlaw28_works
  have n1 : f_again_NewSender 2 5 = some (some (2, 5, 0, 0, []), 0) := by unfold f_again_NewSender; rw [if_neg (by decide)]
  have n2 : f_again_NewReceiver 2 = some (some (2, 0, []), 0) := by unfold f_again_NewReceiver; rw [if_neg (by decide)]
  rw [n1, n2]
  simp only [Option.bind_some]
  rw [if_neg (by decide), OfferC (by decide) (by decide)]
  simp only [Option.bind_some]
  have hf0 : fr [(bA, (-1 : Int), false)] = 0 := by simp [fr]
  have ht := TickC_ok (W := 2) (T := 5) (n := 0) (F := 0) (now := 0) (A := [(bA, (-1 : Int), false)]) (by rw [hf0]; rfl) (by simp) (by omega) (by omega) (by omega)
  have hv : vw [(bA, (-1 : Int), false)] 0 = [(bA, false, 0, false)] := rfl
  have hTO : TO 0 5 0 [(bA, (-1 : Int), false)] (min 2 1) = [(1, 0, false, bA)] := rfl
  have hTA : TA 0 5 0 (min 2 1) [(bA, (-1 : Int), false)] = [(bA, 0, false)] := rfl
  simp only [hf0, hv] at ht
  have ht' : f_again_Sender_Tick 2 5 0 0 ([] ++ [(ByteArray.mk #[97], false, 0, false)]) 0 = some ([(1, 0, false, bA)], 0, 2, 5, 0, 0, vw [(bA, 0, false)] 0) := ht
  rw [ht']
  simp only [Option.bind_some]
  have hg : gt [((1 : Int), (0 : Int), false, bA)] 0 = (1, 0, false, bA) := rfl
  rw [hg]
  rw [if_neg (by decide), if_pos (by decide), show seq bA (ByteArray.mk #[97]) = true by simp [seq, bA]]
  simp only [Option.bind_some, Bool.not_true, Bool.false_eq_true, if_false]
  rw [if_pos (by decide)]
  simp only [Option.bind_some]
  rw [if_neg (by decide), if_pos (by decide), take_one]
  simp only [Option.bind_some]
  rw [if_pos (by decide), if_pos (by decide), show gt [bA] (0 : Int) = bA from rfl, show seq bA (ByteArray.mk #[97]) = true by simp [seq, bA]]
  simp only [Option.bind_some]
  have hf1 : fr [(bA, (0 : Int), false)] = 0 := by simp [fr]
  have hz : zs.size = 16 := by unfold zs; rw [bstr_size]; simp
  have hHear : f_again_Sender_Hear 2 5 0 0 (vw [(bA, 0, false)] 0) 2 1 false zs = some (0, 2, 5, 0, 1, []) := by
    unfold f_again_Sender_Hear
    rw [if_neg (by rw [hz]; decide)]
    have k1 := K_code (W := 2) inv_one (by simp)
    rw [hf1] at k1
    have k1' : loop (f_again_Sender_Hear.s1 2 (vw [(bA, 0, false)] 0)) 0 = some 1 := k1
    rw [k1']
    simp only [Option.bind_some]
    rw [if_neg (by decide)]
    have m1 := marks_code (W := 2) (T := 5) (n := 0) (N := 1) (A := [(bA, (0 : Int), false)]) (K := 1) (D := 1) hz (by simp) (by rw [hf1]; simp) (by omega) (by omega) (by omega) (by rw [hf1]; rfl)
    rw [hf1] at m1
    have m1' : loop (f_again_Sender_Hear.s2 0 1 zs 1) (2, 5, 0, 0, vw [(bA, 0, false)] 0, 0) = some (2, 5, 0, 0, vw (HA zs 0 1 1 [(bA, 0, false)]) 0) := m1
    rw [m1']
    simp only [Option.bind_some]
    have hB : HA zs 0 1 1 [(bA, (0 : Int), false)] = [(bA, 0, true)] := by
      simp [HA, mi, hc]
    have hfB : fr [(bA, (0 : Int), true)] = 1 := by simp [fr]
    rw [hB]
    have c1 := cut_code (W := 2) (T := 5) (n := 0) (B := [(bA, (0 : Int), true)]) (f := 0) (by simp) (by omega)
    rw [hfB] at c1
    have c1' : loop f_again_Sender_Hear.s3 (2, 5, 0, 0, vw [(bA, 0, true)] 0) = some (2, 5, 0, 1, vw [(bA, 0, true)] 1) := c1
    rw [c1']
    rfl
  rw [if_pos (by decide), hHear]
  rfl

/-! ### An answer is heard -/
theorem Hear_ok {W S : Nat} {T n : Int} {A : List RE} (hI : Inv W A S) (hA : A.length ≤ 100000) (hW : W ≤ 128) {a : Nat} (ha : a ≤ S) (hex : fr A + W < a + 256) {ms : ByteArray} (hms : ms.size = 16) :
    ∃ B, f_again_Sender_Hear (W : Int) T n (fr A : Int) (vw A (fr A)) 2 ((a % 256 : Nat) : Int) false ms = some (0, (W : Int), T, n, (fr B : Int), vw B (fr B)) ∧ Inv W B S ∧ B.length = A.length ∧ fr A ≤ fr B ∧ a ≤ fr B ∧
      (∀ p (h : p < A.length) (h' : p < B.length), B[p].1 = A[p].1 ∧ B[p].2.1 = A[p].2.1) ∧
      (∀ p (h : p < A.length) (h' : p < B.length), B[p].2.2 = true → A[p].2.2 = true ∨ p < a ∨ ∃ m, m < 128 ∧ mk ms m = true ∧ p = a + 1 + m) := by
  have hl := fr_le A
  have hS := hI.Sl; have hw := hI.Sw; have hf := hI.fS
  unfold f_again_Sender_Hear
  rw [if_neg (by rw [hms]; simp), K_code hI hA]
  simp only [Option.bind_some]
  obtain ⟨D, hD⟩ : ∃ D : Nat, D = ((((a % 256 : Nat) : Int) - fr A) % 256).toNat := ⟨_, rfl⟩
  rw [(dd (N := ((a % 256 : Nat) : Int)) (f := fr A) (by omega) (by omega) (by omega)).1, ← hD]
  by_cases hc1 : S - fr A < D
  · rw [if_pos (by rw [decide_eq_true_eq]; omega)]
    exact ⟨A, rfl, hI, rfl, Nat.le_refl _, by omega, fun p h h' => ⟨rfl, rfl⟩, fun p h h' hb => .inl hb⟩
  · rw [if_neg (by rw [decide_eq_true_eq]; omega), marks_code hms hA (by omega) (by omega) (by omega) (by omega) hD]
    simp only [Option.bind_some]
    obtain ⟨h1, h2⟩ := hI.hear ms D
    rw [cut_code (by rw [HA_len]; exact hA) h2]
    have haD : a = fr A + D := by omega
    refine ⟨_, rfl, h1, HA_len, h2, ?_, fun p h h' => ?_, fun p h h' hb => ?_⟩
    · refine le_fr (by rw [HA_len]; omega) fun p hp hpa => ?_
      have hq : p < A.length := by rw [HA_len] at hp; exact hp
      rw [HA_at hq hp]
      by_cases hpf : p < fr A
      · split
        · rfl
        · exact (fr_spec A).1 p hq hpf
      · rw [if_pos]
        simp only [hc, Bool.and_eq_true, decide_eq_true_eq, Bool.or_eq_true]
        exact ⟨⟨by omega, by omega⟩, .inl (by omega)⟩
    · rw [HA_at h h']; split <;> exact ⟨rfl, rfl⟩
    · rw [HA_at h h'] at hb
      split at hb
      · rename_i hcc
        simp only [hc, Bool.and_eq_true, decide_eq_true_eq, Bool.or_eq_true] at hcc
        rcases hcc.2 with h3 | h3
        · exact .inr (.inl (by omega))
        · exact .inr (.inr ⟨p - fr A - D - 1, by omega, h3.2, by omega⟩)
      · exact .inl hb
/-! ### The link -/
abbrev FL := Int × Int × FR
abbrev LS := List (Int × Int)
theorem pbits : ∀ p : Fin 256, iand .i64 (p.val : Int) 1 = ((p.val % 2 : Nat) : Int) ∧ iand .i64 (ishr .i64 (p.val : Int) 1) 3 = ((p.val / 2 % 4 : Nat) : Int) ∧ iand .i64 (ishr .i64 (p.val : Int) 3) 7 = ((p.val / 8 % 8 : Nat) : Int) ∧ ishr .i64 (p.val : Int) 6 = ((p.val / 64 : Nat) : Int) := by
  decide +kernel
theorem pick_ok {w s0 s1 s2 s3 r0 r1 row base off : Int} {s4 : List CE} {r2 : MP} {th bk : List FL} {picks : List Int} {at_ : Nat} {lost : LS} {got : List ByteArray} {ex : Bool} {tm : List Int} (hpk : ∀ x ∈ picks, 0 ≤ x ∧ x < 256) (hat : at_ < 1099511627776) :
    ∃ p at' : Nat, p < 256 ∧ at_ ≤ at' ∧ at' ≤ at_ + 1 ∧ (∀ c : Nat, picks = [(c : Int)] → p = c) ∧
      f_foghornlaw28_link_pick w (some (s0, s1, s2, s3, s4)) (some (r0, r1, r2)) th bk picks (at_ : Int) lost row base off got ex tm = some ((p : Int), w, some (s0, s1, s2, s3, s4), some (r0, r1, r2), th, bk, picks, (at' : Int), lost, row, base, off, got, ex, tm) := by
  unfold f_foghornlaw28_link_pick
  by_cases h0 : picks.length = 0
  · rw [if_pos (by simp [h0])]
    refine ⟨0, at_, by omega, by omega, by omega, fun c hc => by rw [hc] at h0; simp at h0, rfl⟩
  · rw [if_neg (by simp only [beq_iff_eq]; omega)]
    simp only [Option.bind_some]
    rw [if_pos (by omega), w64 (x := (at_ : Int) + 1) (by omega) (by omega), w64 (x := (at_ : Int) + 1 - 1) (by omega) (by omega)]
    have e : ((at_ : Int) + 1 - 1).tmod (picks.length : Int) = ((at_ % picks.length : Nat) : Int) := by
      rw [show (at_ : Int) + 1 - 1 = (at_ : Int) by omega]; exact tmod_nat _ _
    have hlt : at_ % picks.length < picks.length := Nat.mod_lt _ (by omega)
    rw [e, if_pos (by omega), gt_nat hlt]
    have hx := hpk _ (List.getElem_mem hlt)
    refine ⟨(picks[at_ % picks.length]).toNat, at_ + 1, by omega, by omega, by omega, fun c hc => ?_, ?_⟩
    · subst hc; simp
    · rw [w64 (by omega) (by omega), Int.toNat_of_nonneg hx.1]; rfl
abbrev lst (W : Nat) (T nS : Int) (A : List RE) (R : Nat) (M : MP) (th bk : List FL) (at_ : Nat) (lost : LS) (row : Int) (N : Nat) (got : List ByteArray) (tm : List Int) (later : List FL) (i : Nat) :=
  ((W : Int), (W : Int), T, nS, (fr A : Int), vw A (fr A), (W : Int), (R : Int), M, th, bk, (at_ : Int), lost, row, (fr A : Int), (N : Int), got, false, tm, later, (i : Int))
theorem c1_late {W R N at_ i : Nat} {T nS row now : Int} {A : List RE} {M : MP} {th bk later : List FL} {lost : LS} {got : List ByteArray} {tm picks : List Int} (hi : i < th.length) (hth : th.length < 1099511627776) (hl : later.length < 1099511627776) (h : now < th[i].1) :
    f_foghornlaw28_link_come.s1 picks now (lst W T nS A R M th bk at_ lost row N got tm later i) = some (.inl (lst W T nS A R M th bk at_ lost row N got tm (later ++ [th[i]]) (i + 1))) := by
  simp only [f_foghornlaw28_link_come.s1, f_foghornlaw28_link_come.s1c, lst]
  rw [if_pos (by rw [decide_eq_true_eq]; omega), if_pos (by omega), gt_nat hi, if_pos (by rw [decide_eq_true_eq]; exact h), if_pos (by simp only [List.length_cons, List.length_nil]; omega), w64 (by omega) (by omega)]
  rfl
theorem c1_end {W R N at_ i : Nat} {T nS row now : Int} {A : List RE} {M : MP} {th bk later : List FL} {lost : LS} {got : List ByteArray} {tm picks : List Int} (hi : i = th.length) :
    f_foghornlaw28_link_come.s1 picks now (lst W T nS A R M th bk at_ lost row N got tm later i) = some (.inr (.inl ((W : Int), (W : Int), T, nS, (fr A : Int), vw A (fr A), (W : Int), (R : Int), M, th, bk, (at_ : Int), lost, row, (fr A : Int), (N : Int), got, false, tm, later))) := by
  simp only [f_foghornlaw28_link_come.s1, f_foghornlaw28_link_come.s1c, lst]
  rw [if_neg (by rw [decide_eq_true_eq]; omega)]
theorem c1_step {W R N at_ i S idx : Nat} {T nS row now : Int} {A : List RE} {M : MP} {th bk later : List FL} {lost : LS} {got : List ByteArray} {tm picks : List Int} {body : Nat → ByteArray}
    (hW : W ≤ 128) (hS : S ≤ 100000) (hR : R ≤ S) (hK : Kp body R S M) (hm : mget M (R : Int) = none) (hbs : ∀ k, (body k).size ≤ 240) (hpk : ∀ x ∈ picks, 0 ≤ x ∧ x < 256) (hat : at_ < 1099511627776)
    (hrow : 0 ≤ row ∧ row ≤ 3) (hgot : got.length = R) (hb : bk.length < 1099511627776) (hn0 : 0 ≤ now) (hn1 : now < 1099511627776) (hi : i < th.length) (hth : th.length < 1099511627776)
    (hf : th[i].2 = ((idx : Int), 1, ((idx % 256 : Nat) : Int), false, body idx)) (hidx : idx < S) (hSW : S ≤ R + W) (hle : th[i].1 ≤ now) :
    (256 - (W : Int) < (R : Int) - idx ∧ ∃ y, f_foghornlaw28_link_come.s1 picks now (lst W T nS A R M th bk at_ lost row N got tm later i) = some (.inr (.inr (true, y))) ∧ y.2.2.2.2.2.2.2.2.2.2.2.2.1 = true) ∨
    ∃ (R' : Nat) (M' : MP) (ms : ByteArray) (p at' : Nat), Took body S R idx M R' M' ms ∧ p < 256 ∧ at_ ≤ at' ∧ at' ≤ at_ + 1 ∧ (∀ c : Nat, picks = [(c : Int)] → p = c) ∧
      f_foghornlaw28_link_come.s1 picks now (lst W T nS A R M th bk at_ lost row N got tm later i) =
        some (.inl (if p % 2 = 1 ∧ row < 3 then lst W T nS A R' M' th bk at' lost (row + 1) N (got ++ (List.range' R (R' - R)).map body) tm later (i + 1)
          else lst W T nS A R' M' th (bk ++ [(now + 1 + ((p / 2 % 4 : Nat) : Int), (R' : Int), 2, ((R' % 256 : Nat) : Int), false, ms)]) at' lost 0 N (got ++ (List.range' R (R' - R)).map body) tm later (i + 1))) := by
  have hg : gt th (i : Int) = th[i] := gt_nat hi
  have hHand : ∀ w r : Int, f_again_Receiver_Handed w r = some r := fun _ _ => rfl
  by_cases hex : 256 - (W : Int) < (R : Int) - idx
  · refine .inl ⟨hex, ((W : Int), some ((W : Int), T, nS, (fr A : Int), vw A (fr A)), some ((W : Int), (R : Int), M), th, bk, picks, (at_ : Int), lost, row, (fr A : Int), (N : Int), got, true, tm), ?_, rfl⟩
    · simp only [f_foghornlaw28_link_come.s1, f_foghornlaw28_link_come.s1c, lst]
      rw [if_pos (by rw [decide_eq_true_eq]; omega), if_pos (by omega), hg, if_neg (by rw [decide_eq_true_eq]; omega), hHand]
      simp only [Option.bind_some, hf]
      rw [w64 (x := 256 - (W : Int)) (by omega) (by omega), w64 (by omega) (by omega), if_pos (by rw [decide_eq_true_eq]; exact hex)]
  · obtain ⟨R', M', ms, e1, e2⟩ := Take_ok hW hS hR hK hm hidx (by omega) (by omega) (hbs idx)
    have hRS := e2.leS
    have hRR := e2.le
    obtain ⟨p, at', q1, q2, q3, q4, q5⟩ := pick_ok (w := (W : Int)) (s0 := (W : Int)) (s1 := T) (s2 := nS) (s3 := (fr A : Int)) (r0 := (W : Int)) (r1 := (R' : Int)) (row := row) (base := (fr A : Int)) (off := (N : Int)) (s4 := vw A (fr A)) (r2 := M') (th := th) (bk := bk) (lost := lost) (got := got ++ (List.range' R (R' - R)).map body) (ex := false) (tm := tm) hpk hat
    refine .inr ⟨R', M', ms, p, at', e2, q1, q2, q3, q4, ?_⟩
    obtain ⟨b1, b2, -, -⟩ := pbits ⟨p, q1⟩
    simp only at b1 b2
    simp only [f_foghornlaw28_link_come.s1, f_foghornlaw28_link_come.s1c, lst]
    rw [if_pos (by rw [decide_eq_true_eq]; omega), if_pos (by omega), hg, if_neg (by rw [decide_eq_true_eq]; omega), hHand]
    simp only [Option.bind_some, hf]
    rw [w64 (x := 256 - (W : Int)) (by omega) (by omega), w64 (x := (R : Int) - idx) (by omega) (by omega), if_neg (by rw [decide_eq_true_eq]; exact hex), e1]
    simp only [Option.bind_some]
    rw [if_neg (by simp), if_pos (by simp only [List.length_map, List.length_range']; omega), q5]
    simp only [Option.bind_some, b1, b2]
    rw [w64 (x := (i : Int) + 1) (by omega) (by omega), w64 (x := row + 1) (by omega) (by omega), w64 (x := now + 1) (by omega) (by omega)]
    by_cases hp : p % 2 = 1 ∧ row < 3
    · rw [if_pos (by simp only [Bool.and_eq_true, beq_iff_eq, decide_eq_true_eq]; omega), if_pos hp]
      rfl
    · rw [if_neg (by simp only [Bool.and_eq_true, beq_iff_eq, decide_eq_true_eq]; omega), if_neg hp, hHand]
      simp only [Option.bind_some]
      rw [if_pos (by simp only [List.length_cons, List.length_nil]; omega), w64 (by omega) (by omega)]
      rfl
theorem c2_late {W R N at_ i : Nat} {T nS row now : Int} {A : List RE} {M : MP} {th bk later : List FL} {lost : LS} {got : List ByteArray} {tm picks : List Int} (hi : i < bk.length) (hth : bk.length < 1099511627776) (hl : later.length < 1099511627776) (h : now < bk[i].1) :
    f_foghornlaw28_link_come.s2 picks now (lst W T nS A R M th bk at_ lost row N got tm later i) = some (.inl (lst W T nS A R M th bk at_ lost row N got tm (later ++ [bk[i]]) (i + 1))) := by
  simp only [f_foghornlaw28_link_come.s2, f_foghornlaw28_link_come.s2c, lst]
  rw [if_pos (by rw [decide_eq_true_eq]; omega), if_pos (by omega), gt_nat hi, if_pos (by rw [decide_eq_true_eq]; exact h), if_pos (by simp only [List.length_cons, List.length_nil]; omega), w64 (by omega) (by omega)]
  rfl
theorem c2_end {W R N at_ i : Nat} {T nS row now : Int} {A : List RE} {M : MP} {th bk later : List FL} {lost : LS} {got : List ByteArray} {tm picks : List Int} (hi : i = bk.length) :
    f_foghornlaw28_link_come.s2 picks now (lst W T nS A R M th bk at_ lost row N got tm later i) = some (.inr (.inl ((W : Int), (W : Int), T, nS, (fr A : Int), vw A (fr A), (W : Int), (R : Int), M, th, bk, (at_ : Int), lost, row, (fr A : Int), (N : Int), got, false, tm, later))) := by
  simp only [f_foghornlaw28_link_come.s2, f_foghornlaw28_link_come.s2c, lst]
  rw [if_neg (by rw [decide_eq_true_eq]; omega)]
theorem c2_step {W R N at_ i S a : Nat} {T nS row now : Int} {A : List RE} {M : MP} {th bk later : List FL} {lost : LS} {got : List ByteArray} {tm picks : List Int} {ms : ByteArray}
    (hI : Inv W A S) (hA : A.length = N) (hN : N ≤ 100000) (hW : W ≤ 128) (ha : a ≤ S) (hms : ms.size = 16) (hi : i < bk.length) (hbk : bk.length < 1099511627776)
    (hb : bk[i].2 = ((a : Int), 2, ((a % 256 : Nat) : Int), false, ms)) (hle : bk[i].1 ≤ now) :
    (256 - (W : Int) ≤ (fr A : Int) - a ∧ ∃ y, f_foghornlaw28_link_come.s2 picks now (lst W T nS A R M th bk at_ lost row N got tm later i) = some (.inr (.inr (true, y))) ∧ y.2.2.2.2.2.2.2.2.2.2.2.2.1 = true) ∨
    ∃ B, Inv W B S ∧ B.length = A.length ∧ fr A ≤ fr B ∧ a ≤ fr B ∧
      (∀ p (h : p < A.length) (h' : p < B.length), B[p].1 = A[p].1 ∧ B[p].2.1 = A[p].2.1) ∧
      (∀ p (h : p < A.length) (h' : p < B.length), B[p].2.2 = true → A[p].2.2 = true ∨ p < a ∨ ∃ m, m < 128 ∧ mk ms m = true ∧ p = a + 1 + m) ∧
      f_foghornlaw28_link_come.s2 picks now (lst W T nS A R M th bk at_ lost row N got tm later i) = some (.inl (lst W T nS B R M th bk at_ lost row N got tm later (i + 1))) := by
  have hg : gt bk (i : Int) = bk[i] := gt_nat hi
  have hl := fr_le A
  by_cases hex : 256 - (W : Int) ≤ (fr A : Int) - a
  · refine .inl ⟨hex, ((W : Int), some ((W : Int), T, nS, (fr A : Int), vw A (fr A)), some ((W : Int), (R : Int), M), th, bk, picks, (at_ : Int), lost, row, (fr A : Int), (N : Int), got, true, tm), ?_, rfl⟩
    · simp only [f_foghornlaw28_link_come.s2, f_foghornlaw28_link_come.s2c, lst]
      rw [if_pos (by rw [decide_eq_true_eq]; omega), if_pos (by omega), hg, if_neg (by rw [decide_eq_true_eq]; omega)]
      simp only [hb]
      rw [w64 (x := 256 - (W : Int)) (by omega) (by omega), w64 (x := (fr A : Int) - a) (by omega) (by omega), if_pos (by rw [decide_eq_true_eq]; exact hex)]
  · obtain ⟨B, e1, e2, e3, e4, e5, e6, e7⟩ := Hear_ok (T := T) (n := nS) hI (by omega) hW ha (by omega) hms
    refine .inr ⟨B, e2, e3, e4, e5, e6, e7, ?_⟩
    have hlB := fr_le B
    simp only [f_foghornlaw28_link_come.s2, f_foghornlaw28_link_come.s2c, lst]
    rw [if_pos (by rw [decide_eq_true_eq]; omega), if_pos (by omega), hg, if_neg (by rw [decide_eq_true_eq]; omega)]
    simp only [hb]
    rw [w64 (x := 256 - (W : Int)) (by omega) (by omega), w64 (x := (fr A : Int) - a) (by omega) (by omega), if_neg (by rw [decide_eq_true_eq]; exact hex), e1]
    simp only [Option.bind_some]
    rw [if_neg (by simp), LeftC_ok]
    simp only [Option.bind_some]
    have : IntKind.i64.wrap ((N : Int) - ((B.length - fr B : Nat) : Int)) = (fr B : Int) := by rw [w64 (by omega) (by omega)]; omega
    rw [this, w64 (x := (i : Int) + 1) (by omega) (by omega)]
    rfl
/-- the state while what is sent goes on its way -/
abbrev tst (W : Nat) (T nS : Int) (A : List RE) (R : Nat) (M : MP) (th bk : List FL) (at_ : Nat) (lost : LS) (row : Int) (N : Nat) (got : List ByteArray) (tm : List Int) (i : Nat) :=
  ((W : Int), (W : Int), T, nS, (fr A : Int), vw A (fr A), (W : Int), (R : Int), M, th, bk, (at_ : Int), lost, row, (fr A : Int), (N : Int), got, false, tm, (i : Int))
theorem t_end {W R N at_ i : Nat} {T nS row now : Int} {A : List RE} {M : MP} {th bk : List FL} {lost : LS} {got : List ByteArray} {tm picks : List Int} {q : List FR × Int × Int × Int × Int × Int × List CE} (hi : i = q.1.length) :
    f_foghornlaw28_link_tick.s1 picks now q (tst W T nS A R M th bk at_ lost row N got tm i) = some (.inr (.inl ((W : Int), (W : Int), T, nS, (fr A : Int), vw A (fr A), (W : Int), (R : Int), M, th, bk, (at_ : Int), lost, row, (fr A : Int), (N : Int), got, false, tm))) := by
  simp only [f_foghornlaw28_link_tick.s1, f_foghornlaw28_link_tick.s1c, tst]
  rw [if_neg (by rw [decide_eq_true_eq]; omega)]
def gl (lost : LS) (k : Nat) : Int := (mget lost (k : Int)).getD 0
theorem t_step {W R N at_ i j : Nat} {T nS row now : Int} {A : List RE} {M : MP} {th bk : List FL} {lost : LS} {got : List ByteArray} {tm picks : List Int} {q : List FR × Int × Int × Int × Int × Int × List CE} {b : ByteArray}
    (hN : N ≤ 100000) (hj : j < 128) (hjN : fr A + j < N) (hpk : ∀ x ∈ picks, 0 ≤ x ∧ x < 256) (hat : at_ < 1099511627776) (hth : th.length < 1099511627776)
    (hl : 0 ≤ gl lost (fr A + j) ∧ gl lost (fr A + j) ≤ 3) (hn0 : 0 ≤ now) (hn1 : now < 1099511627776) (htm : tm.length = N) (hiq : q.1.length ≤ 128) (hi : i < q.1.length) (hq : q.1[i] = (1, (((fr A + j) % 256 : Nat) : Int), false, b)) :
    ∃ p at' : Nat, p < 256 ∧ at_ ≤ at' ∧ at' ≤ at_ + 1 ∧ (∀ c : Nat, picks = [(c : Int)] → p = c) ∧
      f_foghornlaw28_link_tick.s1 picks now q (tst W T nS A R M th bk at_ lost row N got tm i) =
        some (.inl (if p % 2 = 1 ∧ gl lost (fr A + j) < 3 then tst W T nS A R M th bk at' (mput lost ((fr A + j : Nat) : Int) (gl lost (fr A + j) + 1)) row N got (tm.set (fr A + j) (IntKind.i64.wrap (gt tm ((fr A + j : Nat) : Int) + 1))) (i + 1)
          else if p / 8 % 8 = 7 then tst W T nS A R M (th ++ [(now + 1 + ((p / 2 % 4 : Nat) : Int), ((fr A + j : Nat) : Int), 1, (((fr A + j) % 256 : Nat) : Int), false, b)] ++ [(now + 2 + ((p / 64 : Nat) : Int), ((fr A + j : Nat) : Int), 1, (((fr A + j) % 256 : Nat) : Int), false, b)]) bk at' lost row N got (tm.set (fr A + j) (IntKind.i64.wrap (gt tm ((fr A + j : Nat) : Int) + 1))) (i + 1)
          else tst W T nS A R M (th ++ [(now + 1 + ((p / 2 % 4 : Nat) : Int), ((fr A + j : Nat) : Int), 1, (((fr A + j) % 256 : Nat) : Int), false, b)]) bk at' lost row N got (tm.set (fr A + j) (IntKind.i64.wrap (gt tm ((fr A + j : Nat) : Int) + 1))) (i + 1))) := by
  have hg : gt q.1 (i : Int) = q.1[i] := gt_nat hi
  obtain ⟨p, at', q1, q2, q3, q4, q5⟩ := pick_ok (w := (W : Int)) (s0 := (W : Int)) (s1 := T) (s2 := nS) (s3 := (fr A : Int)) (r0 := (W : Int)) (r1 := (R : Int)) (row := row) (base := (fr A : Int)) (off := (N : Int)) (s4 := vw A (fr A)) (r2 := M) (th := th) (bk := bk) (lost := lost) (got := got) (ex := false) (tm := tm.set (fr A + j) (IntKind.i64.wrap (gt tm ((fr A + j : Nat) : Int) + 1))) hpk hat
  refine ⟨p, at', q1, q2, q3, q4, ?_⟩
  obtain ⟨b1, b2, b3, b4⟩ := pbits ⟨p, q1⟩
  simp only at b1 b2 b3 b4
  have hix : IntKind.i64.wrap ((fr A : Int) + IntKind.i64.wrap (IntKind.u8.wrap ((((fr A + j) % 256 : Nat) : Int) - IntKind.u8.wrap (fr A : Int)))) = ((fr A + j : Nat) : Int) := by
    rw [IntKind.wrap_u8, IntKind.wrap_u8, w64 (x := ((((fr A + j) % 256 : Nat) : Int) - ((fr A : Int)) % 256) % 256) (by omega) (by omega), w64 (by omega) (by omega)]
    omega
  simp only [f_foghornlaw28_link_tick.s1, f_foghornlaw28_link_tick.s1c, tst]
  rw [if_pos (by rw [decide_eq_true_eq]; omega), if_pos (by omega), hg, hq]
  simp only [hix]
  rw [if_neg (by rw [decide_eq_true_eq]; omega), if_pos (by omega), if_pos (by omega), Int.toNat_natCast, q5]
  simp only [Option.bind_some, b1, b2, b3, b4]
  rw [w64 (x := (i : Int) + 1) (by omega) (by omega), w64 (x := now + 1) (by omega) (by omega), w64 (x := now + 2) (by omega) (by omega), w64 (x := now + 1 + ((p / 2 % 4 : Nat) : Int)) (by omega) (by omega), w64 (x := now + 2 + ((p / 64 : Nat) : Int)) (by omega) (by omega)]
  have hgl : (mget lost ((fr A + j : Nat) : Int)).getD 0 = gl lost (fr A + j) := rfl
  rw [hgl, w64 (x := gl lost (fr A + j) + 1) (by omega) (by omega)]
  by_cases hp : p % 2 = 1 ∧ gl lost (fr A + j) < 3
  · rw [if_pos (by simp only [Bool.and_eq_true, beq_iff_eq, decide_eq_true_eq]; omega), if_pos hp]
    rfl
  · rw [if_neg (by simp only [Bool.and_eq_true, beq_iff_eq, decide_eq_true_eq]; omega), if_neg hp, if_pos (by omega), if_pos (by simp only [List.length_cons, List.length_nil]; omega)]
    by_cases hp2 : p / 8 % 8 = 7
    · rw [if_pos (by simp only [beq_iff_eq]; omega), if_pos hp2, if_pos (by omega), if_pos (by simp only [List.length_append, List.length_cons, List.length_nil]; omega)]
      rfl
    · rw [if_neg (by simp only [beq_iff_eq]; omega), if_neg hp2]
      rfl

/-! ### What is sent at a tick -/
def fm (F : Nat) (body : Nat → ByteArray) (j : Nat) : FR := (1, (((F + j) % 256 : Nat) : Int), false, body (F + j))
theorem TO_js {now T : Int} {F : Nat} {A : List RE} {body : Nat → ByteArray} (hb : ∀ p (h : p < A.length), A[p].1 = body p) (n : Nat) (hn : F + n ≤ A.length) :
    TO now T F A n = ((List.range n).filter (fun j => !skip now T (gt A ((F + j : Nat) : Int)))).map (fm F body) := by
  induction n with
  | zero => rfl
  | succ n ih =>
    have hg : gt A ((F + n : Nat) : Int) = A[F + n]'(by omega) := gt_nat (by omega)
    rw [TO, List.range_succ, List.filter_append, List.map_append, ← ih (by omega)]
    by_cases h : skip now T (gt A ((F + n : Nat) : Int)) = true
    · rw [if_pos h]
      simp only [List.filter_cons, h, Bool.not_true, Bool.false_eq_true, if_false, List.filter_nil, List.map_nil, List.append_nil]
    · rw [if_neg h]
      simp only [Bool.not_eq_true] at h
      simp only [List.filter_cons, h, Bool.not_false, if_true, List.filter_nil, List.map_cons, List.map_nil, fm]
      rw [hg, hb]
abbrev tdn (W : Nat) (T nS : Int) (A : List RE) (R : Nat) (M : MP) (th bk : List FL) (at_ : Nat) (lost : LS) (row : Int) (N : Nat) (got : List ByteArray) (tm : List Int) :=
  ((W : Int), (W : Int), T, nS, (fr A : Int), vw A (fr A), (W : Int), (R : Int), M, th, bk, (at_ : Int), lost, row, (fr A : Int), (N : Int), got, false, tm)

/-! ### No losses -/
def xb : ByteArray := ByteArray.mk #[120]
def FlL (s : Nat → Int) (c : Nat) (R : Nat) (l : List FL) : Prop := ∀ i (h : i < l.length), l[i] = (s (R + i) + 1 + c, ((R + i : Nat) : Int), 1, (((R + i) % 256 : Nat) : Int), false, xb)
def AnL (s : Nat → Int) (c : Nat) (F : Nat) (l : List FL) : Prop := ∀ i (h : i < l.length), ∃ ms : ByteArray, ms.size = 16 ∧ (∀ m, m < 128 → mk ms m = false) ∧ l[i] = (s (F + i) + 2 + 2 * c, ((F + i + 1 : Nat) : Int), 2, (((F + i + 1) % 256 : Nat) : Int), false, ms)
theorem FlL.tail {s : Nat → Int} {c R : Nat} {f : FL} {l : List FL} (h : FlL s c R (f :: l)) : f = (s R + 1 + c, (R : Int), 1, ((R % 256 : Nat) : Int), false, xb) ∧ FlL s c (R + 1) l := by
  refine ⟨h 0 (by simp), fun i hi => ?_⟩
  have := h (i + 1) (by simpa using hi)
  simp only [List.getElem_cons_succ] at this
  rw [this, show R + (i + 1) = R + 1 + i by omega]
theorem AnL.tail {s : Nat → Int} {c F : Nat} {f : FL} {l : List FL} (h : AnL s c F (f :: l)) : (∃ ms : ByteArray, ms.size = 16 ∧ (∀ m, m < 128 → mk ms m = false) ∧ f = (s F + 2 + 2 * c, ((F + 1 : Nat) : Int), 2, (((F + 1) % 256 : Nat) : Int), false, ms)) ∧ AnL s c (F + 1) l := by
  refine ⟨h 0 (by simp), fun i hi => ?_⟩
  obtain ⟨ms, h1, h2, h3⟩ := h (i + 1) (by simpa using hi)
  simp only [List.getElem_cons_succ] at h3
  exact ⟨ms, h1, h2, by rw [h3, show F + (i + 1) = F + 1 + i by omega]⟩
theorem AnL.snoc {s : Nat → Int} {c F R : Nat} {l : List FL} (h : AnL s c F l) (e : F + l.length = R) {ms : ByteArray} (h1 : ms.size = 16) (h2 : ∀ m, m < 128 → mk ms m = false) :
    AnL s c F (l ++ [(s R + 2 + 2 * c, ((R + 1 : Nat) : Int), 2, (((R + 1) % 256 : Nat) : Int), false, ms)]) := by
  intro i hi
  simp only [List.length_append, List.length_cons, List.length_nil] at hi
  by_cases hl : i < l.length
  · rw [List.getElem_append_left hl]; exact h i hl
  · have : i = l.length := by omega
    subst this
    rw [List.getElem_append_right (by omega)]
    exact ⟨ms, h1, h2, by simp only [Nat.sub_self, List.getElem_cons_zero]; rw [e]⟩
theorem FlL.cong {s s' : Nat → Int} {c R : Nat} {l : List FL} (h : FlL s c R l) (e : ∀ j, R ≤ j → j < R + l.length → s' j = s j) : FlL s' c R l := fun i hi => by rw [h i hi, e (R + i) (by omega) (by omega)]
theorem AnL.cong {s s' : Nat → Int} {c R : Nat} {l : List FL} (h : AnL s c R l) (e : ∀ j, R ≤ j → j < R + l.length → s' j = s j) : AnL s' c R l := fun i hi => by
  obtain ⟨ms, h1, h2, h3⟩ := h i hi
  exact ⟨ms, h1, h2, by rw [h3, e (R + i) (by omega) (by omega)]⟩
theorem FlL.late {s : Nat → Int} {c R S : Nat} {l : List FL} {now : Int} (h : FlL s c R l) (e : R + l.length = S) (hl : ∀ j, R ≤ j → j < S → now < s j + 1 + c) : ∀ f ∈ l, now < f.1 := by
  intro f hf
  obtain ⟨i, hi, rfl⟩ := List.getElem_of_mem hf
  rw [h i hi]; exact hl _ (by omega) (by omega)
theorem AnL.late {s : Nat → Int} {c R S : Nat} {l : List FL} {now : Int} (h : AnL s c R l) (e : R + l.length = S) (hl : ∀ j, R ≤ j → j < S → now < s j + 2 + 2 * c) : ∀ f ∈ l, now < f.1 := by
  intro f hf
  obtain ⟨i, hi, rfl⟩ := List.getElem_of_mem hf
  obtain ⟨ms, h1, h2, h3⟩ := h i hi
  rw [h3]; exact hl _ (by omega) (by omega)
theorem took_one {body : Nat → ByteArray} {S n : Nat} {M : MP} {n' : Nat} {M' : MP} {ms : ByteArray} (h : Took body S n n M n' M' ms) (em : ∀ k : Int, mget M k = none) :
    n' = n + 1 ∧ (∀ k : Int, mget M' k = none) ∧ ∀ m, m < 128 → mk ms m = false := by
  have hle := h.le
  have h1 : n' ≤ n + 1 := by
    rcases Nat.lt_or_ge (n + 1) n' with h2 | h2
    · rcases h.new (n + 1) (.inl h2) with h3 | h3 | h3
      · omega
      · rw [em] at h3; simp at h3
      · omega
    · exact h2
  have h2 : n' = n + 1 := by
    rcases Nat.lt_or_ge n n' with h3 | h3
    · omega
    · have : n' = n := by omega
      subst this
      rcases h.got with h4 | h4
      · omega
      · rw [h.m0] at h4; simp at h4
  have h3 : ∀ k : Int, mget M' k = none := by
    intro k
    cases hk : mget M' k with
    | none => rfl
    | some x =>
      obtain ⟨k1, k2, k3⟩ := h.kp k x hk
      obtain ⟨j, rfl⟩ : ∃ j : Nat, k = (j : Int) := ⟨k.toNat, by omega⟩
      rcases h.new j (.inr (by rw [hk]; rfl)) with h4 | h4 | h4
      · omega
      · rw [em] at h4; simp at h4
      · omega
  exact ⟨h2, h3, fun m hm => by rw [h.mks m hm, h3]; rfl⟩
theorem lateL1 {W N R : Nat} {T nS now : Int} {A : List RE} {M : MP} {th bk : List FL} {at_ : Nat} {lost : LS} {row : Int} {got : List ByteArray} {tm picks : List Int} (hth : th.length < 1099511627776) : ∀ (l : List FL) (i : Nat) (later : List FL),
    th.drop i = l → (∀ f ∈ l, now < f.1) → later.length + l.length < 1099511627776 →
    loop (f_foghornlaw28_link_come.s1 picks now) (lst W T nS A R M th bk at_ lost row N got tm later i) = some (.inl ((W : Int), (W : Int), T, nS, (fr A : Int), vw A (fr A), (W : Int), (R : Nat), M, th, bk, (at_ : Nat), lost, row, (fr A : Int), (N : Int), got, false, tm, later ++ l)) := by
  intro l
  induction l with
  | nil =>
    intro i later hd hl hb
    have hi : ¬ i < th.length := fun hi => by rw [List.drop_eq_getElem_cons hi] at hd; cases hd
    rw [List.append_nil]
    refine loop_done ?_
    simp only [f_foghornlaw28_link_come.s1, f_foghornlaw28_link_come.s1c, lst]
    rw [if_neg (by rw [decide_eq_true_eq]; omega)]
  | cons f l ih =>
    intro i later hd hl hb
    simp only [List.length_cons] at hb
    have hi : i < th.length := by
      rcases Nat.lt_or_ge i th.length with h1 | h1
      · exact h1
      · rw [List.drop_eq_nil_of_le h1] at hd; cases hd
    rw [List.drop_eq_getElem_cons hi, List.cons.injEq] at hd
    have hf : now < th[i].1 := by rw [hd.1]; exact hl f (by simp)
    rw [loop_step (c1_late hi hth (by omega) hf), hd.1, ih (i + 1) (later ++ [f]) hd.2 (fun g hg => hl g (by simp [hg])) (by simp only [List.length_append, List.length_cons, List.length_nil]; omega), List.append_assoc]
    rfl
theorem lateL2 {W N R : Nat} {T nS now : Int} {A : List RE} {M : MP} {th bk : List FL} {at_ : Nat} {lost : LS} {row : Int} {got : List ByteArray} {tm picks : List Int} (hbk : bk.length < 1099511627776) : ∀ (l : List FL) (i : Nat) (later : List FL),
    bk.drop i = l → (∀ f ∈ l, now < f.1) → later.length + l.length < 1099511627776 →
    loop (f_foghornlaw28_link_come.s2 picks now) (lst W T nS A R M th bk at_ lost row N got tm later i) = some (.inl ((W : Int), (W : Int), T, nS, (fr A : Int), vw A (fr A), (W : Int), (R : Nat), M, th, bk, (at_ : Nat), lost, row, (fr A : Int), (N : Int), got, false, tm, later ++ l)) := by
  intro l
  induction l with
  | nil =>
    intro i later hd hl hb
    have hi : ¬ i < bk.length := fun hi => by rw [List.drop_eq_getElem_cons hi] at hd; cases hd
    rw [List.append_nil]
    refine loop_done ?_
    simp only [f_foghornlaw28_link_come.s2, f_foghornlaw28_link_come.s2c, lst]
    rw [if_neg (by rw [decide_eq_true_eq]; omega)]
  | cons f l ih =>
    intro i later hd hl hb
    simp only [List.length_cons] at hb
    have hi : i < bk.length := by
      rcases Nat.lt_or_ge i bk.length with h1 | h1
      · exact h1
      · rw [List.drop_eq_nil_of_le h1] at hd; cases hd
    rw [List.drop_eq_getElem_cons hi, List.cons.injEq] at hd
    have hf : now < bk[i].1 := by rw [hd.1]; exact hl f (by simp)
    rw [loop_step (c2_late hi hbk (by omega) hf), hd.1, ih (i + 1) (later ++ [f]) hd.2 (fun g hg => hl g (by simp [hg])) (by simp only [List.length_append, List.length_cons, List.length_nil]; omega), List.append_assoc]
    rfl
theorem come1L {W N S F c : Nat} {T nS now : Int} {s : Nat → Int} {A : List RE} {th : List FL} {tm : List Int} (hc : c < 4) (hW : W ≤ 128) (hN : N ≤ 100000) (hSN : S ≤ N) (hF : S ≤ F + W) (hth : th.length < 1099511627776) (hn0 : 0 ≤ now) (hn1 : now < 1099511627776)
    (mono : ∀ i j, i ≤ j → j < S → s i ≤ s j) : ∀ (l : List FL) (i : Nat) (R : Nat) (M : MP) (bk : List FL) (at_ : Nat) (got : List ByteArray),
    th.drop i = l → FlL s c R l → R + l.length = S → (∀ k : Int, mget M k = none) → AnL s c F bk → F + bk.length = R → (∀ j, R ≤ j → j < S → now ≤ s j + 1 + c) → got.length = R → at_ + l.length < 1099511627776 →
    ∃ R' M' bk' at' got' later', loop (f_foghornlaw28_link_come.s1 [((2 * c : Nat) : Int)] now) (lst W T nS A R M th bk at_ [] 0 N got tm [] i) = some (.inl ((W : Int), (W : Int), T, nS, (fr A : Int), vw A (fr A), (W : Int), (R' : Nat), M', th, bk', (at' : Nat), ([] : LS), (0 : Int), (fr A : Int), (N : Int), got', false, tm, later')) ∧
      R ≤ R' ∧ R' + later'.length = S ∧ FlL s c R' later' ∧ (∀ k : Int, mget M' k = none) ∧ AnL s c F bk' ∧ F + bk'.length = R' ∧ (∀ j, R' ≤ j → j < S → now < s j + 1 + c) ∧ (∀ j, R ≤ j → j < R' → now = s j + 1 + c) ∧ at' ≤ at_ + l.length ∧ got'.length = R' := by
  intro l
  induction l with
  | nil =>
    intro i R M bk at_ got hd hf hS em ha hb hl hg hat
    have hi : ¬ i < th.length := fun hi => by rw [List.drop_eq_getElem_cons hi] at hd; cases hd
    simp only [List.length_nil] at hS
    refine ⟨R, M, bk, at_, got, [], loop_done ?_, Nat.le_refl _, by simpa using hS, fun i hi => by simp at hi, em, ha, hb, fun j h1 h2 => by omega, fun j h1 h2 => by omega, by omega, hg⟩
    simp only [f_foghornlaw28_link_come.s1, f_foghornlaw28_link_come.s1c, lst]
    rw [if_neg (by rw [decide_eq_true_eq]; omega)]
  | cons f l ih =>
    intro i R M bk at_ got hd hf hS em ha hb hl hg hat
    simp only [List.length_cons] at hS hat
    have hi : i < th.length := by
      rcases Nat.lt_or_ge i th.length with h1 | h1
      · exact h1
      · rw [List.drop_eq_nil_of_le h1] at hd; cases hd
    obtain ⟨f1, f2⟩ := hf.tail
    have hR := hl R (Nat.le_refl _) (by omega)
    by_cases hlate : now < s R + 1 + c
    · have all : ∀ j, R ≤ j → j < S → now < s j + 1 + c := fun j h1 h2 => by have := mono R j h1 h2; omega
      have := lateL1 (W := W) (N := N) (R := R) (T := T) (nS := nS) (now := now) (A := A) (M := M) (bk := bk) (at_ := at_) (lost := []) (row := 0) (got := got) (tm := tm) (picks := [((2 * c : Nat) : Int)]) hth (f :: l) i [] hd (hf.late (by simpa using hS) all) (by simp only [List.length_nil, List.length_cons]; omega)
      exact ⟨R, M, bk, at_, got, _, this, Nat.le_refl _, by simpa using hS, by simpa using hf, em, ha, hb, all, fun j h1 h2 => by omega, by omega, hg⟩
    · have hnow : now = s R + 1 + c := by omega
      rw [List.drop_eq_getElem_cons hi, List.cons.injEq] at hd
      have hth1 : th[i].2 = ((R : Int), 1, ((R % 256 : Nat) : Int), false, xb) := by rw [hd.1, f1]
      rcases c1_step (W := W) (R := R) (N := N) (at_ := at_) (i := i) (S := S) (idx := R) (T := T) (nS := nS) (row := 0) (now := now) (A := A) (M := M) (bk := bk) (later := []) (lost := []) (got := got) (tm := tm) (picks := [((2 * c : Nat) : Int)]) (body := fun _ => xb) hW (by omega) (by omega)
        (fun k x hx => by rw [em] at hx; cases hx) (em _) (fun _ => by show (1 : Nat) ≤ 240; omega) (fun x hx => by simp only [List.mem_singleton] at hx; subst hx; omega) (by omega) (by omega) hg (by omega) hn0 hn1 hi hth hth1 (by omega) (by omega) (by rw [hd.1, f1]; simp only; omega) with ⟨h1, -⟩ | ⟨R', M', ms, p, at', tk, p1, p2, p3, p4, e1⟩
      · omega
      · obtain ⟨t1, t2, t3⟩ := took_one tk em
        have hp : p = 2 * c := p4 (2 * c) rfl
        subst t1; subst hp
        rw [if_neg (by omega)] at e1
        have e2 : now + 1 + ((2 * c / 2 % 4 : Nat) : Int) = s R + 2 + 2 * c := by omega
        rw [e2] at e1
        obtain ⟨R2, M2, bk2, at2, got2, later2, g1, g2, g3, g4, g5, g6, g7, g8, g9, g10, g11⟩ := ih (i + 1) (R + 1) M' (bk ++ [(s R + 2 + 2 * c, ((R + 1 : Nat) : Int), 2, (((R + 1) % 256 : Nat) : Int), false, ms)]) at' (got ++ (List.range' R (R + 1 - R)).map fun _ => xb) hd.2 f2 (by omega) t2 (ha.snoc hb tk.sz t3) (by simp only [List.length_append, List.length_cons, List.length_nil]; omega) (fun j h1 h2 => hl j (by omega) h2) (by simp only [List.length_append, List.length_map, List.length_range']; omega) (by omega)
        refine ⟨R2, M2, bk2, at2, got2, later2, ?_, by omega, g3, g4, g5, g6, g7, g8, fun j h1 h2 => ?_, by simp only [List.length_cons]; omega, g11⟩
        · rw [loop_step e1]; exact g1
        · by_cases hj : j = R
          · subst hj; exact hnow
          · exact g9 j (by omega) h2
theorem come2L {W N S R c : Nat} {T nS now : Int} {s : Nat → Int} {M : MP} {th bk : List FL} {at_ : Nat} {got : List ByteArray} {tm : List Int} (hc : c < 4) (hW : W ≤ 128) (hN : N ≤ 100000) (hRS : R ≤ S) (hbk : bk.length < 1099511627776)
    (mono : ∀ i j, i ≤ j → j < S → s i ≤ s j) : ∀ (l : List FL) (i : Nat) (A : List RE),
    bk.drop i = l → AnL s c (fr A) l → fr A + l.length = R → Inv W A S → A.length = N → (∀ p (h : p < A.length), A[p].2.2 = true → p < fr A) →
    ∃ A' later', loop (f_foghornlaw28_link_come.s2 [((2 * c : Nat) : Int)] now) (lst W T nS A R M th bk at_ [] 0 N got tm [] i) = some (.inl ((W : Int), (W : Int), T, nS, (fr A' : Int), vw A' (fr A'), (W : Int), (R : Nat), M, th, bk, (at_ : Nat), ([] : LS), (0 : Int), (fr A' : Int), (N : Int), got, false, tm, later')) ∧
      Inv W A' S ∧ A'.length = N ∧ (∀ p (h : p < A.length) (h' : p < A'.length), A'[p].1 = A[p].1 ∧ A'[p].2.1 = A[p].2.1) ∧ (∀ p (h : p < A'.length), A'[p].2.2 = true → p < fr A') ∧ fr A ≤ fr A' ∧ AnL s c (fr A') later' ∧ fr A' + later'.length = R ∧
      (∀ j, fr A' ≤ j → j < R → now < s j + 2 + 2 * c) ∧ (∀ j, fr A ≤ j → j < fr A' → s j + 2 + 2 * c ≤ now) := by
  intro l
  induction l with
  | nil =>
    intro i A hd ha hR hI hA hans
    have hi : ¬ i < bk.length := fun hi => by rw [List.drop_eq_getElem_cons hi] at hd; cases hd
    simp only [List.length_nil] at hR
    refine ⟨A, [], loop_done ?_, hI, hA, fun p h h' => ⟨rfl, rfl⟩, hans, Nat.le_refl _, fun i hi => by simp at hi, by simpa using hR, fun j h1 h2 => by omega, fun j h1 h2 => by omega⟩
    simp only [f_foghornlaw28_link_come.s2, f_foghornlaw28_link_come.s2c, lst]
    rw [if_neg (by rw [decide_eq_true_eq]; omega)]
  | cons f l ih =>
    intro i A hd ha hR hI hA hans
    simp only [List.length_cons] at hR
    have hi : i < bk.length := by
      rcases Nat.lt_or_ge i bk.length with h1 | h1
      · exact h1
      · rw [List.drop_eq_nil_of_le h1] at hd; cases hd
    obtain ⟨⟨ms, m1, m2, f1⟩, f2⟩ := ha.tail
    have hSl := hI.Sl
    by_cases hlate : now < s (fr A) + 2 + 2 * c
    · have all : ∀ j, fr A ≤ j → j < R → now < s j + 2 + 2 * c := fun j h1 h2 => by have := mono (fr A) j h1 (by omega); omega
      have := lateL2 (W := W) (N := N) (R := R) (T := T) (nS := nS) (now := now) (A := A) (M := M) (th := th) (at_ := at_) (lost := []) (row := 0) (got := got) (tm := tm) (picks := [((2 * c : Nat) : Int)]) hbk (f :: l) i [] hd (ha.late (by simpa using hR) all) (by simp only [List.length_nil, List.length_cons]; omega)
      exact ⟨A, _, this, hI, hA, fun p h h' => ⟨rfl, rfl⟩, hans, Nat.le_refl _, by simpa using ha, by simpa using hR, all, fun j h1 h2 => by omega⟩
    · rw [List.drop_eq_getElem_cons hi, List.cons.injEq] at hd
      have hb1 : bk[i].2 = (((fr A + 1 : Nat) : Int), 2, (((fr A + 1) % 256 : Nat) : Int), false, ms) := by rw [hd.1, f1]
      rcases c2_step (W := W) (R := R) (N := N) (at_ := at_) (i := i) (S := S) (a := fr A + 1) (T := T) (nS := nS) (row := 0) (now := now) (A := A) (M := M) (th := th) (later := []) (lost := []) (got := got) (tm := tm) (picks := [((2 * c : Nat) : Int)]) hI hA hN hW (by omega) m1 hi hbk hb1 (by rw [hd.1, f1]; simp only; omega) with ⟨h1, -⟩ | ⟨B, b1, b2, b3, b4, b5, b6, e1⟩
      · omega
      · have hB : fr B = fr A + 1 := by
          have hle := fr_le B
          rcases Nat.lt_or_ge (fr A + 1) (fr B) with h1 | h1
          · exfalso
            have h2 := (fr_spec B).1 (fr A + 1) (by omega) h1
            rcases b6 (fr A + 1) (by omega) (by omega) h2 with h3 | h3 | ⟨m, h3, h4, h5⟩
            · have := hans _ (by omega) h3; omega
            · omega
            · rw [m2 m h3] at h4; cases h4
          · omega
        have hansB : ∀ p (h : p < B.length), B[p].2.2 = true → p < fr B := by
          intro p hp h2
          rcases b6 p (by omega) hp h2 with h3 | h3 | ⟨m, h3, h4, h5⟩
          · have := hans _ (by omega) h3; omega
          · omega
          · rw [m2 m h3] at h4; cases h4
        obtain ⟨A', later', g1, g2, g3, g4, g5, g6, g7, g8, g9, g10⟩ := ih (i + 1) B hd.2 (by rw [hB]; exact f2) (by omega) b1 (by omega) hansB
        refine ⟨A', later', by rw [loop_step e1]; exact g1, g2, g3, fun p h h' => ?_, g5, by omega, g7, g8, g9, fun j h1 h2 => ?_⟩
        · obtain ⟨x1, x2⟩ := g4 p (by omega) h'
          obtain ⟨x3, x4⟩ := b5 p h (by omega)
          exact ⟨x1.trans x3, x2.trans x4⟩
        · by_cases hj : j = fr A
          · subst hj; omega
          · exact g10 j (by omega) h2
def tmf (N S : Nat) : List Int := (List.range N).map fun i => if i < S then 1 else 0
theorem tmf_len (N S : Nat) : (tmf N S).length = N := by simp [tmf]
theorem tmf_gt {N S i : Nat} (h : i < N) : gt (tmf N S) (i : Int) = if i < S then 1 else 0 := by
  rw [gt_nat (by rw [tmf_len]; exact h)]; simp [tmf]
theorem tmf_set {N S : Nat} (h : S < N) : (tmf N S).set S 1 = tmf N (S + 1) := by
  refine List.ext_getElem (by simp [tmf]) fun i h1 h2 => ?_
  rw [List.getElem_set]
  by_cases hi : S = i
  · subst hi; simp [tmf]
  · rw [if_neg hi]
    simp only [tmf, List.getElem_map, List.getElem_range]
    by_cases h3 : i < S
    · rw [if_pos h3, if_pos (by omega)]
    · rw [if_neg h3, if_neg (by omega)]
theorem filter_range {K : Nat} : ∀ n, (List.range n).filter (fun j => decide (K ≤ j)) = List.range' K (n - K) := by
  intro n
  induction n with
  | zero => simp
  | succ n ih =>
    rw [List.range_succ, List.filter_append, ih]
    by_cases h : K ≤ n
    · rw [show n + 1 - K = (n - K) + 1 by omega, List.range'_concat]
      simp only [List.filter_cons, h, decide_true, if_true, List.filter_nil, Nat.one_mul]
      rw [show K + (n - K) = n by omega]
    · rw [show n + 1 - K = n - K by omega]
      simp [List.filter_cons, h]

theorem sendL {W N S0 F c : Nat} {T nS now : Int} {s : Nat → Int} {A : List RE} {R : Nat} {M : MP} {bk : List FL} {got : List ByteArray} {q : List FR × Int × Int × Int × Int × Int × List CE}
    (hc : c < 4) (hN : N ≤ 100000) (hn0 : 0 ≤ now) (hn1 : now < 1099511627776) (hiq : q.1.length ≤ 128) : ∀ (k i S : Nat) (th : List FL) (at_ : Nat),
    q.1.drop i = (List.range' (S - fr A) k).map (fm (fr A) (fun _ => xb)) → fr A ≤ S → S + k ≤ N → S + k ≤ fr A + 128 → R + th.length = S → FlL s c R th → (∀ j, S ≤ j → j < S + k → s j = now) → at_ + k < 1099511627776 →
    ∃ th' at', loop (f_foghornlaw28_link_tick.s1 [((2 * c : Nat) : Int)] now q) (tst W T nS A R M th bk at_ [] 0 N got (tmf N S) i) = some (.inl (tdn W T nS A R M th' bk at' [] 0 N got (tmf N (S + k)))) ∧
      R + th'.length = S + k ∧ FlL s c R th' ∧ at' ≤ at_ + k := by
  intro k
  induction k with
  | zero =>
    intro i S th at_ hd hF hSN hSF hR hf hs hat
    have hi : ¬ i < q.1.length := fun hi => by rw [List.drop_eq_getElem_cons hi] at hd; cases hd
    refine ⟨th, at_, loop_done ?_, hR, hf, by omega⟩
    simp only [f_foghornlaw28_link_tick.s1, f_foghornlaw28_link_tick.s1c, tst]
    rw [if_neg (by rw [decide_eq_true_eq]; omega)]
    rfl
  | succ k ih =>
    intro i S th at_ hd hF hSN hSF hR hf hs hat
    rw [List.range'_succ, List.map_cons] at hd
    have hi : i < q.1.length := by
      rcases Nat.lt_or_ge i q.1.length with h1 | h1
      · exact h1
      · rw [List.drop_eq_nil_of_le h1] at hd; cases hd
    rw [List.drop_eq_getElem_cons hi, List.cons.injEq] at hd
    obtain ⟨d1, d2⟩ := hd
    have hgl : gl ([] : LS) (fr A + (S - fr A)) = 0 := by simp [gl, mget_nil]
    obtain ⟨p, at', q1, q2, q3, q5, q4⟩ := t_step (W := W) (R := R) (M := M) (T := T) (nS := nS) (row := 0) (bk := bk) (got := got) (A := A) (th := th) (at_ := at_) (lost := []) (tm := tmf N S) (picks := [((2 * c : Nat) : Int)]) (N := N) (now := now) (q := q) (i := i) (j := S - fr A) (b := xb) hN (by omega) (by omega)
      (fun x hx => by simp only [List.mem_singleton] at hx; subst hx; omega) (by omega) (by omega) (by rw [hgl]; omega) hn0 hn1 (tmf_len _ _) hiq hi (by rw [d1]; rfl)
    have hp : p = 2 * c := q5 (2 * c) rfl
    subst hp
    rw [if_neg (by omega), if_neg (by omega)] at q4
    have e1 : fr A + (S - fr A) = S := by omega
    rw [e1, tmf_gt (by omega), if_neg (by omega), show IntKind.i64.wrap (0 + 1) = 1 from by decide, tmf_set (by omega)] at q4
    have e2 : now + 1 + ((2 * c / 2 % 4 : Nat) : Int) = s S + 1 + c := by rw [hs S (Nat.le_refl _) (by omega)]; omega
    rw [e2] at q4
    have hf' : FlL s c R (th ++ [(s S + 1 + c, (S : Int), 1, ((S % 256 : Nat) : Int), false, xb)]) := by
      intro m hm
      simp only [List.length_append, List.length_cons, List.length_nil] at hm
      by_cases hl : m < th.length
      · rw [List.getElem_append_left hl]; exact hf m hl
      · have : m = th.length := by omega
        subst this
        rw [List.getElem_append_right (by omega)]
        simp only [Nat.sub_self, List.getElem_cons_zero]
        rw [hR]
    obtain ⟨th', at2, g1, g2, g3, g4⟩ := ih (i + 1) (S + 1) _ at' (by rw [d2, show S + 1 - fr A = S - fr A + 1 by omega]) (by omega) (by omega) (by omega) (by simp only [List.length_append, List.length_cons, List.length_nil]; omega) hf' (fun j h1 h2 => hs j (by omega) (by omega)) (by omega)
    exact ⟨th', at2, by rw [loop_step q4, g1, show S + 1 + k = S + (k + 1) by omega], by omega, g3, by omega⟩
structure LN (W N : Nat) (c : Nat) (s : Nat → Int) (now : Int) (A : List RE) (S R : Nat) (M : MP) (th bk : List FL) (at_ : Nat) (got : List ByteArray) : Prop where
  inv : Inv W A S
  AN : A.length = N
  bod : ∀ p (h : p < A.length), A[p].1 = xb
  atE : ∀ p (h : p < A.length), p < S → A[p].2.1 = s p
  ans : ∀ p (h : p < A.length), A[p].2.2 = true → p < fr A
  em : ∀ k : Int, mget M k = none
  FR : fr A ≤ R
  RS : R ≤ S
  thL : R + th.length = S
  thE : FlL s c R th
  bkL : fr A + bk.length = R
  bkE : AnL s c (fr A) bk
  mono : ∀ i j, i ≤ j → j < S → s i ≤ s j
  fth : ∀ i, R ≤ i → i < S → now ≤ s i + 1 + c
  fbk : ∀ i, fr A ≤ i → i < R → now ≤ s i + 2 + 2 * c
  s0 : ∀ i, i < S → 0 ≤ s i ∧ s i ≤ now ∧ s i ≤ 9 * i
  pr : fr A = S → now ≤ 9 * S
  atB : (at_ : Int) ≤ 1000 * now
  gotL : got.length = R
theorem tickL {W N c : Nat} {T nS now : Int} {s : Nat → Int} {A : List RE} {S R : Nat} {M : MP} {th bk : List FL} {at_ : Nat} {got : List ByteArray}
    (h : LN W N c s now A S R M th bk at_ got) (hc : c < 4) (hF : fr A < N) (hT : 9 ≤ T) (hT2 : T < 1099511627776) (hN : N ≤ 300) (hW1 : 1 ≤ W) (hW : W ≤ 128) (hn0 : 0 ≤ now) (hn1 : now < 100000) (hnS : nS ≤ now) :
    ∃ (s' : Nat → Int) (A' : List RE) (S' R' : Nat) (M' : MP) (th' bk' : List FL) (at' : Nat) (got' : List ByteArray), f_foghornlaw28_link_tick (W : Int) (some ((W : Int), T, nS, (fr A : Int), vw A (fr A))) (some ((W : Int), (R : Int), M)) th bk [((2 * c : Nat) : Int)] (at_ : Int) [] 0 (fr A : Int) (N : Int) got false (tmf N S) now =
        some (true, ((W : Int), some ((W : Int), T, now, (fr A' : Int), vw A' (fr A')), some ((W : Int), (R' : Int), M'), th', bk', [((2 * c : Nat) : Int)], (at' : Int), [], 0, (fr A' : Int), (N : Int), got', false, tmf N S')) ∧
      LN W N c s' (now + 1) A' S' R' M' th' bk' at' got' := by
  have hAN := h.AN; have hFR := h.FR; have hRS := h.RS; have hthL := h.thL; have hbkL := h.bkL; have hSl := h.inv.Sl; have hSw := h.inv.Sw; have hatB := h.atB
  obtain ⟨n, hn⟩ : ∃ n, n = min W (A.length - fr A) := ⟨_, rfl⟩
  have ht := TickC_ok (W := W) (T := T) (n := nS) (F := (fr A : Int)) (now := now) (A := A) rfl (by omega) hW hnS hn0
  obtain ⟨i1, i2⟩ := h.inv.tick (now := now) (wait := T) hn0
  obtain ⟨A1, hA1⟩ : ∃ A1, A1 = TA now T (fr A) (min W (A.length - fr A)) A := ⟨_, rfl⟩
  rw [← hA1] at i1 i2 ht
  have hA1l : A1.length = A.length := by rw [hA1]; exact TA_len
  rw [← hn] at i1 ht
  -- who is left out
  have hskip : ∀ p (hp : p < A.length), fr A ≤ p → skip now T A[p] = decide (p < S) := by
    intro p hp hfp
    have hun : A[p].2.2 = false := by
      cases hx : A[p].2.2 with
      | false => rfl
      | true => have := h.ans p hp hx; omega
    unfold skip
    rw [hun, Bool.false_or]
    by_cases hpS : p < S
    · have e := h.atE p hp hpS
      have hs := h.s0 p hpS
      have hage : now - s p < T := by
        by_cases hpR : p < R
        · have := h.fbk p hfp hpR; omega
        · have := h.fth p (by omega) hpS; omega
      rw [e, w64 (by omega) (by omega)]
      simp only [hpS, decide_true, Bool.and_eq_true, decide_eq_true_eq]
      exact ⟨hs.1, hage⟩
    · have : ¬ 0 ≤ A[p].2.1 := fun hx => hpS ((h.inv.sent p hp).1 hx)
      simp [this, hpS]
  have hA1at : ∀ p (hp : p < A.length) (hq : p < A1.length), A1[p] = if S ≤ p ∧ p < fr A + n then (A[p].1, now, A[p].2.2) else A[p] := by
    intro p hp hq
    simp only [hA1]
    rw [TA_at hp (by rw [TA_len]; exact hp), ← hn]
    by_cases hfp : fr A ≤ p
    · rw [hskip p hp hfp]
      by_cases hpS : p < S
      · rw [if_neg (by simp [hpS]), if_neg (by omega)]
      · by_cases hpn : p < fr A + n
        · rw [if_pos (by simp only [hfp, hpn, hpS, decide_true, decide_false, Bool.not_false, Bool.and_self]), if_pos (by omega)]
        · rw [if_neg (by simp [hpn]), if_neg (by omega)]
    · rw [if_neg (by simp [hfp]), if_neg (by omega)]
  -- what is sent
  have hTO := TO_js (now := now) (T := T) (F := fr A) (A := A) (body := fun _ => xb) h.bod n (by omega)
  have hjs : (List.range n).filter (fun j => !skip now T (gt A ((fr A + j : Nat) : Int))) = List.range' (S - fr A) (n - (S - fr A)) := by
    rw [← filter_range]
    refine List.filter_congr fun j hj => ?_
    rw [List.mem_range] at hj
    rw [gt_nat (show fr A + j < A.length by omega), hskip _ (by omega) (by omega)]
    by_cases h1 : fr A + j < S
    · simp only [h1, decide_true, Bool.not_true]; symm; rw [decide_eq_false_iff_not]; omega
    · simp only [h1, decide_false, Bool.not_false]; symm; rw [decide_eq_true_eq]; omega
  rw [hjs] at hTO
  obtain ⟨s', hs'⟩ : ∃ s' : Nat → Int, s' = fun i => if i < S then s i else now := ⟨_, rfl⟩
  have hs1 : ∀ i, i < S → s' i = s i := fun i hi => by rw [hs']; simp only [hi, if_true]
  have hs2 : ∀ i, S ≤ i → s' i = now := fun i hi => by rw [hs']; simp only; rw [if_neg (by omega)]
  obtain ⟨q, hq⟩ : ∃ q : List FR × Int × Int × Int × Int × Int × List CE, q = (TO now T (fr A) A n, 0, (W : Int), T, now, (fr A : Int), vw A1 (fr A)) := ⟨_, rfl⟩
  rw [← hq] at ht
  have hq1 : q.1 = TO now T (fr A) A n := by rw [hq]
  have hq2 : q.2.1 = 0 := by rw [hq]
  have hq3 : q.2.2 = ((W : Int), T, now, (fr A : Int), vw A1 (fr A)) := by rw [hq]
  have hql : q.1.length ≤ n := by rw [hq1]; exact TO_len _ _ _ _ _
  obtain ⟨th1, at1, e1, e2, e3, e4⟩ := sendL (W := W) (N := N) (S0 := S) (F := fr A) (c := c) (T := T) (nS := now) (now := now) (s := s') (A := A1) (R := R) (M := M) (bk := bk) (got := got) (q := q) hc (by omega) hn0 (by omega) (by omega) (n - (S - fr A)) 0 S th at_
    (by rw [hq1, hTO, i2]; rfl) (by omega) (by omega) (by omega) hthL (h.thE.cong fun j h1 h2 => hs1 j (by omega)) (fun j h1 _ => hs2 j h1) (by omega)
  obtain ⟨S', hS'⟩ : ∃ S', S' = S + (n - (S - fr A)) := ⟨_, rfl⟩
  rw [← hS'] at e1 e2
  have hS2 : S' = fr A + n := by omega
  have mono' : ∀ i j, i ≤ j → j < S' → s' i ≤ s' j := by
    intro i j hij hj
    by_cases hjS : j < S
    · rw [hs1 i (by omega), hs1 j hjS]; exact h.mono i j hij hjS
    · rw [hs2 j (by omega)]
      by_cases hiS : i < S
      · rw [hs1 i hiS]; exact (h.s0 i hiS).2.1
      · rw [hs2 i (by omega)]; exact Int.le_refl _
  have hfth' : ∀ j, R ≤ j → j < S' → now ≤ s' j + 1 + c := by
    intro j h1 h2
    by_cases hjS : j < S
    · rw [hs1 j hjS]; exact h.fth j h1 hjS
    · rw [hs2 j (by omega)]; omega
  -- what comes in
  rw [← hS2] at i1
  obtain ⟨R', M', bk1, at', got', later1, g1, g2, g3, g4, g5, g6, g7, g8, g9, g10, g11⟩ := come1L (W := W) (N := N) (S := S') (F := fr A) (c := c) (T := T) (nS := now) (now := now) (s := s') (A := A1) (th := th1) (tm := tmf N S') hc hW (by omega) (by omega) (by omega) (by omega) hn0 (by omega) mono' th1 0 R M bk at1 got rfl e3 (by omega) h.em
    (h.bkE.cong fun j h1 h2 => hs1 j (by omega)) hbkL hfth' h.gotL (by omega)
  have hansA1 : ∀ p (hp : p < A1.length), A1[p].2.2 = true → p < fr A1 := by
    intro p hp hx
    rw [hA1at p (by omega) hp] at hx
    rw [i2]
    refine h.ans p (by omega) ?_
    revert hx; split <;> exact id
  obtain ⟨A', later2, k1, k2, k3, k4, k5, k6, k7, k8, k9, k10⟩ := come2L (W := W) (N := N) (S := S') (R := R') (c := c) (T := T) (nS := now) (now := now) (s := s') (M := M') (th := later1) (bk := bk1) (at_ := at') (got := got') (tm := tmf N S') hc hW (by omega) (by omega) (by omega) mono' bk1 0 A1 rfl (by rw [i2]; exact g6) (by omega) i1 (by omega) hansA1
  refine ⟨s', A', S', R', M', later1, later2, at', got', ?_, ?_⟩
  · unfold f_foghornlaw28_link_tick
    simp only [Option.bind_some]
    refine bnd_eq ht ?_
    have hcond : ¬ (((q.2.1 != (0 : Int)) || (decide ((W : Int) < (q.1.length : Int)))) = true) := by
      rw [hq2]; simp only [bne_self_eq_false, Bool.false_or, decide_eq_true_eq]; omega
    have hinit : ((W : Int), q.2.2.1, q.2.2.2.1, q.2.2.2.2.1, q.2.2.2.2.2.1, q.2.2.2.2.2.2, (W : Int), (R : Int), M, th, bk, (at_ : Int), ([] : LS), (0 : Int), (fr A : Int), (N : Int), got, false, tmf N S, (0 : Int)) = tst W T now A1 R M th bk at_ [] 0 N got (tmf N S) 0 := by
      rw [hq3, tst, i2]; rfl
    rw [if_neg hcond, hinit]
    refine bnd_eq e1 ?_
    unfold f_foghornlaw28_link_come
    exact bnd_eq (bnd_eq rfl (bnd_eq rfl (bnd_eq g1 (bnd_eq k1 rfl)))) rfl
  · have hlast : ∀ j, fr A ≤ j → j < fr A' → s' j + 2 + 2 * c ≤ now := fun j h1 h2 => k10 j (by omega) h2
    have hs0' : ∀ i, i < S' → 0 ≤ s' i ∧ s' i ≤ now ∧ s' i ≤ 9 * i := by
      intro i hi
      by_cases hiS : i < S
      · rw [hs1 i hiS]; exact h.s0 i hiS
      · rw [hs2 i (by omega)]
        refine ⟨hn0, Int.le_refl _, ?_⟩
        by_cases hFS : fr A = S
        · have := h.pr hFS; omega
        · have h9 := (h.s0 (fr A) (by omega)).2.2
          by_cases hFR' : fr A < R
          · have := h.fbk (fr A) (Nat.le_refl _) hFR'; omega
          · have := h.fth (fr A) (by omega) (by omega); omega
    refine ⟨k2, k3, fun p hp => ?_, fun p hp hpS => ?_, k5, g5, by omega, by omega, g3, g4, k8, k7, mono', fun i h1 h2 => ?_, fun i h1 h2 => ?_, fun i hi => ?_, fun hx => ?_, by omega, g11⟩
    · rw [(k4 p (by omega) hp).1, hA1at p (by omega) (by omega)]
      split
      · exact h.bod p (by omega)
      · exact h.bod p (by omega)
    · rw [(k4 p (by omega) hp).2, hA1at p (by omega) (by omega)]
      by_cases hpS2 : p < S
      · rw [if_neg (by omega), hs1 p hpS2]; exact h.atE p (by omega) hpS2
      · rw [if_pos (by omega), hs2 p (by omega)]
    · have := g8 i h1 h2; omega
    · have := k9 i h1 h2; omega
    · have := hs0' i hi; omega
    · have hx2 := (hs0' (S' - 1) (by omega)).2.2
      have hx1 : now ≤ s' (S' - 1) + 2 + 2 * c := by
        by_cases hj : S' - 1 < R
        · rw [hs1 _ (by omega)]; exact h.fbk _ (by omega) hj
        · have := hfth' (S' - 1) (by omega) (by omega); omega
      omega

/-! ### The whole -/
def XA (n : Nat) : List RE := List.replicate n (xb, (-1 : Int), false)
theorem XA_len (n : Nat) : (XA n).length = n := by simp [XA]
theorem XA_at {n p : Nat} (h : p < (XA n).length) : (XA n)[p] = (xb, (-1 : Int), false) := by simp [XA]
theorem XA_fr (n : Nat) : fr (XA n) = 0 := fr_unique (by omega) (fun p hp h => by omega) (fun h => by rw [XA_at])
theorem XA_succ (n : Nat) : XA (n + 1) = XA n ++ [(xb, (-1 : Int), false)] := by simp [XA, List.replicate_succ']
theorem LN_start {W N c : Nat} : LN W N c (fun _ => 0) 0 (XA N) 0 0 [] [] [] 0 [] := by
  have hf := XA_fr N
  have hl := XA_len N
  refine ⟨⟨by omega, by omega, by omega, fun p hp => ?_, fun p hp ha => ?_⟩, hl, fun p hp => by rw [XA_at], fun p hp h => by omega, fun p hp ha => ?_, fun k => mget_nil _, by omega, Nat.le_refl _, rfl, fun i hi => by simp at hi, by rw [hf]; rfl, fun i hi => by simp at hi, fun i j _ h => by omega, fun i _ h => by omega, fun i _ h => by omega, fun i h => by omega, fun _ => by simp, by simp, rfl⟩
  · rw [XA_at]; simp
  · rw [XA_at] at ha; simp at ha
  · rw [XA_at] at ha; simp at ha
theorem late_ok : ∀ x : Fin 256, ∃ c : Fin 4, iand .u8 (iandn .u8 (x.val : Int) 1) 7 = ((2 * c.val : Nat) : Int) := by decide +kernel
def lb : ByteArray := ByteArray.mk #[108, 97, 115, 116]
/-- the last message: when it was sent last, ahead of the tick 'i' -/
def la (st T : Int) (i : Nat) : Int := if i = 0 then -1 else if (i : Int) ≤ T then st else if (i : Int) ≤ 2 * T then st + T else st + 2 * T
theorem frL {A : List RE} {N : Nat} (hA : A.length = N) (hf : fr A = N) (x : Int) : fr (A ++ [(lb, x, false)]) = N := by
  refine fr_unique (by simp; omega) (fun p hp h => ?_) (fun h => ?_)
  · rw [List.getElem_append_left (by omega)]; exact (fr_spec A).1 p (by omega) (by omega)
  · rw [List.getElem_append_right (by omega)]; simp [hA]
theorem lastL {W : Nat} {T nS : Int} {A : List RE} {N : Nat} (hA : A.length = N) (hf : fr A = N) (hN : N ≤ 300) (hW1 : 1 ≤ W) (hW : W ≤ 128) (hT : 9 ≤ T) (hT2 : T ≤ 40) {st : Int} (h0 : 0 ≤ st) (h1 : st ≤ 100000) {i : Nat} (hi : (i : Int) ≤ 2 * T) (hn : nS ≤ st + i) :
    ∃ l : List FR, f_again_Sender_Tick (W : Int) T nS (N : Int) (vw (A ++ [(lb, la st T i, false)]) N) (st + i) = some (l, 0, (W : Int), T, st + i, (N : Int), vw (A ++ [(lb, la st T (i + 1), false)]) N) ∧ l.length ≤ 1 ∧ ((l.length : Int) == 1) = ((i : Int).tmod T == 0) := by
  have hl : (A ++ [(lb, la st T i, false)]).length = N + 1 := by simp [hA]
  have ht := TickC_ok (W := W) (T := T) (n := nS) (F := (N : Int)) (now := st + i) (A := A ++ [(lb, la st T i, false)]) (by rw [frL hA hf]) (by omega) hW hn (by omega)
  rw [frL hA hf] at ht
  have hmin : min W ((A ++ [(lb, la st T i, false)]).length - N) = 1 := by omega
  rw [hmin] at ht
  have hg : gt (A ++ [(lb, la st T i, false)]) ((N + 0 : Nat) : Int) = (lb, la st T i, false) := by
    rw [gt_nat (by omega), List.getElem_append_right (by omega)]; simp [hA]
  have hTO : TO (st + i) T N (A ++ [(lb, la st T i, false)]) 1 = if skip (st + i) T (lb, la st T i, false) = true then [] else [(1, (((N + 0) % 256 : Nat) : Int), false, lb)] := by
    simp only [TO, hg]; rfl
  have hTA : TA (st + i) T N 1 (A ++ [(lb, la st T i, false)]) = A ++ [(lb, if skip (st + i) T (lb, la st T i, false) = true then la st T i else st + i, false)] := by
    refine List.ext_getElem (by rw [TA_len]; simp) fun p h1 h2 => ?_
    rw [TA_len] at h1
    rw [TA_at h1 (by rw [TA_len]; exact h1)]
    by_cases hp : p < N
    · rw [if_neg (by simp; omega), List.getElem_append_left (by omega), List.getElem_append_left (by omega)]
    · have hpN : p = N := by omega
      subst hpN
      rw [List.getElem_append_right (by omega), List.getElem_append_right (by omega)]
      simp only [hA, Nat.sub_self, List.getElem_cons_zero]
      by_cases hs : skip (st + i) T (lb, la st T i, false) = true
      · rw [hs]; simp
      · simp only [Bool.not_eq_true] at hs
        rw [hs]; simp
  have hmod : ((i : Int).tmod T == 0) = decide (i = 0 ∨ (i : Int) = T ∨ (i : Int) = 2 * T) := by
    rw [tmodn (by omega), Bool.eq_iff_iff, beq_iff_eq, decide_eq_true_eq]
    constructor
    · intro h
      have hd := Int.emod_add_mul_ediv (i : Int) T
      rw [h] at hd
      have hq0 : 0 ≤ (i : Int) / T := Int.ediv_nonneg (by omega) (by omega)
      have hq2 : (i : Int) / T ≤ 2 := by
        have := Int.ediv_le_ediv (c := T) (by omega) hi
        rwa [Int.mul_ediv_cancel _ (by omega)] at this
      rcases (show (i : Int) / T = 0 ∨ (i : Int) / T = 1 ∨ (i : Int) / T = 2 by omega) with h | h | h
      · rw [h] at hd; omega
      · rw [h] at hd; omega
      · rw [h] at hd; omega
    · rintro (h | h | h)
      · subst h; simp
      · rw [h]; simp
      · rw [h]; simp
  have hsk : skip (st + i) T (lb, la st T i, false) = !decide (i = 0 ∨ (i : Int) = T ∨ (i : Int) = 2 * T) := by
    unfold skip la
    simp only [Bool.false_or]
    by_cases h0' : i = 0
    · rw [if_pos h0']; simp [h0']
    · rw [if_neg h0']
      by_cases hiT : (i : Int) ≤ T
      · rw [if_pos hiT, w64 (by omega) (by omega), Bool.eq_iff_iff]
        simp only [Bool.and_eq_true, decide_eq_true_eq, Bool.not_eq_true', decide_eq_false_iff_not]
        omega
      · rw [if_neg hiT, if_pos hi, w64 (by omega) (by omega), Bool.eq_iff_iff]
        simp only [Bool.and_eq_true, decide_eq_true_eq, Bool.not_eq_true', decide_eq_false_iff_not]
        omega
  have hla : (if skip (st + i) T (lb, la st T i, false) = true then la st T i else st + i) = la st T (i + 1) := by
    rw [hsk]
    by_cases hd : i = 0 ∨ (i : Int) = T ∨ (i : Int) = 2 * T
    · have : la st T (i + 1) = st + i := by
        unfold la
        rw [if_neg (by omega)]
        rcases hd with h | h | h
        · rw [if_pos (by omega)]; omega
        · rw [if_neg (by omega), if_pos (by omega)]; omega
        · rw [if_neg (by omega), if_neg (by omega)]; omega
      rw [this, if_neg (by simp [hd])]
    · have : la st T (i + 1) = la st T i := by
        unfold la
        rw [if_neg (show ¬ i + 1 = 0 by omega), if_neg (show ¬ i = 0 by omega)]
        by_cases hiT : (i : Int) ≤ T
        · rw [if_pos (show ((i + 1 : Nat) : Int) ≤ T by omega), if_pos hiT]
        · rw [if_neg (show ¬ ((i + 1 : Nat) : Int) ≤ T by omega), if_neg hiT, if_pos (show ((i + 1 : Nat) : Int) ≤ 2 * T by omega), if_pos hi]
      rw [this, if_pos (by simp [hd])]
  rw [hTA, hla, hTO] at ht
  refine ⟨_, ht, ?_, ?_⟩
  · split <;> simp
  · rw [hmod, hsk]
    by_cases hd : i = 0 ∨ (i : Int) = T ∨ (i : Int) = 2 * T
    · simp [hd]
    · simp [hd]
theorem lean_true (Wi : Int) (w0 : (Lit.int .i64 Wi).wf = true) (Ti : Int) (w1 : (Lit.int .i64 Ti).wf = true) (Ni : Int) (w2 : (Lit.int .i64 Ni).wf = true)
    (late : Int) (w3 : (Lit.int .u8 late).wf = true) : f_foghornlaw28_AgainLean Wi Ti Ni late = some true := by
  have u64b : ∀ x : Int, 0 ≤ IntKind.u64.wrap x ∧ IntKind.u64.wrap x < 18446744073709551616 := fun x => by simp only [IntKind.wrap, IntKind.bits, IntKind.signed]; simp; omega
  have hl := wf_u8 w3
  obtain ⟨cf, hcf⟩ := late_ok ⟨late.toNat, by omega⟩
  simp only [Int.toNat_of_nonneg hl.1] at hcf
  obtain ⟨c, hc⟩ : ∃ c : Nat, c = cf.val := ⟨_, rfl⟩
  have hc4 : c < 4 := by rw [hc]; exact cf.isLt
  rw [← hc] at hcf
  unfold f_foghornlaw28_AgainLean
  rw [works_ok]
  simp only [Option.bind_some]
  rw [if_neg (by simp)]
  obtain ⟨W, hW⟩ : ∃ W : Nat, IntKind.i64.wrap ((1 : Int) + (IntKind.i64.wrap ((IntKind.u64.wrap Wi).tmod (128 : Int)))) = (W : Int) ∧ 1 ≤ W ∧ W ≤ 128 := by
    have := u64b Wi
    rw [tmodn this.1, w64 (x := IntKind.u64.wrap Wi % 128) (by omega) (by omega), w64 (by omega) (by omega)]
    exact ⟨(1 + IntKind.u64.wrap Wi % 128).toNat, by omega, by omega, by omega⟩
  obtain ⟨T, hT⟩ : ∃ T : Int, IntKind.i64.wrap ((9 : Int) + (IntKind.i64.wrap ((IntKind.u64.wrap Ti).tmod (30 : Int)))) = T ∧ 9 ≤ T ∧ T ≤ 38 := by
    have := u64b Ti
    rw [tmodn this.1, w64 (x := IntKind.u64.wrap Ti % 30) (by omega) (by omega), w64 (by omega) (by omega)]
    exact ⟨_, rfl, by omega, by omega⟩
  obtain ⟨N, hN⟩ : ∃ N : Nat, IntKind.i64.wrap ((IntKind.u64.wrap Ni).tmod (300 : Int)) = (N : Int) ∧ N < 300 := by
    have := u64b Ni
    rw [tmodn this.1, w64 (by omega) (by omega)]
    exact ⟨(IntKind.u64.wrap Ni % 300).toNat, by omega, by omega⟩
  obtain ⟨hW, hW1, hW2⟩ := hW
  obtain ⟨hT, hT1, hT2⟩ := hT
  obtain ⟨hN, hN1⟩ := hN
  have n1 : f_again_NewSender (W : Int) T = some (some ((W : Int), T, 0, 0, []), 0) := by
    unfold f_again_NewSender; rw [if_neg (by simp only [Bool.or_eq_true, decide_eq_true_eq]; omega)]
  have n2 : f_again_NewReceiver (W : Int) = some (some ((W : Int), 0, []), 0) := by
    unfold f_again_NewReceiver; rw [if_neg (by simp only [Bool.or_eq_true, decide_eq_true_eq]; omega)]
  rw [hW, hT, hN, n1, n2, hcf]
  simp only [Option.bind_some]
  rw [if_neg (by simp), if_pos (by omega), Int.toNat_natCast]
  have s1 : loop (f_foghornlaw28_AgainLean.s1 Ni) ((W : Int), T, (0 : Int), (0 : Int), ([] : List CE), (W : Int), (W : Int), (0 : Int), ([] : MP), ([] : List FL), ([] : List FL), [((2 * c : Nat) : Int)], (0 : Int), ([] : LS), (0 : Int), (0 : Int), (N : Int), ([] : List ByteArray), false, List.replicate N (0 : Int), (0 : Int)) =
      some (.inl ((W : Int), T, (0 : Int), (0 : Int), vw (XA N) 0, (W : Int), (W : Int), (0 : Int), ([] : MP), ([] : List FL), ([] : List FL), [((2 * c : Nat) : Int)], (0 : Int), ([] : LS), (0 : Int), (0 : Int), (N : Int), ([] : List ByteArray), false, List.replicate N (0 : Int))) := by
    refine loop_run N (fun i => ((W : Int), T, (0 : Int), (0 : Int), vw (XA i) 0, (W : Int), (W : Int), (0 : Int), ([] : MP), ([] : List FL), ([] : List FL), [((2 * c : Nat) : Int)], (0 : Int), ([] : LS), (0 : Int), (0 : Int), (N : Int), ([] : List ByteArray), false, List.replicate N (0 : Int), (i : Int))) _ (fun i hi => ?_) ?_ rfl
    · simp only [f_foghornlaw28_AgainLean.s1, f_foghornlaw28_AgainLean.s1c]
      rw [hN, if_pos (by rw [decide_eq_true_eq]; omega)]
      have := OfferC (W := (W : Int)) (T := T) (n := 0) (F := 0) (L := vw (XA i) 0) (b := xb) (by show (1 : Nat) ≤ 240; omega) (by rw [vw_len, XA_len]; omega)
      rw [show (ByteArray.mk #[120]) = xb from rfl, this]
      simp only [Option.bind_some]
      rw [if_neg (by simp), w64 (by omega) (by omega), XA_succ]
      have : vw (XA i ++ [(xb, (-1 : Int), false)]) 0 = vw (XA i) 0 ++ [(xb, false, 0, false)] := by simp [vw, cv]
      rw [this]; rfl
    · simp only [f_foghornlaw28_AgainLean.s1, f_foghornlaw28_AgainLean.s1c]
      rw [hN, if_neg (by rw [decide_eq_true_eq]; omega)]
  refine bnd_eq s1 ?_
  have tm0 : List.replicate N (0 : Int) = tmf N 0 := by
    refine List.ext_getElem (by simp [tmf]) fun i h1 h2 => ?_
    simp [tmf]
  rw [tm0]
  have hm1 : IntKind.i64.wrap (IntKind.i64.wrap (20 * (N : Int)) + 20) = ((20 * N + 20 : Nat) : Int) := by
    rw [w64 (x := 20 * (N : Int)) (by omega) (by omega), w64 (by omega) (by omega)]; omega
  have main : ∀ k now : Nat, now + k = 20 * N + 20 → ∀ (nS : Int) (s : Nat → Int) (A : List RE) (S R : Nat) (M : MP) (th bk : List FL) (at_ : Nat) (got : List ByteArray),
      nS ≤ now → LN W N c s now A S R M th bk at_ got →
      ∃ nS' A' y, nS' ≤ ((20 * N + 20 : Nat) : Int) ∧ fr A' = N ∧ A'.length = N ∧ y.2.2.2.2.2.2.2.2.2.2.2.2.2.2 = tmf N N ∧
        loop (f_foghornlaw28_AgainLean.s2 Ni) ((W : Int), T, nS, (fr A : Int), vw A (fr A), (W : Int), (W : Int), (R : Int), M, th, bk, [((2 * c : Nat) : Int)], (at_ : Int), ([] : LS), (0 : Int), (fr A : Int), (N : Int), got, false, tmf N S, (now : Int)) =
          some (.inl ((W : Int), T, nS', (fr A' : Int), vw A' (fr A'), y)) := by
    intro k
    induction k with
    | zero =>
      intro now hk nS s A S R M th bk at_ got hnS h
      have hAN := h.AN
      have hfl := fr_le A
      have hFR := h.FR; have hRS := h.RS; have hSl := h.inv.Sl
      by_cases hF : fr A < N
      · exfalso
        by_cases hFS : fr A = S
        · have := h.pr hFS; omega
        · have h9 := (h.s0 (fr A) (by omega)).2.2
          by_cases hFR' : fr A < R
          · have := h.fbk (fr A) (Nat.le_refl _) hFR'; omega
          · have := h.fth (fr A) (by omega) (by omega); omega
      · have hSN : S = N := by omega
        subst hSN
        refine ⟨nS, A, ((W : Int), (W : Int), (R : Int), M, th, bk, [((2 * c : Nat) : Int)], (at_ : Int), ([] : LS), (0 : Int), (fr A : Int), (S : Int), got, false, tmf S S), by omega, by omega, hAN, rfl, loop_done ?_⟩
        simp only [f_foghornlaw28_AgainLean.s2, f_foghornlaw28_AgainLean.s2c]
        rw [hN, hm1, if_neg (by rw [decide_eq_true_eq]; omega)]
        rfl
    | succ k ih =>
      intro now hk nS s A S R M th bk at_ got hnS h
      have hAN := h.AN
      have hfl := fr_le A
      have hFR := h.FR; have hRS := h.RS; have hSl := h.inv.Sl
      have hz : (if (decide ((now : Int) < ((20 * N + 20 : Nat) : Int))) = true then ((f_again_Sender_Left (W : Int) T nS (fr A : Int) (vw A (fr A))).bind fun q116 => (some (decide ((0 : Int) < q116)))) else (some false)) = some (decide (fr A < N)) := by
        rw [if_pos (by rw [decide_eq_true_eq]; omega), LeftC_ok]
        simp only [Option.bind_some, Option.some.injEq, decide_eq_decide]
        omega
      by_cases hF : fr A < N
      · obtain ⟨s', A', S', R', M', th', bk', at', got', y1, y2⟩ := tickL (nS := nS) h hc4 hF hT1 (by omega) (by omega) hW1 hW2 (by omega) (by omega) hnS
        have y2' : LN W N c s' ((now + 1 : Nat) : Int) A' S' R' M' th' bk' at' got' := by
          have e : ((now + 1 : Nat) : Int) = (now : Int) + 1 := by omega
          rw [e]; exact y2
        have hstep : f_foghornlaw28_AgainLean.s2 Ni ((W : Int), T, nS, (fr A : Int), vw A (fr A), (W : Int), (W : Int), (R : Int), M, th, bk, [((2 * c : Nat) : Int)], (at_ : Int), ([] : LS), (0 : Int), (fr A : Int), (N : Int), got, false, tmf N S, (now : Int)) =
            some (.inl ((W : Int), T, (now : Int), (fr A' : Int), vw A' (fr A'), (W : Int), (W : Int), (R' : Int), M', th', bk', [((2 * c : Nat) : Int)], (at' : Int), ([] : LS), (0 : Int), (fr A' : Int), (N : Int), got', false, tmf N S', ((now + 1 : Nat) : Int))) := by
          simp only [f_foghornlaw28_AgainLean.s2, f_foghornlaw28_AgainLean.s2c]
          rw [hN, hm1]
          refine bnd_eq hz ?_
          rw [if_pos (by rw [decide_eq_true_eq]; exact hF)]
          refine bnd_eq y1 ?_
          simp only [Option.bind_some]
          rw [if_neg (by simp), w64 (by omega) (by omega)]
          rfl
        rw [loop_step hstep]
        exact ih (now + 1) (by omega) now s' A' S' R' M' th' bk' at' got' (by omega) y2'
      · have hSN : S = N := by omega
        subst hSN
        refine ⟨nS, A, ((W : Int), (W : Int), (R : Int), M, th, bk, [((2 * c : Nat) : Int)], (at_ : Int), ([] : LS), (0 : Int), (fr A : Int), (S : Int), got, false, tmf S S), by omega, by omega, hAN, rfl, loop_done ?_⟩
        simp only [f_foghornlaw28_AgainLean.s2, f_foghornlaw28_AgainLean.s2c]
        rw [hN, hm1]
        refine bnd_eq hz ?_
        rw [if_neg (by rw [decide_eq_true_eq]; exact hF)]
  have h0 := main (20 * N + 20) 0 (by omega) 0 (fun _ => 0) (XA N) 0 0 [] [] [] 0 [] (by omega) LN_start
  rw [XA_fr] at h0
  obtain ⟨nS, A, y, g1, g2, g3, g4, h0⟩ := h0
  refine bnd_eq h0 ?_
  simp only [sm]
  have s3 : ∀ q : (Int × Int × Int × Int × (List CE) × Int × Int × Int × MP × (List FL) × (List FL) × (List Int) × Int × LS × Int × Int × Int × (List ByteArray) × Bool × (List Int)),
      q.2.2.2.2.2.2.2.2.2.2.2.2.2.2.2.2.2.2.2 = tmf N N → loop (f_foghornlaw28_AgainLean.s3 Ni q) 0 = some (.inl ()) := by
    intro q hq
    refine loop_run N (fun i => (i : Int)) _ (fun i hi => ?_) ?_ rfl
    · simp only [f_foghornlaw28_AgainLean.s3, f_foghornlaw28_AgainLean.s3c, hq]
      rw [hN, if_pos (by rw [decide_eq_true_eq]; omega), if_pos (by rw [tmf_len]; omega), tmf_gt hi, if_pos hi, if_neg (by simp), w64 (by omega) (by omega)]
      rfl
    · simp only [f_foghornlaw28_AgainLean.s3, f_foghornlaw28_AgainLean.s3c]
      rw [hN, if_neg (by rw [decide_eq_true_eq]; omega)]
  refine bnd_eq (s3 _ g4) ?_
  simp only
  rw [LeftC_ok]
  simp only [Option.bind_some]
  rw [if_neg (by rw [g2, g3]; simp)]
  have hof := OfferC (W := (W : Int)) (T := T) (n := nS) (F := (fr A : Int)) (L := vw A (fr A)) (b := lb) (by show (4 : Nat) ≤ 240; omega) (by rw [vw_len]; omega)
  rw [show (ByteArray.mk #[108, 97, 115, 116]) = lb from rfl, hof]
  simp only [Option.bind_some]
  rw [if_neg (by simp)]
  have hv : vw A (fr A) ++ [(lb, false, (0 : Int), false)] = vw (A ++ [(lb, la ((20 * N + 100 : Nat) : Int) T 0, false)]) N := by
    rw [g2]
    simp only [vw, la, if_true]
    rw [List.drop_append_of_le_length (by omega), List.map_append]
    rfl
  rw [hv, g2]
  have hst : IntKind.i64.wrap (IntKind.i64.wrap (20 * (N : Int)) + 100) = ((20 * N + 100 : Nat) : Int) := by
    rw [w64 (x := 20 * (N : Int)) (by omega) (by omega), w64 (by omega) (by omega)]; omega
  obtain ⟨Tn, hTn⟩ : ∃ Tn : Nat, T = (Tn : Int) := ⟨T.toNat, by omega⟩
  have s4 : ∀ k i : Nat, i + k = 2 * Tn + 1 → ∀ nS : Int, nS ≤ ((20 * N + 100 : Nat) : Int) + i → loop (f_foghornlaw28_AgainLean.s4 Ti Ni) ((W : Int), T, nS, (N : Int), vw (A ++ [(lb, la ((20 * N + 100 : Nat) : Int) T i, false)]) N, (i : Int)) = some (.inl ()) := by
    intro k
    induction k with
    | zero =>
      intro i hi nS hn
      refine loop_done ?_
      simp only [f_foghornlaw28_AgainLean.s4, f_foghornlaw28_AgainLean.s4c]
      rw [hT, w64 (x := 2 * T) (by omega) (by omega), if_neg (by rw [decide_eq_true_eq]; omega)]
    | succ k ih =>
      intro i hi nS hn
      obtain ⟨l, l1, l2, l3⟩ := lastL (W := W) (T := T) (nS := nS) (A := A) (N := N) g3 g2 (by omega) hW1 hW2 hT1 (by omega) (st := ((20 * N + 100 : Nat) : Int)) (by omega) (by omega) (i := i) (by omega) hn
      have hstep : f_foghornlaw28_AgainLean.s4 Ti Ni ((W : Int), T, nS, (N : Int), vw (A ++ [(lb, la ((20 * N + 100 : Nat) : Int) T i, false)]) N, (i : Int)) =
          some (.inl ((W : Int), T, ((20 * N + 100 : Nat) : Int) + i, (N : Int), vw (A ++ [(lb, la ((20 * N + 100 : Nat) : Int) T (i + 1), false)]) N, ((i + 1 : Nat) : Int))) := by
        simp only [f_foghornlaw28_AgainLean.s4, f_foghornlaw28_AgainLean.s4c]
        rw [hT, hN, w64 (x := 2 * T) (by omega) (by omega), if_pos (by rw [decide_eq_true_eq]; omega), hst, w64 (x := ((20 * N + 100 : Nat) : Int) + i) (by omega) (by omega)]
        refine bnd_eq l1 ?_
        rw [if_neg (by simp), if_pos (by omega)]
        simp only [Option.bind_some]
        rw [l3, if_neg (by simp only [bne_self_eq_false, Bool.false_or, decide_eq_true_eq]; omega), w64 (by omega) (by omega)]
        rfl
      rw [loop_step hstep]
      exact ih (i + 1) (by omega) _ (by omega)
  exact bnd_eq (s4 (2 * Tn + 1) 0 (by omega) nS (by omega)) rfl

end Go.Proofs.Ytmdigffgmohcnaa
