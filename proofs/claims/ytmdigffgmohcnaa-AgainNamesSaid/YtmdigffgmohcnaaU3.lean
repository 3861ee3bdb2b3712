/- The plain law of AgainNames: limits, nil objects; closed. -/
import Derived.Test.YtmdigffgmohcnaaG3
import Derived.Test.YtmdigffgmohcnaaGlK
import Derived.Test.YtmdigffgmohcnaaGlW
import Derived.Test.YtmdigffgmohcnaaGlUb
set_option linter.unusedVariables false
set_option linter.unusedSimpArgs false
set_option maxRecDepth 100000
set_option maxHeartbeats 1000000
namespace Go.Proofs.Ytmdigffgmohcnaa
open Go GL
/-! ### Lists changed by place -/
section
variable {α : Type}
def mi (P : Nat → α → Bool) (g : α → α) (A : List α) : List α := A.mapIdx fun p r => if P p r = true then g r else r
variable {P Q : Nat → α → Bool} {g : α → α} {A : List α}
theorem mi_len : (mi P g A).length = A.length := by simp [mi]
theorem mi_get {p : Nat} (h : p < A.length) : (mi P g A)[p]'(by rw [mi_len]; exact h) = if P p A[p] = true then g A[p] else A[p] := by simp [mi]
theorem mi_get? (p : Nat) : (mi P g A)[p]? = (A[p]?).map fun r => if P p r = true then g r else r := by simp [mi]
theorem mi_congr (h : ∀ p r, A[p]? = some r → P p r = Q p r) : mi P g A = mi Q g A := by
  apply List.ext_getElem?
  intro p
  rw [mi_get?, mi_get?]
  cases hp : A[p]? with
  | none => rfl
  | some r => simp only [Option.map_some]; rw [h p r hp]
theorem mi_set {m : Nat} (hm : m < A.length) (h : ∀ p r, A[p]? = some r → p ≠ m → Q p r = P p r) : mi Q g A = (mi P g A).set m (if Q m A[m] = true then g A[m] else A[m]) := by
  apply List.ext_getElem?
  intro p
  rw [mi_get?]
  by_cases hp : m = p
  · subst hp
    rw [List.getElem?_set_self (by rw [mi_len]; exact hm), List.getElem?_eq_getElem hm]; rfl
  · rw [List.getElem?_set_ne hp, mi_get?]
    cases hq : A[p]? with
    | none => rfl
    | some r => simp only [Option.map_some]; rw [h p r hq (Ne.symm hp)]
theorem mi_none (h : ∀ p r, A[p]? = some r → P p r = false) : mi P g A = A := by
  apply List.ext_getElem?
  intro p
  rw [mi_get?]
  cases hp : A[p]? with
  | none => rfl
  | some r => simp only [Option.map_some]; rw [h p r hp]; rfl
theorem gt_set_self [Inhabited α] {X : List α} {j : Nat} (h : j < X.length) (y : α) : gt (X.set j y) (j : Int) = y := by
  rw [gt_nat (by simpa using h)]; simp
end
theorem loop_run {S R : Type} {f : S → Option (S ⊕ R)} (n : Nat) (s : Nat → S) (r : R) (h1 : ∀ i, i < n → f (s i) = some (.inl (s (i + 1)))) (h2 : f (s n) = some (.inr r)) {s0 : S} (h0 : s0 = s 0) : loop f s0 = some r := by
  subst h0
  have : ∀ k i : Nat, i + k = n → loop f (s i) = some r := by
    intro k
    induction k with
    | zero => intro i hi; obtain rfl : i = n := by omega
              exact loop_done h2
    | succ k ih => intro i hi; rw [loop_step (h1 i (by omega))]; exact ih (i + 1) (by omega)
  exact this n 0 (by omega)

theorem bnd_eq {α β : Type} {o : Option α} {a : α} {f : α → Option β} {r : Option β} (h : o = some a) (h2 : f a = r) : o.bind f = r := by subst h; exact h2
theorem tmodn {x : Int} (h : 0 ≤ x) (m : Int) : x.tmod m = x % m := Int.tmod_eq_emod_of_nonneg h
/-! ### What is answered for -/
abbrev RE := ByteArray × Int × Bool
abbrev CE := ByteArray × Bool × Int × Bool
abbrev FR := Int × Int × Bool × ByteArray
def cv (r : RE) : CE := (r.1, decide (0 ≤ r.2.1), if 0 ≤ r.2.1 then r.2.1 else 0, r.2.2)
def vw (A : List RE) (f : Nat) : List CE := (A.drop f).map cv
theorem vw_len {A : List RE} {f : Nat} : (vw A f).length = A.length - f := by simp [vw]
theorem vw_gt {A : List RE} {f j : Nat} (h : f + j < A.length) : gt (vw A f) (j : Int) = cv (A[f + j]) := by
  rw [gt_nat (by rw [vw_len]; omega)]; simp [vw]
theorem vw_set {A : List RE} {f j : Nat} {y : RE} : vw (A.set (f + j) y) f = (vw A f).set j (cv y) := by
  unfold vw
  rw [← List.map_set]
  congr 1
  apply List.ext_getElem?
  intro i
  rw [List.getElem?_drop]
  by_cases h : j = i
  · subst h
    by_cases hl : f + j < A.length
    · rw [List.getElem?_set_self hl, List.getElem?_set_self (by simp; omega)]
    · rw [List.getElem?_eq_none (by simp; omega), List.getElem?_eq_none (by simp; omega)]
  · rw [List.getElem?_set_ne (by omega), List.getElem?_set_ne h, List.getElem?_drop]
theorem vw_drop {A : List RE} {f : Nat} : (vw A f).drop 1 = vw A (f + 1) := by simp [vw]

def fr (A : List RE) : Nat := (A.takeWhile (·.2.2)).length
theorem fr_le (A : List RE) : fr A ≤ A.length := by
  unfold fr
  exact List.IsPrefix.length_le (List.takeWhile_prefix _)
theorem fr_unique {A : List RE} {m : Nat} (hm : m ≤ A.length) (h : ∀ p (hp : p < A.length), p < m → A[p].2.2 = true) (h1 : ∀ (hp : m < A.length), A[m].2.2 = false) : fr A = m := by
  induction A generalizing m with
  | nil => simp at hm; subst hm; rfl
  | cons a A ih =>
    cases m with
    | zero =>
      have := h1 (by simp)
      simp at this
      simp [fr, List.takeWhile_cons, this]
    | succ m =>
      have h0 := h 0 (by simp) (by omega)
      simp at h0
      have := ih (m := m) (by simpa using hm) (fun p hp hpm => by have := h (p + 1) (by simpa using hp) (by omega); simpa using this) (fun hp => by have := h1 (by simpa using hp); simpa using this)
      unfold fr at this ⊢
      rw [List.takeWhile_cons, h0]
      simp [this]
theorem fr_spec (A : List RE) : (∀ p (hp : p < A.length), p < fr A → A[p].2.2 = true) ∧ (∀ (hp : fr A < A.length), A[fr A].2.2 = false) := by
  induction A with
  | nil => exact ⟨fun p hp => by simp at hp, fun hp => by simp at hp⟩
  | cons a A ih =>
    by_cases ha : a.2.2 = true
    · have e : fr (a :: A) = fr A + 1 := by simp [fr, List.takeWhile_cons, ha]
      refine ⟨fun p hp h => ?_, fun hp => ?_⟩
      · cases p with
        | zero => exact ha
        | succ p => have := ih.1 p (by simpa using hp) (by omega); simpa using this
      · have h2 : fr A < A.length := by rw [e] at hp; simpa using hp
        have := ih.2 h2
        simp only [e]
        simpa using this
    · have e : fr (a :: A) = 0 := by simp [fr, List.takeWhile_cons, ha]
      refine ⟨fun p hp h => by omega, fun hp => ?_⟩
      simp only [e]
      simpa using ha
theorem le_fr {A : List RE} {m : Nat} (hm : m ≤ A.length) (h : ∀ p (hp : p < A.length), p < m → A[p].2.2 = true) : m ≤ fr A := by
  rcases Nat.lt_or_ge (fr A) m with h1 | h1
  · have h2 := (fr_spec A).2 (by omega)
    have h3 := h (fr A) (by omega) h1
    rw [h2] at h3; cases h3
  · exact h1
theorem fr_same {A B : List RE} (hl : A.length = B.length) (h : ∀ p (hp : p < A.length) (hq : p < B.length), A[p].2.2 = B[p].2.2) : fr A = fr B := by
  have hs := fr_spec B
  have hb := fr_le B
  refine fr_unique (by omega) (fun p hp hpm => ?_) (fun hp => ?_)
  · rw [h p hp (by omega)]; exact hs.1 p (by omega) hpm
  · rw [h _ hp (by omega)]; exact hs.2 (by omega)

/-- What holds of all messages of a sender: those that were sent are the first ones, no more than the window behind the front. -/
structure Inv (W : Nat) (A : List RE) (S : Nat) : Prop where
  fS : fr A ≤ S
  Sl : S ≤ A.length
  Sw : S ≤ fr A + W
  sent : ∀ p (h : p < A.length), 0 ≤ A[p].2.1 ↔ p < S
  ans : ∀ p (h : p < A.length), A[p].2.2 = true → p < S
theorem Inv.new (W : Nat) : Inv W [] 0 := ⟨by simp [fr], by simp, by simp, fun p h => by simp at h, fun p h => by simp at h⟩
theorem Inv.offer {W : Nat} {A : List RE} {S : Nat} (h : Inv W A S) (b : ByteArray) : Inv W (A ++ [(b, -1, false)]) S ∧ fr (A ++ [(b, -1, false)]) = fr A := by
  have hs := fr_spec A
  have hl := fr_le A
  have e : fr (A ++ [(b, -1, false)]) = fr A := by
    refine fr_unique (by simp; omega) (fun p hp hpm => ?_) (fun hp => ?_)
    · rw [List.getElem_append_left (by omega)]; exact hs.1 p (by omega) hpm
    · rcases Nat.lt_or_ge (fr A) A.length with h1 | h1
      · rw [List.getElem_append_left h1]; exact hs.2 h1
      · rw [List.getElem_append_right (by omega)]; simp
  refine ⟨⟨by rw [e]; exact h.fS, by simp; have := h.Sl; omega, by rw [e]; exact h.Sw, fun p hp => ?_, fun p hp ha => ?_⟩, e⟩
  · rcases Nat.lt_or_ge p A.length with h1 | h1
    · rw [List.getElem_append_left h1]; exact h.sent p h1
    · rw [List.getElem_append_right (by omega)]; have := h.Sl; simp; omega
  · rcases Nat.lt_or_ge p A.length with h1 | h1
    · rw [List.getElem_append_left h1] at ha; exact h.ans p h1 ha
    · rw [List.getElem_append_right (by omega)] at ha; simp at ha
/-! ### Tick -/
def skip (now wait : Int) (r : RE) : Bool := r.2.2 || (decide (0 ≤ r.2.1) && decide (IntKind.i64.wrap (now - r.2.1) < wait))
def TA (now wait : Int) (f j : Nat) (A : List RE) : List RE := mi (fun p r => decide (f ≤ p) && decide (p < f + j) && !skip now wait r) (fun r => (r.1, now, r.2.2)) A
def TO (now wait : Int) (f : Nat) (A : List RE) : Nat → List FR
  | 0 => []
  | j + 1 => if skip now wait (gt A ((f + j : Nat) : Int)) = true then TO now wait f A j else TO now wait f A j ++ [(1, (((f + j) % 256 : Nat) : Int), false, (gt A ((f + j : Nat) : Int)).1)]
theorem TO_len (now wait : Int) (f : Nat) (A : List RE) (j : Nat) : (TO now wait f A j).length ≤ j := by
  induction j with
  | zero => simp [TO]
  | succ j ih =>
    unfold TO
    split
    · omega
    · simp; omega
theorem TA_len {now wait : Int} {f j : Nat} {A : List RE} : (TA now wait f j A).length = A.length := mi_len
theorem TA_at {now wait : Int} {f j p : Nat} {A : List RE} (h : p < A.length) (hp : p < (TA now wait f j A).length) :
    (TA now wait f j A)[p] = if (decide (f ≤ p) && decide (p < f + j) && !skip now wait A[p]) = true then (A[p].1, now, A[p].2.2) else A[p] := mi_get h
theorem TA_zero {now wait : Int} {f : Nat} {A : List RE} : TA now wait f 0 A = A := mi_none fun p r _ => by
  have : ¬ (f ≤ p ∧ p < f + 0) := by omega
  simp; omega
theorem TA_get {now wait : Int} {f j : Nat} {A : List RE} (h : f + j < A.length) : (TA now wait f j A)[f + j]'(by rw [TA_len]; exact h) = A[f + j] := by
  rw [TA_at h]
  simp
theorem TA_succ {now wait : Int} {f j : Nat} {A : List RE} (h : f + j < A.length) : TA now wait f (j + 1) A = if skip now wait A[f + j] = true then TA now wait f j A else (TA now wait f j A).set (f + j) (A[f + j].1, now, A[f + j].2.2) := by
  have := mi_set (P := fun p r => decide (f ≤ p) && decide (p < f + j) && !skip now wait r) (Q := fun p r => decide (f ≤ p) && decide (p < f + (j + 1)) && !skip now wait r) (g := fun r => (r.1, now, r.2.2)) h (fun p r _ hp => by
    by_cases h1 : p < f + j
    · simp [h1, show p < f + (j + 1) by omega]
    · simp [h1, show ¬ p < f + (j + 1) by omega])
  have e : decide (f + j < f + (j + 1)) = true := by simp
  simp only [e, Nat.le_add_right, decide_true, Bool.true_and] at this
  unfold TA
  rw [this]
  by_cases hs : skip now wait A[f + j] = true
  · rw [if_pos hs]
    simp only [hs, Bool.not_true, Bool.false_eq_true, if_false]
    have h2 := TA_get (now := now) (wait := wait) h
    unfold TA at h2
    have h3 : (mi (fun p r => decide (f ≤ p) && decide (p < f + j) && !skip now wait r) (fun r => (r.1, now, r.2.2)) A).set (f + j) A[f + j] = (mi (fun p r => decide (f ≤ p) && decide (p < f + j) && !skip now wait r) (fun r => (r.1, now, r.2.2)) A) := by
      conv => lhs; rw [← h2]
      exact List.set_getElem_self _
    exact h3
  · rw [if_neg hs]
    simp only [Bool.not_eq_true] at hs
    simp only [hs, Bool.not_false, if_true]
theorem Inv.tick {W : Nat} {A : List RE} {S : Nat} (h : Inv W A S) {now wait : Int} (hn : 0 ≤ now) :
    Inv W (TA now wait (fr A) (min W (A.length - fr A)) A) (fr A + min W (A.length - fr A)) ∧ fr (TA now wait (fr A) (min W (A.length - fr A)) A) = fr A := by
  have hl := fr_le A
  have hS := h.Sl; have hw := h.Sw; have hf := h.fS
  have e : fr (TA now wait (fr A) (min W (A.length - fr A)) A) = fr A := by
    refine fr_same TA_len fun p hp hq => ?_
    rw [TA_at hq hp]; split <;> rfl
  refine ⟨⟨by rw [e]; omega, by rw [TA_len]; omega, by rw [e]; omega, fun p hp => ?_, fun p hp ha => ?_⟩, e⟩
  · have hq : p < A.length := by rw [TA_len] at hp; exact hp
    rw [TA_at hq hp]
    have hs := h.sent p hq
    have ha := h.ans p hq
    split
    · rename_i hc
      simp only [Bool.and_eq_true, decide_eq_true_eq] at hc
      simp only [hn, true_iff]; omega
    · rename_i hc
      simp only [Bool.and_eq_true, decide_eq_true_eq, Bool.not_eq_true'] at hc
      by_cases h1 : fr A ≤ p ∧ p < fr A + min W (A.length - fr A)
      · have h2 : skip now wait A[p] = true := by
          cases hk : skip now wait A[p] with
          | true => rfl
          | false => exact absurd ⟨h1, hk⟩ hc
        unfold skip at h2
        rw [hs]
        simp only [Bool.or_eq_true, Bool.and_eq_true, decide_eq_true_eq] at h2
        have : p < S := by
          rcases h2 with h2 | h2
          · exact ha h2
          · exact hs.1 h2.1
        omega
      · rw [hs]; omega
  · have hq : p < A.length := by rw [TA_len] at hp; exact hp
    rw [TA_at hq hp] at ha
    have : A[p].2.2 = true := by revert ha; split <;> exact id
    have := h.ans p hq this
    omega
/-! ### Hear -/
def mk (body : ByteArray) (m : Nat) : Bool := iand .u8 (ishr .u8 (bt body ((m / 8 : Nat) : Int)) ((7 - m % 8 : Nat) : Int)) 1 == 1
def hc (body : ByteArray) (D i : Nat) : Bool := decide (i < D) || (decide (D < i) && mk body (i - D - 1))
def HA (body : ByteArray) (f D m : Nat) (A : List RE) : List RE := mi (fun p _ => decide (f ≤ p) && decide (p < f + m) && hc body D (p - f)) (fun r => (r.1, r.2.1, true)) A
theorem HA_len {body : ByteArray} {f D j : Nat} {A : List RE} : (HA body f D j A).length = A.length := mi_len
theorem HA_at {body : ByteArray} {f D j p : Nat} {A : List RE} (h : p < A.length) (hp : p < (HA body f D j A).length) :
    (HA body f D j A)[p] = if (decide (f ≤ p) && decide (p < f + j) && hc body D (p - f)) = true then (A[p].1, A[p].2.1, true) else A[p] := mi_get h
theorem HA_zero {body : ByteArray} {f D : Nat} {A : List RE} : HA body f D 0 A = A := mi_none fun p r _ => by
  simp; omega
theorem HA_succ {body : ByteArray} {f D j : Nat} {A : List RE} (h : f + j < A.length) : HA body f D (j + 1) A = if hc body D j = true then (HA body f D j A).set (f + j) (A[f + j].1, A[f + j].2.1, true) else HA body f D j A := by
  have hset := mi_set (P := fun p _ => decide (f ≤ p) && decide (p < f + j) && hc body D (p - f)) (Q := fun p _ => decide (f ≤ p) && decide (p < f + (j + 1)) && hc body D (p - f)) (g := fun (r : RE) => (r.1, r.2.1, true)) h (fun p r _ hp => by
    by_cases h1 : p < f + j
    · simp [h1, show p < f + (j + 1) by omega]
    · simp [h1, show ¬ p < f + (j + 1) by omega])
  by_cases hq : hc body D j = true
  · rw [if_pos hq]
    unfold HA
    rw [hset]
    simp [hq]
  · rw [if_neg hq]
    simp only [Bool.not_eq_true] at hq
    unfold HA
    refine mi_congr fun p r _ => ?_
    by_cases h1 : p = f + j
    · subst h1; simp [hq]
    · by_cases h2 : p < f + j
      · simp [h2, show p < f + (j + 1) by omega]
      · simp [h2, show ¬ p < f + (j + 1) by omega]
theorem HA_get {body : ByteArray} {f D j : Nat} {A : List RE} (h : f + j < A.length) : (HA body f D j A)[f + j]'(by rw [HA_len]; exact h) = A[f + j] := by
  rw [HA_at h]; simp
theorem Inv.hear {W : Nat} {A : List RE} {S : Nat} (h : Inv W A S) (body : ByteArray) (D : Nat) : Inv W (HA body (fr A) D (S - fr A) A) S ∧ fr A ≤ fr (HA body (fr A) D (S - fr A) A) := by
  have hl := fr_le A
  have hS := h.Sl; have hw := h.Sw; have hf := h.fS
  have hsp := fr_spec A
  have e : fr A ≤ fr (HA body (fr A) D (S - fr A) A) := by
    refine le_fr (by rw [HA_len]; exact hl) fun p hp hpm => ?_
    have hq : p < A.length := by rw [HA_len] at hp; exact hp
    rw [HA_at hq hp]
    split
    · rfl
    · exact hsp.1 p hq hpm
  have hans : ∀ p (hp : p < (HA body (fr A) D (S - fr A) A).length), (HA body (fr A) D (S - fr A) A)[p].2.2 = true → p < S := by
    intro p hp ha
    have hq : p < A.length := by rw [HA_len] at hp; exact hp
    rw [HA_at hq hp] at ha
    split at ha
    · rename_i hc'
      simp only [Bool.and_eq_true, decide_eq_true_eq] at hc'
      omega
    · exact h.ans p hq ha
  refine ⟨⟨?_, by rw [HA_len]; exact hS, by omega, fun p hp => ?_, hans⟩, e⟩
  · rcases Nat.lt_or_ge S (fr (HA body (fr A) D (S - fr A) A)) with h1 | h1
    · have h3 := fr_le (HA body (fr A) D (S - fr A) A)
      have h2 := (fr_spec (HA body (fr A) D (S - fr A) A)).1 S (by omega) h1
      have := hans S (by omega) h2
      omega
    · exact h1
  · have hq : p < A.length := by rw [HA_len] at hp; exact hp
    have := h.sent p hq
    rw [HA_at hq hp]
    split
    · exact this
    · exact this

/-! ### The code's sender, by itself -/
theorem LeftC_ok {W T n F : Int} {A : List RE} : f_again_Sender_Left W T n F (vw A (fr A)) = some ((A.length - fr A : Nat) : Int) := by
  unfold f_again_Sender_Left
  rw [vw_len]
theorem due_cv (now wait : Int) (r : RE) : ((!(cv r).2.2.2) && ((!(cv r).2.1) || (decide (wait ≤ (IntKind.i64.wrap (now - (cv r).2.2.1)))))) = !skip now wait r := by
  unfold skip cv
  by_cases h : 0 ≤ r.2.1
  · simp only [h, decide_true, if_true, Bool.not_true, Bool.false_or, Bool.true_and]
    by_cases h2 : wait ≤ IntKind.i64.wrap (now - r.2.1)
    · simp [h2, show ¬ IntKind.i64.wrap (now - r.2.1) < wait by omega]
    · simp [h2, show IntKind.i64.wrap (now - r.2.1) < wait by omega]
  · simp [h]
theorem TickC_ok {W : Nat} {T n F now : Int} {A : List RE} (hF : F = (fr A : Int)) (hA : A.length ≤ 100000) (hW : W ≤ 128) (hn : n ≤ now) (h0 : 0 ≤ now) :
    f_again_Sender_Tick (W : Int) T n F (vw A (fr A)) now = some (TO now T (fr A) A (min W (A.length - fr A)), 0, (W : Int), T, now, F, vw (TA now T (fr A) (min W (A.length - fr A)) A) (fr A)) := by
  have hl := fr_le A
  unfold f_again_Sender_Tick
  rw [if_neg (by rw [decide_eq_true_eq]; omega)]
  refine bnd_eq (loop_run (min W (A.length - fr A)) (fun j => ((W : Int), T, now, F, vw (TA now T (fr A) j A) (fr A), now, TO now T (fr A) A j, (j : Int))) ((W : Int), T, now, F, vw (TA now T (fr A) (min W (A.length - fr A)) A) (fr A), TO now T (fr A) A (min W (A.length - fr A))) (fun j hj => ?_) ?_ ?_) rfl
  · have hj' : fr A + j < A.length := by omega
    have hL : (TA now T (fr A) j A).length = A.length := TA_len
    simp only [f_again_Sender_Tick.s1, f_again_Sender_Tick.s1c]
    rw [vw_len, vw_len, hL, imin_nat, if_pos (by rw [decide_eq_true_eq]; omega), if_pos (by omega)]
    simp only [f_again_Sender_Tick_1, Option.bind_some]
    have hg : gt (vw (TA now T (fr A) j A) (fr A)) (j : Int) = cv A[fr A + j] := by rw [vw_gt (by omega), TA_get hj']
    rw [hg, due_cv]
    have hTA := TA_succ (now := now) (wait := T) hj'
    have hTO : TO now T (fr A) A (j + 1) = if skip now T A[fr A + j] = true then TO now T (fr A) A j else TO now T (fr A) A j ++ [(1, (((fr A + j) % 256 : Nat) : Int), false, A[fr A + j].1)] := by
      have : gt A ((fr A + j : Nat) : Int) = A[fr A + j] := gt_nat hj'
      rw [TO, this]
    have hTl := TO_len now T (fr A) A j
    have hw1 : IntKind.i64.wrap ((j : Int) + 1) = ((j + 1 : Nat) : Int) := by rw [w64 (by omega) (by omega)]; omega
    by_cases hs : skip now T A[fr A + j] = true
    · rw [if_pos hs] at hTA hTO
      simp only [hs, Bool.not_true, Bool.false_eq_true, if_false]
      rw [hTA, hTO, hw1]
    · rw [if_neg hs] at hTA hTO
      simp only [Bool.not_eq_true] at hs
      simp only [hs, Bool.not_false, if_true]
      have hlen : j < (vw (TA now T (fr A) j A) (fr A)).length := by rw [vw_len]; omega
      simp only [Int.toNat_natCast, gt_set_self hlen, List.set_set]
      have hn8 : IntKind.u8.wrap (IntKind.i64.wrap (F + (j : Int))) = (((fr A + j) % 256 : Nat) : Int) := by
        rw [hF, w64 (by omega) (by omega), IntKind.wrap_u8]; omega
      rw [if_pos (by simp only [List.length_cons, List.length_nil]; omega), hn8, hw1, hTA, hTO, vw_set]
      simp only [cv, h0, decide_true, if_true]
  · have hL : (TA now T (fr A) (min W (A.length - fr A)) A).length = A.length := TA_len
    simp only [f_again_Sender_Tick.s1, f_again_Sender_Tick.s1c]
    rw [vw_len, imin_nat, if_neg (by rw [decide_eq_true_eq]; omega)]
  · rw [TA_zero]; rfl
theorem dd {N : Int} {f : Nat} (h0 : 0 ≤ N) (h1 : N < 256) (hf : f ≤ 100000) :
    IntKind.i64.wrap (IntKind.u8.wrap (N - IntKind.u8.wrap (f : Int))) = ((((N - f) % 256).toNat : Nat) : Int) ∧
    (IntKind.i64.wrap (IntKind.i64.wrap (IntKind.i64.wrap N - ((f : Int)).tmod 256) + 256)).tmod 256 = ((((N - f) % 256).toNat : Nat) : Int) := by
  constructor
  · rw [IntKind.wrap_u8, IntKind.wrap_u8, w64 (by omega) (by omega)]; omega
  · rw [show ((f : Int)).tmod 256 = (f : Int) % 256 from tmodn (by omega) _, w64 (x := N) (by omega) (by omega), w64 (x := N - (f : Int) % 256) (by omega) (by omega), w64 (by omega) (by omega), tmodn (by omega)]; omega
theorem mark_expr {body : ByteArray} (hb : body.size = 16) {m : Nat} (hm : m < 128) :
    (if 0 ≤ IntKind.i64.wrap (((m : Int)).tdiv 8) ∧ IntKind.i64.wrap (((m : Int)).tdiv 8) < (body.size : Int) then
            if 0 ≤ IntKind.i64.wrap (7 - ((m : Int)).tmod 8) then
              some (iand .u8 (ishr .u8 (bt body (IntKind.i64.wrap (((m : Int)).tdiv 8))) (IntKind.i64.wrap (7 - ((m : Int)).tmod 8))) 1 == 1)
            else none
          else none) = some (mk body m) := by
  have e1 : ((m : Int)).tdiv 8 = ((m / 8 : Nat) : Int) := tdiv_nat m 8
  have e2 : ((m : Int)).tmod 8 = ((m % 8 : Nat) : Int) := tmod_nat m 8
  unfold mk
  rw [e1, e2, w64 (x := ((m / 8 : Nat) : Int)) (by omega) (by omega), if_pos (by rw [hb]; omega), w64 (by omega) (by omega), if_pos (by omega)]
  rw [show (7 : Int) - ((m % 8 : Nat) : Int) = ((7 - m % 8 : Nat) : Int) by omega]
theorem K_code {W S : Nat} {A : List RE} (hI : Inv W A S) (hA : A.length ≤ 100000) : loop (f_again_Sender_Hear.s1 (W : Int) (vw A (fr A))) 0 = some ((S - fr A : Nat) : Int) := by
  have hS := hI.Sl; have hw := hI.Sw; have hf := hI.fS
  refine loop_for1 (S - fr A) _ (fun i hi => ?_) ?_
  · simp only [f_again_Sender_Hear.s1, f_again_Sender_Hear.s1c]
    rw [vw_len, imin_nat, if_pos (by rw [decide_eq_true_eq]; omega), if_pos (by omega), vw_gt (by omega)]
    have := (hI.sent (fr A + i) (by omega)).2 (by omega)
    simp only [Option.bind_some, cv, this, decide_true, if_true]
    rw [w64 (by omega) (by omega)]; rfl
  · simp only [f_again_Sender_Hear.s1, f_again_Sender_Hear.s1c]
    rw [vw_len, imin_nat]
    by_cases h : S - fr A < min W (A.length - fr A)
    · rw [if_pos (by rw [decide_eq_true_eq]; omega), if_pos (by omega), vw_gt (by omega)]
      have : ¬ 0 ≤ A[fr A + (S - fr A)].2.1 := fun h1 => by have := (hI.sent _ (by omega)).1 h1; omega
      simp [cv, this]
    · rw [if_neg (by rw [decide_eq_true_eq]; omega)]; rfl
theorem cut_code {W T n : Int} {B : List RE} {f : Nat} (hB : B.length ≤ 100000) (hf : f ≤ fr B) : loop f_again_Sender_Hear.s3 (W, T, n, (f : Int), vw B f) = some (W, T, n, (fr B : Int), vw B (fr B)) := by
  have hl := fr_le B
  have hs := fr_spec B
  refine loop_run (fr B - f) (fun j => (W, T, n, ((f + j : Nat) : Int), vw B (f + j))) _ (fun j hj => ?_) ?_ rfl
  · simp only [f_again_Sender_Hear.s3, f_again_Sender_Hear.s3c]
    have h0 : gt (vw B (f + j)) 0 = cv (B[f + j]'(by omega)) := vw_gt (j := 0) (by omega)
    rw [vw_len, if_pos (by rw [decide_eq_true_eq]; omega), if_pos (by omega), h0]
    have := hs.1 (f + j) (by omega) (by omega)
    simp only [Option.bind_some, cv, this, if_true]
    rw [if_pos (by omega), w64 (by omega) (by omega), show (1 : Int).toNat = 1 from rfl, vw_drop]
    refine congrArg some (congrArg Sum.inl ?_)
    refine Prod.ext rfl (Prod.ext rfl (Prod.ext rfl (Prod.ext ?_ rfl))); simp only; omega
  · simp only [f_again_Sender_Hear.s3, f_again_Sender_Hear.s3c]
    have e : f + (fr B - f) = fr B := by omega
    rw [e, vw_len]
    by_cases h : fr B < B.length
    · have h0 : gt (vw B (fr B)) 0 = cv B[fr B] := vw_gt (j := 0) (by omega)
      rw [if_pos (by rw [decide_eq_true_eq]; omega), if_pos (by omega), h0]
      simp [cv, hs.2 h]
    · rw [if_neg (by rw [decide_eq_true_eq]; omega)]; rfl
/-- what the marks do, in the code -/
theorem marks_code {W T n N : Int} {A : List RE} {body : ByteArray} {K D : Nat} (hb : body.size = 16) (hA : A.length ≤ 100000) (hK : fr A + K ≤ A.length) (hK2 : K ≤ 128) (h0 : 0 ≤ N) (h1 : N < 256) (hD : D = ((N - fr A) % 256).toNat) :
    loop (f_again_Sender_Hear.s2 (fr A : Int) N body (K : Int)) (W, T, n, (fr A : Int), vw A (fr A), 0) = some (W, T, n, (fr A : Int), vw (HA body (fr A) D K A) (fr A)) := by
  have hl := fr_le A
  refine loop_run K (fun j => (W, T, n, (fr A : Int), vw (HA body (fr A) D j A) (fr A), (j : Int))) _ (fun j hj => ?_) ?_ ?_
  · have hL : (HA body (fr A) D j A).length = A.length := HA_len
    have hj' : fr A + j < A.length := by omega
    simp only [f_again_Sender_Hear.s2, f_again_Sender_Hear.s2c]
    rw [(dd h0 h1 (by omega)).1, ← hD, if_pos (by rw [decide_eq_true_eq]; omega)]
    have hD2 : D < 256 := by omega
    have e0 : IntKind.i64.wrap ((j : Int) - (D : Int)) = (j : Int) - D := w64 (by omega) (by omega)
    have e1 : IntKind.i64.wrap ((j : Int) - (D : Int) - 1) = (j : Int) - D - 1 := w64 (by omega) (by omega)
    rw [e0, e1]
    have hg : gt (vw (HA body (fr A) D j A) (fr A)) (j : Int) = cv A[fr A + j] := by rw [vw_gt (by omega), HA_get hj']
    have hz : (if decide ((j : Int) < (D : Int)) = true then some true else
        ((if decide ((0 : Int) ≤ (j : Int) - D - 1) = true then
          if 0 ≤ IntKind.i64.wrap (((j : Int) - D - 1).tdiv 8) ∧ IntKind.i64.wrap (((j : Int) - D - 1).tdiv 8) < (body.size : Int) then
            if 0 ≤ IntKind.i64.wrap (7 - ((j : Int) - D - 1).tmod 8) then
              some (iand .u8 (ishr .u8 (bt body (IntKind.i64.wrap (((j : Int) - D - 1).tdiv 8))) (IntKind.i64.wrap (7 - ((j : Int) - D - 1).tmod 8))) 1 == 1)
            else none
          else none
        else some false).bind fun z => some z)) = some (hc body D j) := by
      unfold hc
      by_cases c1 : j < D
      · simp [c1]
      · by_cases c2 : D < j
        · have e2 : (j : Int) - D - 1 = ((j - D - 1 : Nat) : Int) := by omega
          have := mark_expr hb (m := j - D - 1) (by omega)
          rw [if_neg (by rw [decide_eq_true_eq]; omega), if_pos (by rw [decide_eq_true_eq]; omega), e2, this]
          simp [c1, c2]
        · rw [if_neg (by rw [decide_eq_true_eq]; omega), if_neg (by rw [decide_eq_true_eq]; omega)]
          simp [c1, c2]
    rw [hz]
    simp only [Option.bind_some]
    have hw1 : IntKind.i64.wrap ((j : Int) + 1) = ((j + 1 : Nat) : Int) := by rw [w64 (by omega) (by omega)]; omega
    have hH := HA_succ (body := body) (D := D) hj'
    by_cases hq : hc body D j = true
    · rw [if_pos hq] at hH
      rw [if_pos hq, vw_len, hL, if_pos (by omega), hw1, hH, vw_set, hg, Int.toNat_natCast]
      rfl
    · rw [if_neg hq] at hH
      rw [if_neg hq, hw1, hH]
  · simp only [f_again_Sender_Hear.s2, f_again_Sender_Hear.s2c]
    rw [if_neg (by rw [decide_eq_true_eq]; omega)]
  · rw [HA_zero]; rfl

/-! ### AgainNames: closed -/
theorem bstr_size (xs : List Int) : (bstr xs).size = xs.length := by simp [bstr, ByteArray.size]
theorem OfferC {W T n F : Int} {L : List CE} {b : ByteArray} (hb : b.size ≤ 240) (hL : L.length < 4096) : f_again_Sender_Offer W T n F L b = some (0, W, T, n, F, L ++ [(b, false, 0, false)]) := by
  unfold f_again_Sender_Offer
  rw [if_neg (by rw [decide_eq_true_eq]; omega), if_neg (by rw [decide_eq_true_eq]; omega), if_pos (by simp only [List.length_cons, List.length_nil]; omega)]
theorem OfferC_long {W T n F : Int} {L : List CE} {b : ByteArray} (hb : 240 < b.size) : f_again_Sender_Offer W T n F L b = some (1, W, T, n, F, L) := by
  unfold f_again_Sender_Offer
  rw [if_pos (by rw [decide_eq_true_eq]; omega)]
theorem OfferC_full {W T n F : Int} {L : List CE} {b : ByteArray} (hb : b.size ≤ 240) (hL : 4096 ≤ L.length) : f_again_Sender_Offer W T n F L b = some (3, W, T, n, F, L) := by
  unfold f_again_Sender_Offer
  rw [if_neg (by rw [decide_eq_true_eq]; omega), if_pos (by rw [decide_eq_true_eq]; omega)]
theorem no_marks (w n : Int) (H : List ByteArray) (ml : List Int) : loop (f_again_Receiver_Take.s2 (w, n, [], H)) (ml, 0) = some ml := by
  refine loop_run 128 (fun j => (ml, (j : Int))) ml (fun j hj => ?_) ?_ rfl
  · simp only [f_again_Receiver_Take.s2, f_again_Receiver_Take.s2c, mget_nil]
    rw [if_pos (by rw [decide_eq_true_eq]; omega), if_neg (by simp), w64 (by omega) (by omega)]; rfl
  · simp only [f_again_Receiver_Take.s2, f_again_Receiver_Take.s2c]
    rw [if_neg (by simp)]
def bA : ByteArray := ByteArray.mk #[97]
def zs : ByteArray := bstr (List.replicate 16 0)
theorem take_one : f_again_Receiver_Take 2 0 [] 1 0 false bA = some ([bA], (2, 1, false, zs), 0, (2, 1, [])) := by
  have hj : f_again_Receiver_Take.j1 2 0 [(0, bA)] = some ([bA], (2, 1, false, zs), 0, (2, 1, [])) := by
    unfold f_again_Receiver_Take.j1
    have h1 : loop f_again_Receiver_Take.s1 ((2 : Int), (0 : Int), [((0 : Int), bA)], ([] : List ByteArray)) = some (2, 1, [], [bA]) := by
      rw [loop_step (s' := ((2 : Int), (1 : Int), ([] : List (Int × ByteArray)), [bA])) ?_]
      · exact loop_done rfl
      · simp only [f_again_Receiver_Take.s1, f_again_Receiver_Take.s1c]
        rw [show mget [((0 : Int), bA)] 0 = some bA from rfl]
        rw [if_neg (by simp), if_pos (by simp), w64 (by omega) (by omega)]
        rfl
    rw [h1]
    simp only [Option.bind_some]
    rw [no_marks]
    rfl
  unfold f_again_Receiver_Take
  rw [if_neg (by decide)]
  have e0 : IntKind.i64.wrap (IntKind.u8.wrap (0 - IntKind.u8.wrap 0)) = 0 := by decide
  rw [e0, if_pos (by decide), show IntKind.i64.wrap (0 + 0) = 0 by decide, if_pos (by simp [mget_nil])]
  exact hj
theorem inv_one : Inv 2 [(bA, 0, false)] 1 := by
  have hf : fr [(bA, (0 : Int), false)] = 0 := by simp [fr]
  refine ⟨by rw [hf]; omega, by simp, by rw [hf]; omega, fun p h => ?_, fun p h ha => ?_⟩
  · have : p = 0 := by simpa using h
    subst this; simp
  · simpa using h
theorem works_ok : f_foghornlaw28_works = some true := by
  unfold f_foghornlaw28_works
  have n1 : f_again_NewSender 2 5 = some (some (2, 5, 0, 0, []), 0) := by unfold f_again_NewSender; rw [if_neg (by decide)]
  have n2 : f_again_NewReceiver 2 = some (some (2, 0, []), 0) := by unfold f_again_NewReceiver; rw [if_neg (by decide)]
  rw [n1, n2]
  simp only [Option.bind_some]
  rw [if_neg (by decide), OfferC (by decide) (by decide)]
  simp only [Option.bind_some]
  have hf0 : fr [(bA, (-1 : Int), false)] = 0 := by simp [fr]
  have ht := TickC_ok (W := 2) (T := 5) (n := 0) (F := 0) (now := 0) (A := [(bA, (-1 : Int), false)]) (by rw [hf0]; rfl) (by simp) (by omega) (by omega) (by omega)
  have hv : vw [(bA, (-1 : Int), false)] 0 = [(bA, false, 0, false)] := rfl
  have hTO : TO 0 5 0 [(bA, (-1 : Int), false)] (min 2 1) = [(1, 0, false, bA)] := rfl
  have hTA : TA 0 5 0 (min 2 1) [(bA, (-1 : Int), false)] = [(bA, 0, false)] := rfl
  simp only [hf0, hv] at ht
  have ht' : f_again_Sender_Tick 2 5 0 0 ([] ++ [(ByteArray.mk #[97], false, 0, false)]) 0 = some ([(1, 0, false, bA)], 0, 2, 5, 0, 0, vw [(bA, 0, false)] 0) := ht
  rw [ht']
  simp only [Option.bind_some]
  have hg : gt [((1 : Int), (0 : Int), false, bA)] 0 = (1, 0, false, bA) := rfl
  rw [hg]
  rw [if_neg (by decide), if_pos (by decide), show seq bA (ByteArray.mk #[97]) = true by simp [seq, bA]]
  simp only [Option.bind_some, Bool.not_true, Bool.false_eq_true, if_false]
  rw [if_pos (by decide)]
  simp only [Option.bind_some]
  rw [if_neg (by decide), if_pos (by decide), take_one]
  simp only [Option.bind_some]
  rw [if_pos (by decide), if_pos (by decide), show gt [bA] (0 : Int) = bA from rfl, show seq bA (ByteArray.mk #[97]) = true by simp [seq, bA]]
  simp only [Option.bind_some]
  have hf1 : fr [(bA, (0 : Int), false)] = 0 := by simp [fr]
  have hz : zs.size = 16 := by unfold zs; rw [bstr_size]; simp
  have hHear : f_again_Sender_Hear 2 5 0 0 (vw [(bA, 0, false)] 0) 2 1 false zs = some (0, 2, 5, 0, 1, []) := by
    unfold f_again_Sender_Hear
    rw [if_neg (by rw [hz]; decide)]
    have k1 := K_code (W := 2) inv_one (by simp)
    rw [hf1] at k1
    have k1' : loop (f_again_Sender_Hear.s1 2 (vw [(bA, 0, false)] 0)) 0 = some 1 := k1
    rw [k1']
    simp only [Option.bind_some]
    rw [if_neg (by decide)]
    have m1 := marks_code (W := 2) (T := 5) (n := 0) (N := 1) (A := [(bA, (0 : Int), false)]) (K := 1) (D := 1) hz (by simp) (by rw [hf1]; simp) (by omega) (by omega) (by omega) (by rw [hf1]; rfl)
    rw [hf1] at m1
    have m1' : loop (f_again_Sender_Hear.s2 0 1 zs 1) (2, 5, 0, 0, vw [(bA, 0, false)] 0, 0) = some (2, 5, 0, 0, vw (HA zs 0 1 1 [(bA, 0, false)]) 0) := m1
    rw [m1']
    simp only [Option.bind_some]
    have hB : HA zs 0 1 1 [(bA, (0 : Int), false)] = [(bA, 0, true)] := by
      simp [HA, mi, hc]
    have hfB : fr [(bA, (0 : Int), true)] = 1 := by simp [fr]
    rw [hB]
    have c1 := cut_code (W := 2) (T := 5) (n := 0) (B := [(bA, (0 : Int), true)]) (f := 0) (by simp) (by omega)
    rw [hfB] at c1
    have c1' : loop f_again_Sender_Hear.s3 (2, 5, 0, 0, vw [(bA, 0, true)] 0) = some (2, 5, 0, 1, vw [(bA, 0, true)] 1) := c1
    rw [c1']
    rfl
  rw [if_pos (by decide), hHear]
  rfl
theorem TO_all {now wait : Int} {f : Nat} {A : List RE} (j : Nat) (h : ∀ i, i < j → skip now wait (gt A ((f + i : Nat) : Int)) = false) : (TO now wait f A j).length = j := by
  induction j with
  | zero => rfl
  | succ j ih =>
    unfold TO
    rw [h j (by omega), if_neg (by simp)]
    simp [ih fun i hi => h i (by omega)]
theorem TO_none {now wait : Int} {f : Nat} {A : List RE} (j : Nat) (h : ∀ i, i < j → skip now wait (gt A ((f + i : Nat) : Int)) = true) : TO now wait f A j = [] := by
  induction j with
  | zero => rfl
  | succ j ih =>
    unfold TO
    rw [h j (by omega), if_pos rfl]
    exact ih fun i hi => h i (by omega)
/-- the messages of the great sender -/
def AA (b : ByteArray) (m : Nat) : List RE := (b, -1, false) :: List.replicate m (ByteArray.empty, -1, false)
theorem AA_len (b : ByteArray) (m : Nat) : (AA b m).length = m + 1 := by simp [AA]
theorem AA_get (b : ByteArray) (m p : Nat) (h : p < (AA b m).length) : (AA b m)[p].2 = (-1, false) := by
  cases p with
  | zero => rfl
  | succ p => simp [AA]
theorem AA_fr (b : ByteArray) (m : Nat) : fr (AA b m) = 0 := by simp [fr, AA]
theorem AA_inv (b : ByteArray) (m : Nat) : Inv 128 (AA b m) 0 := by
  refine ⟨by rw [AA_fr]; omega, by omega, by omega, fun p h => ?_, fun p h ha => ?_⟩
  · have := AA_get b m p h
    rw [this]; simp
  · have := AA_get b m p h
    rw [this] at ha; cases ha
theorem AA_vw (b : ByteArray) (m : Nat) : vw (AA b m) 0 = (b, false, 0, false) :: List.replicate m (ByteArray.empty, false, 0, false) := by
  simp [vw, AA, cv]
theorem names_true : f_foghornlaw28_AgainNames = some true := by
  unfold f_foghornlaw28_AgainNames
  rw [works_ok]
  simp only [Option.bind_some, Bool.not_true, Bool.false_eq_true, if_false]
  have n1 : f_again_Sender_Tick_19 0 = some ([], 2) := rfl
  have n2 : f_again_Receiver_Take_10 0 0 false ByteArray.empty = some ([], (0, 0, false, ByteArray.empty), 2) := rfl
  have n3 : f_again_Sender_Offer_17 (ByteArray.mk #[]) = some 2 := rfl
  have n4 : f_again_Sender_Hear_23 0 0 false ByteArray.empty = some 2 := rfl
  have n5 : f_again_Sender_Left_25 = some 0 := rfl
  have n6 : f_again_Receiver_Handed_14 = some 0 := rfl
  rw [n1, n2]
  simp only [Option.bind_some]
  rw [if_neg (by decide), n3]
  simp only [Option.bind_some]
  rw [if_neg (by decide), n4]
  simp only [Option.bind_some]
  rw [if_neg (by decide), n5]
  simp only [Option.bind_some]
  rw [if_neg (by decide), n6]
  simp only [Option.bind_some]
  rw [if_neg (by decide)]
  have s1 : f_again_NewSender 128 4611686018427387904 = some (some (128, 4611686018427387904, 0, 0, []), 0) := by unfold f_again_NewSender; rw [if_neg (by decide)]
  have s2 : f_again_NewSender 129 1 = some (none, 1) := by unfold f_again_NewSender; rw [if_pos (by decide)]
  have s3 : f_again_NewSender 1 0 = some (none, 1) := by unfold f_again_NewSender; rw [if_pos (by decide)]
  have s4 : f_again_NewReceiver 129 = some (none, 1) := by unfold f_again_NewReceiver; rw [if_pos (by decide)]
  have s5 : f_again_NewReceiver 128 = some (some (128, 0, []), 0) := by unfold f_again_NewReceiver; rw [if_neg (by decide)]
  rw [s1, s2, s3, s4, s5]
  simp only [Option.bind_some]
  rw [if_neg (by decide), if_pos (by decide)]
  have hlong : (bstr (mk0 241 0)).size = 241 := by rw [bstr_size, mk0_eq]; simp
  obtain ⟨long, hlg⟩ : ∃ long, long = bstr (mk0 241 0) := ⟨_, rfl⟩
  rw [← hlg] at hlong ⊢
  rw [OfferC_long (by omega)]
  simp only [Option.bind_some]
  rw [if_neg (by decide), if_pos (by rw [hlong]; decide)]
  have hb : (long.extract 0 ((240 : Int)).toNat).size = 240 := by rw [ByteArray.size_extract, hlong]; rfl
  obtain ⟨b, hbb⟩ : ∃ b, b = long.extract 0 ((240 : Int)).toNat := ⟨_, rfl⟩
  rw [← hbb] at hb ⊢
  rw [OfferC (by omega) (by decide)]
  simp only [Option.bind_some]
  rw [if_neg (by decide)]
  have hloop : loop f_foghornlaw28_AgainNames.s1 (128, 4611686018427387904, 0, 0, [] ++ [(b, false, 0, false)], 1) = some (Sum.inl (128, 4611686018427387904, 0, 0, vw (AA b 4095) 0)) := by
    refine loop_run 4095 (fun j => ((128 : Int), (4611686018427387904 : Int), (0 : Int), (0 : Int), vw (AA b j) 0, ((j + 1 : Nat) : Int))) _ (fun j hj => ?_) ?_ rfl
    · simp only [f_foghornlaw28_AgainNames.s1, f_foghornlaw28_AgainNames.s1c]
      rw [if_pos (by rw [decide_eq_true_eq]; omega), OfferC (by decide) (by rw [vw_len, AA_len]; omega)]
      simp only [Option.bind_some]
      rw [if_neg (by decide), w64 (by omega) (by omega), AA_vw, AA_vw, List.replicate_succ']
      rfl
    · simp only [f_foghornlaw28_AgainNames.s1, f_foghornlaw28_AgainNames.s1c]
      rw [if_neg (by simp)]
  rw [hloop]
  simp only [Option.bind_some, sm]
  -- the ticks
  have hf : fr (AA b 4095) = 0 := AA_fr b 4095
  have hA : (AA b 4095).length = 4096 := AA_len b 4095
  obtain ⟨A, hAA⟩ : ∃ A, A = AA b 4095 := ⟨_, rfl⟩
  have hsk : ∀ i, i < 128 → skip 5 4611686018427387904 (gt A ((0 + i : Nat) : Int)) = false := by
    intro i hi
    rw [hAA, gt_nat (by rw [hA]; omega)]
    have := AA_get b 4095 (0 + i) (by rw [hA]; omega)
    unfold skip
    rw [this]; rfl
  have hinv := AA_inv b 4095
  rw [← hAA] at hf hA hinv ⊢
  have t1 := TickC_ok (W := 128) (T := 4611686018427387904) (n := 0) (F := 0) (now := 5) (A := A) (by rw [hf]; rfl) (by omega) (by omega) (by omega) (by omega)
  obtain ⟨i1, f1⟩ := hinv.tick (now := 5) (wait := 4611686018427387904) (by omega)
  rw [hf, hA] at t1 i1 f1
  have hm : min 128 (4096 - 0) = 128 := by decide
  rw [hm] at t1 i1 f1
  have l1 := TO_all (now := 5) (wait := 4611686018427387904) (f := 0) (A := A) 128 hsk
  obtain ⟨B, hB⟩ : ∃ B, B = TA 5 4611686018427387904 0 128 A := ⟨_, rfl⟩
  have hBl : B.length = 4096 := by rw [hB, TA_len, hA]
  have hsk2 : ∀ i, i < 128 → skip 5 4611686018427387904 (gt B ((0 + i : Nat) : Int)) = true := by
    intro i hi
    have hi' : 0 + i < A.length := by omega
    rw [hB, gt_nat (by rw [TA_len]; exact hi'), TA_at hi']
    have h3 := hsk i hi
    rw [gt_nat hi'] at h3
    have hc : (decide (0 ≤ 0 + i) && decide (0 + i < 0 + 128) && !skip 5 4611686018427387904 A[0 + i]) = true := by rw [h3]; simp; omega
    rw [if_pos hc]
    unfold skip
    simp only
    have : decide ((0 : Int) ≤ 5) = true := rfl
    have e2 : decide (IntKind.i64.wrap (5 - 5) < 4611686018427387904) = true := by decide
    rw [this, e2]; simp
  rw [← hB] at t1 i1 f1
  have t1' : f_again_Sender_Tick 128 4611686018427387904 0 0 (vw A 0) 5 = some (TO 5 4611686018427387904 0 A 128, 0, 128, 4611686018427387904, 5, 0, vw B 0) := t1
  rw [t1']
  simp only [Option.bind_some]
  have t2 := TickC_ok (W := 128) (T := 4611686018427387904) (n := 5) (F := 0) (now := 5) (A := B) (by rw [f1]; rfl) (by omega) (by omega) (by omega) (by omega)
  obtain ⟨i2, f2⟩ := i1.tick (now := 5) (wait := 4611686018427387904) (by omega)
  rw [f1, hBl] at t2 i2 f2
  rw [hm] at t2 i2 f2
  have l2 := TO_none (now := 5) (wait := 4611686018427387904) (f := 0) (A := B) 128 hsk2
  rw [l2] at t2
  obtain ⟨C, hC⟩ : ∃ C, C = TA 5 4611686018427387904 0 128 B := ⟨_, rfl⟩
  have hCl : C.length = 4096 := by rw [hC, TA_len, hBl]
  rw [← hC] at t2
  have t2' : f_again_Sender_Tick 128 4611686018427387904 5 0 (vw B 0) 5 = some ([], 0, 128, 4611686018427387904, 5, 0, vw C 0) := t2
  rw [t2']
  simp only [Option.bind_some]
  have t3 : f_again_Sender_Tick 128 4611686018427387904 5 0 (vw C 0) 4 = some ([], 1, 128, 4611686018427387904, 5, 0, vw C 0) := by
    unfold f_again_Sender_Tick; rw [if_pos (by decide)]
  rw [t3]
  simp only [Option.bind_some]
  have r1 : f_again_Receiver_Take 128 0 [] 1 0 false long = some ([], (0, 0, false, ByteArray.empty), 4, (128, 0, [])) := by
    unfold f_again_Receiver_Take; rw [if_pos (by rw [hlong]; decide)]
  have r2 : f_again_Receiver_Take 128 0 [] 1 0 true ByteArray.empty = some ([], (0, 0, false, ByteArray.empty), 4, (128, 0, [])) := by
    unfold f_again_Receiver_Take; rw [if_pos (by decide)]
  rw [r1]
  simp only [Option.bind_some]
  rw [r2]
  simp only [Option.bind_some]
  have hCv : (vw C 0).length = 4096 := by rw [vw_len, hCl]
  rw [OfferC_full (by decide) (by omega)]
  simp only [Option.bind_some]
  rw [if_pos (by decide)]
  unfold f_again_Sender_Left
  rw [hCv, l1]
  simp only [Option.bind_some]
  rw [if_pos (by decide), if_pos (by rw [hlong]; decide)]
  have hh : (long.extract 0 ((15 : Int)).toNat).size = 15 := by rw [ByteArray.size_extract, hlong]; rfl
  have h9 : f_again_Sender_Hear 128 4611686018427387904 5 0 (vw C 0) 2 0 false (long.extract 0 ((15 : Int)).toNat) = some (4, 128, 4611686018427387904, 5, 0, vw C 0) := by
    unfold f_again_Sender_Hear; rw [if_pos (by rw [hh]; decide)]
  rw [h9]
  rfl

end Go.Proofs.Ytmdigffgmohcnaa
