/- The plain law of AgainSends: both senders answer alike, call by call. -/
import Derived.Test.YtmdigffgmohcnaaG1
import Derived.Test.YtmdigffgmohcnaaGlK
import Derived.Test.YtmdigffgmohcnaaGlW
set_option linter.unusedVariables false
set_option linter.unusedSimpArgs false
set_option maxRecDepth 100000
set_option maxHeartbeats 1000000
namespace Go.Proofs.Ytmdigffgmohcnaa
open Go GL
/-! ### Lists changed by place -/
section
variable {α : Type}
def mi (P : Nat → α → Bool) (g : α → α) (A : List α) : List α := A.mapIdx fun p r => if P p r = true then g r else r
variable {P Q : Nat → α → Bool} {g : α → α} {A : List α}
theorem mi_len : (mi P g A).length = A.length := by simp [mi]
theorem mi_get {p : Nat} (h : p < A.length) : (mi P g A)[p]'(by rw [mi_len]; exact h) = if P p A[p] = true then g A[p] else A[p] := by simp [mi]
theorem mi_get? (p : Nat) : (mi P g A)[p]? = (A[p]?).map fun r => if P p r = true then g r else r := by simp [mi]
theorem mi_congr (h : ∀ p r, A[p]? = some r → P p r = Q p r) : mi P g A = mi Q g A := by
  apply List.ext_getElem?
  intro p
  rw [mi_get?, mi_get?]
  cases hp : A[p]? with
  | none => rfl
  | some r => simp only [Option.map_some]; rw [h p r hp]
theorem mi_set {m : Nat} (hm : m < A.length) (h : ∀ p r, A[p]? = some r → p ≠ m → Q p r = P p r) : mi Q g A = (mi P g A).set m (if Q m A[m] = true then g A[m] else A[m]) := by
  apply List.ext_getElem?
  intro p
  rw [mi_get?]
  by_cases hp : m = p
  · subst hp
    rw [List.getElem?_set_self (by rw [mi_len]; exact hm), List.getElem?_eq_getElem hm]; rfl
  · rw [List.getElem?_set_ne hp, mi_get?]
    cases hq : A[p]? with
    | none => rfl
    | some r => simp only [Option.map_some]; rw [h p r hq (Ne.symm hp)]
theorem mi_none (h : ∀ p r, A[p]? = some r → P p r = false) : mi P g A = A := by
  apply List.ext_getElem?
  intro p
  rw [mi_get?]
  cases hp : A[p]? with
  | none => rfl
  | some r => simp only [Option.map_some]; rw [h p r hp]; rfl
theorem gt_set_self [Inhabited α] {X : List α} {j : Nat} (h : j < X.length) (y : α) : gt (X.set j y) (j : Int) = y := by
  rw [gt_nat (by simpa using h)]; simp
end
theorem loop_run {S R : Type} {f : S → Option (S ⊕ R)} (n : Nat) (s : Nat → S) (r : R) (h1 : ∀ i, i < n → f (s i) = some (.inl (s (i + 1)))) (h2 : f (s n) = some (.inr r)) {s0 : S} (h0 : s0 = s 0) : loop f s0 = some r := by
  subst h0
  have : ∀ k i : Nat, i + k = n → loop f (s i) = some r := by
    intro k
    induction k with
    | zero => intro i hi; obtain rfl : i = n := by omega
              exact loop_done h2
    | succ k ih => intro i hi; rw [loop_step (h1 i (by omega))]; exact ih (i + 1) (by omega)
  exact this n 0 (by omega)

/-! ### What is answered for -/
abbrev RE := ByteArray × Int × Bool
abbrev CE := ByteArray × Bool × Int × Bool
abbrev FR := Int × Int × Bool × ByteArray
def cv (r : RE) : CE := (r.1, decide (0 ≤ r.2.1), if 0 ≤ r.2.1 then r.2.1 else 0, r.2.2)
def vw (A : List RE) (f : Nat) : List CE := (A.drop f).map cv
theorem vw_len {A : List RE} {f : Nat} : (vw A f).length = A.length - f := by simp [vw]
theorem vw_gt {A : List RE} {f j : Nat} (h : f + j < A.length) : gt (vw A f) (j : Int) = cv (A[f + j]) := by
  rw [gt_nat (by rw [vw_len]; omega)]; simp [vw]
theorem vw_set {A : List RE} {f j : Nat} {y : RE} : vw (A.set (f + j) y) f = (vw A f).set j (cv y) := by
  unfold vw
  rw [← List.map_set]
  congr 1
  apply List.ext_getElem?
  intro i
  rw [List.getElem?_drop]
  by_cases h : j = i
  · subst h
    by_cases hl : f + j < A.length
    · rw [List.getElem?_set_self hl, List.getElem?_set_self (by simp; omega)]
    · rw [List.getElem?_eq_none (by simp; omega), List.getElem?_eq_none (by simp; omega)]
  · rw [List.getElem?_set_ne (by omega), List.getElem?_set_ne h, List.getElem?_drop]
theorem vw_drop {A : List RE} {f : Nat} : (vw A f).drop 1 = vw A (f + 1) := by simp [vw]

def fr (A : List RE) : Nat := (A.takeWhile (·.2.2)).length
theorem fr_le (A : List RE) : fr A ≤ A.length := by
  unfold fr
  exact List.IsPrefix.length_le (List.takeWhile_prefix _)
theorem fr_unique {A : List RE} {m : Nat} (hm : m ≤ A.length) (h : ∀ p (hp : p < A.length), p < m → A[p].2.2 = true) (h1 : ∀ (hp : m < A.length), A[m].2.2 = false) : fr A = m := by
  induction A generalizing m with
  | nil => simp at hm; subst hm; rfl
  | cons a A ih =>
    cases m with
    | zero =>
      have := h1 (by simp)
      simp at this
      simp [fr, List.takeWhile_cons, this]
    | succ m =>
      have h0 := h 0 (by simp) (by omega)
      simp at h0
      have := ih (m := m) (by simpa using hm) (fun p hp hpm => by have := h (p + 1) (by simpa using hp) (by omega); simpa using this) (fun hp => by have := h1 (by simpa using hp); simpa using this)
      unfold fr at this ⊢
      rw [List.takeWhile_cons, h0]
      simp [this]
theorem fr_spec (A : List RE) : (∀ p (hp : p < A.length), p < fr A → A[p].2.2 = true) ∧ (∀ (hp : fr A < A.length), A[fr A].2.2 = false) := by
  induction A with
  | nil => exact ⟨fun p hp => by simp at hp, fun hp => by simp at hp⟩
  | cons a A ih =>
    by_cases ha : a.2.2 = true
    · have e : fr (a :: A) = fr A + 1 := by simp [fr, List.takeWhile_cons, ha]
      refine ⟨fun p hp h => ?_, fun hp => ?_⟩
      · cases p with
        | zero => exact ha
        | succ p => have := ih.1 p (by simpa using hp) (by omega); simpa using this
      · have h2 : fr A < A.length := by rw [e] at hp; simpa using hp
        have := ih.2 h2
        simp only [e]
        simpa using this
    · have e : fr (a :: A) = 0 := by simp [fr, List.takeWhile_cons, ha]
      refine ⟨fun p hp h => by omega, fun hp => ?_⟩
      simp only [e]
      simpa using ha
theorem le_fr {A : List RE} {m : Nat} (hm : m ≤ A.length) (h : ∀ p (hp : p < A.length), p < m → A[p].2.2 = true) : m ≤ fr A := by
  rcases Nat.lt_or_ge (fr A) m with h1 | h1
  · have h2 := (fr_spec A).2 (by omega)
    have h3 := h (fr A) (by omega) h1
    rw [h2] at h3; cases h3
  · exact h1
theorem fr_same {A B : List RE} (hl : A.length = B.length) (h : ∀ p (hp : p < A.length) (hq : p < B.length), A[p].2.2 = B[p].2.2) : fr A = fr B := by
  have hs := fr_spec B
  have hb := fr_le B
  refine fr_unique (by omega) (fun p hp hpm => ?_) (fun hp => ?_)
  · rw [h p hp (by omega)]; exact hs.1 p (by omega) hpm
  · rw [h _ hp (by omega)]; exact hs.2 (by omega)

/-- What holds of all messages of a sender: those that were sent are the first ones, no more than the window behind the front. -/
structure Inv (W : Nat) (A : List RE) (S : Nat) : Prop where
  fS : fr A ≤ S
  Sl : S ≤ A.length
  Sw : S ≤ fr A + W
  sent : ∀ p (h : p < A.length), 0 ≤ A[p].2.1 ↔ p < S
  ans : ∀ p (h : p < A.length), A[p].2.2 = true → p < S
theorem Inv.new (W : Nat) : Inv W [] 0 := ⟨by simp [fr], by simp, by simp, fun p h => by simp at h, fun p h => by simp at h⟩
theorem Inv.offer {W : Nat} {A : List RE} {S : Nat} (h : Inv W A S) (b : ByteArray) : Inv W (A ++ [(b, -1, false)]) S ∧ fr (A ++ [(b, -1, false)]) = fr A := by
  have hs := fr_spec A
  have hl := fr_le A
  have e : fr (A ++ [(b, -1, false)]) = fr A := by
    refine fr_unique (by simp; omega) (fun p hp hpm => ?_) (fun hp => ?_)
    · rw [List.getElem_append_left (by omega)]; exact hs.1 p (by omega) hpm
    · rcases Nat.lt_or_ge (fr A) A.length with h1 | h1
      · rw [List.getElem_append_left h1]; exact hs.2 h1
      · rw [List.getElem_append_right (by omega)]; simp
  refine ⟨⟨by rw [e]; exact h.fS, by simp; have := h.Sl; omega, by rw [e]; exact h.Sw, fun p hp => ?_, fun p hp ha => ?_⟩, e⟩
  · rcases Nat.lt_or_ge p A.length with h1 | h1
    · rw [List.getElem_append_left h1]; exact h.sent p h1
    · rw [List.getElem_append_right (by omega)]; have := h.Sl; simp; omega
  · rcases Nat.lt_or_ge p A.length with h1 | h1
    · rw [List.getElem_append_left h1] at ha; exact h.ans p h1 ha
    · rw [List.getElem_append_right (by omega)] at ha; simp at ha
/-! ### Tick -/
def skip (now wait : Int) (r : RE) : Bool := r.2.2 || (decide (0 ≤ r.2.1) && decide (IntKind.i64.wrap (now - r.2.1) < wait))
def TA (now wait : Int) (f j : Nat) (A : List RE) : List RE := mi (fun p r => decide (f ≤ p) && decide (p < f + j) && !skip now wait r) (fun r => (r.1, now, r.2.2)) A
def TO (now wait : Int) (f : Nat) (A : List RE) : Nat → List FR
  | 0 => []
  | j + 1 => if skip now wait (gt A ((f + j : Nat) : Int)) = true then TO now wait f A j else TO now wait f A j ++ [(1, (((f + j) % 256 : Nat) : Int), false, (gt A ((f + j : Nat) : Int)).1)]
theorem TO_len (now wait : Int) (f : Nat) (A : List RE) (j : Nat) : (TO now wait f A j).length ≤ j := by
  induction j with
  | zero => simp [TO]
  | succ j ih =>
    unfold TO
    split
    · omega
    · simp; omega
theorem TA_len {now wait : Int} {f j : Nat} {A : List RE} : (TA now wait f j A).length = A.length := mi_len
theorem TA_at {now wait : Int} {f j p : Nat} {A : List RE} (h : p < A.length) (hp : p < (TA now wait f j A).length) :
    (TA now wait f j A)[p] = if (decide (f ≤ p) && decide (p < f + j) && !skip now wait A[p]) = true then (A[p].1, now, A[p].2.2) else A[p] := mi_get h
theorem TA_zero {now wait : Int} {f : Nat} {A : List RE} : TA now wait f 0 A = A := mi_none fun p r _ => by
  have : ¬ (f ≤ p ∧ p < f + 0) := by omega
  simp; omega
theorem TA_get {now wait : Int} {f j : Nat} {A : List RE} (h : f + j < A.length) : (TA now wait f j A)[f + j]'(by rw [TA_len]; exact h) = A[f + j] := by
  rw [TA_at h]
  simp
theorem TA_succ {now wait : Int} {f j : Nat} {A : List RE} (h : f + j < A.length) : TA now wait f (j + 1) A = if skip now wait A[f + j] = true then TA now wait f j A else (TA now wait f j A).set (f + j) (A[f + j].1, now, A[f + j].2.2) := by
  have := mi_set (P := fun p r => decide (f ≤ p) && decide (p < f + j) && !skip now wait r) (Q := fun p r => decide (f ≤ p) && decide (p < f + (j + 1)) && !skip now wait r) (g := fun r => (r.1, now, r.2.2)) h (fun p r _ hp => by
    by_cases h1 : p < f + j
    · simp [h1, show p < f + (j + 1) by omega]
    · simp [h1, show ¬ p < f + (j + 1) by omega])
  have e : decide (f + j < f + (j + 1)) = true := by simp
  simp only [e, Nat.le_add_right, decide_true, Bool.true_and] at this
  unfold TA
  rw [this]
  by_cases hs : skip now wait A[f + j] = true
  · rw [if_pos hs]
    simp only [hs, Bool.not_true, Bool.false_eq_true, if_false]
    have h2 := TA_get (now := now) (wait := wait) h
    unfold TA at h2
    have h3 : (mi (fun p r => decide (f ≤ p) && decide (p < f + j) && !skip now wait r) (fun r => (r.1, now, r.2.2)) A).set (f + j) A[f + j] = (mi (fun p r => decide (f ≤ p) && decide (p < f + j) && !skip now wait r) (fun r => (r.1, now, r.2.2)) A) := by
      conv => lhs; rw [← h2]
      exact List.set_getElem_self _
    exact h3
  · rw [if_neg hs]
    simp only [Bool.not_eq_true] at hs
    simp only [hs, Bool.not_false, if_true]
theorem Inv.tick {W : Nat} {A : List RE} {S : Nat} (h : Inv W A S) {now wait : Int} (hn : 0 ≤ now) :
    Inv W (TA now wait (fr A) (min W (A.length - fr A)) A) (fr A + min W (A.length - fr A)) ∧ fr (TA now wait (fr A) (min W (A.length - fr A)) A) = fr A := by
  have hl := fr_le A
  have hS := h.Sl; have hw := h.Sw; have hf := h.fS
  have e : fr (TA now wait (fr A) (min W (A.length - fr A)) A) = fr A := by
    refine fr_same TA_len fun p hp hq => ?_
    rw [TA_at hq hp]; split <;> rfl
  refine ⟨⟨by rw [e]; omega, by rw [TA_len]; omega, by rw [e]; omega, fun p hp => ?_, fun p hp ha => ?_⟩, e⟩
  · have hq : p < A.length := by rw [TA_len] at hp; exact hp
    rw [TA_at hq hp]
    have hs := h.sent p hq
    have ha := h.ans p hq
    split
    · rename_i hc
      simp only [Bool.and_eq_true, decide_eq_true_eq] at hc
      simp only [hn, true_iff]; omega
    · rename_i hc
      simp only [Bool.and_eq_true, decide_eq_true_eq, Bool.not_eq_true'] at hc
      by_cases h1 : fr A ≤ p ∧ p < fr A + min W (A.length - fr A)
      · have h2 : skip now wait A[p] = true := by
          cases hk : skip now wait A[p] with
          | true => rfl
          | false => exact absurd ⟨h1, hk⟩ hc
        unfold skip at h2
        rw [hs]
        simp only [Bool.or_eq_true, Bool.and_eq_true, decide_eq_true_eq] at h2
        have : p < S := by
          rcases h2 with h2 | h2
          · exact ha h2
          · exact hs.1 h2.1
        omega
      · rw [hs]; omega
  · have hq : p < A.length := by rw [TA_len] at hp; exact hp
    rw [TA_at hq hp] at ha
    have : A[p].2.2 = true := by revert ha; split <;> exact id
    have := h.ans p hq this
    omega
/-! ### Hear -/
def mk (body : ByteArray) (m : Nat) : Bool := iand .u8 (ishr .u8 (bt body ((m / 8 : Nat) : Int)) ((7 - m % 8 : Nat) : Int)) 1 == 1
def hc (body : ByteArray) (D i : Nat) : Bool := decide (i < D) || (decide (D < i) && mk body (i - D - 1))
def HA (body : ByteArray) (f D m : Nat) (A : List RE) : List RE := mi (fun p _ => decide (f ≤ p) && decide (p < f + m) && hc body D (p - f)) (fun r => (r.1, r.2.1, true)) A
theorem HA_len {body : ByteArray} {f D j : Nat} {A : List RE} : (HA body f D j A).length = A.length := mi_len
theorem HA_at {body : ByteArray} {f D j p : Nat} {A : List RE} (h : p < A.length) (hp : p < (HA body f D j A).length) :
    (HA body f D j A)[p] = if (decide (f ≤ p) && decide (p < f + j) && hc body D (p - f)) = true then (A[p].1, A[p].2.1, true) else A[p] := mi_get h
theorem HA_zero {body : ByteArray} {f D : Nat} {A : List RE} : HA body f D 0 A = A := mi_none fun p r _ => by
  simp; omega
theorem HA_succ {body : ByteArray} {f D j : Nat} {A : List RE} (h : f + j < A.length) : HA body f D (j + 1) A = if hc body D j = true then (HA body f D j A).set (f + j) (A[f + j].1, A[f + j].2.1, true) else HA body f D j A := by
  have hset := mi_set (P := fun p _ => decide (f ≤ p) && decide (p < f + j) && hc body D (p - f)) (Q := fun p _ => decide (f ≤ p) && decide (p < f + (j + 1)) && hc body D (p - f)) (g := fun (r : RE) => (r.1, r.2.1, true)) h (fun p r _ hp => by
    by_cases h1 : p < f + j
    · simp [h1, show p < f + (j + 1) by omega]
    · simp [h1, show ¬ p < f + (j + 1) by omega])
  by_cases hq : hc body D j = true
  · rw [if_pos hq]
    unfold HA
    rw [hset]
    simp [hq]
  · rw [if_neg hq]
    simp only [Bool.not_eq_true] at hq
    unfold HA
    refine mi_congr fun p r _ => ?_
    by_cases h1 : p = f + j
    · subst h1; simp [hq]
    · by_cases h2 : p < f + j
      · simp [h2, show p < f + (j + 1) by omega]
      · simp [h2, show ¬ p < f + (j + 1) by omega]
theorem HA_get {body : ByteArray} {f D j : Nat} {A : List RE} (h : f + j < A.length) : (HA body f D j A)[f + j]'(by rw [HA_len]; exact h) = A[f + j] := by
  rw [HA_at h]; simp
theorem Inv.hear {W : Nat} {A : List RE} {S : Nat} (h : Inv W A S) (body : ByteArray) (D : Nat) : Inv W (HA body (fr A) D (S - fr A) A) S ∧ fr A ≤ fr (HA body (fr A) D (S - fr A) A) := by
  have hl := fr_le A
  have hS := h.Sl; have hw := h.Sw; have hf := h.fS
  have hsp := fr_spec A
  have e : fr A ≤ fr (HA body (fr A) D (S - fr A) A) := by
    refine le_fr (by rw [HA_len]; exact hl) fun p hp hpm => ?_
    have hq : p < A.length := by rw [HA_len] at hp; exact hp
    rw [HA_at hq hp]
    split
    · rfl
    · exact hsp.1 p hq hpm
  have hans : ∀ p (hp : p < (HA body (fr A) D (S - fr A) A).length), (HA body (fr A) D (S - fr A) A)[p].2.2 = true → p < S := by
    intro p hp ha
    have hq : p < A.length := by rw [HA_len] at hp; exact hp
    rw [HA_at hq hp] at ha
    split at ha
    · rename_i hc'
      simp only [Bool.and_eq_true, decide_eq_true_eq] at hc'
      omega
    · exact h.ans p hq ha
  refine ⟨⟨?_, by rw [HA_len]; exact hS, by omega, fun p hp => ?_, hans⟩, e⟩
  · rcases Nat.lt_or_ge S (fr (HA body (fr A) D (S - fr A) A)) with h1 | h1
    · have h3 := fr_le (HA body (fr A) D (S - fr A) A)
      have h2 := (fr_spec (HA body (fr A) D (S - fr A) A)).1 S (by omega) h1
      have := hans S (by omega) h2
      omega
    · exact h1
  · have hq : p < A.length := by rw [HA_len] at hp; exact hp
    have := h.sent p hq
    rw [HA_at hq hp]
    split
    · exact this
    · exact this

/-! ### What the functions answer -/
theorem bnd_eq {α β : Type} {o : Option α} {a : α} {f : α → Option β} {r : Option β} (h : o = some a) (h2 : f a = r) : o.bind f = r := by subst h; exact h2
theorem tmodn {x : Int} (h : 0 ≤ x) (m : Int) : x.tmod m = x % m := Int.tmod_eq_emod_of_nonneg h
theorem Front_ok {W T n : Int} {A : List RE} (hA : A.length ≤ 1000) : f_foghornref28_Sender_Front W T n A = some (fr A : Int) := by
  unfold f_foghornref28_Sender_Front
  have hl := fr_le A
  have hs := fr_spec A
  refine bnd_eq (loop_for1 (fr A) (fr A : Int) (fun i hi => ?_) ?_) rfl
  · have hi' : i < A.length := by omega
    simp only [f_foghornref28_Sender_Front.s1, f_foghornref28_Sender_Front.s1c]
    rw [if_pos (by rw [decide_eq_true_eq]; omega), if_pos (by omega), gt_nat hi', hs.1 i hi' hi]
    simp only [Option.bind_some, if_true]
    rw [w64 (by omega) (by omega)]; rfl
  · simp only [f_foghornref28_Sender_Front.s1, f_foghornref28_Sender_Front.s1c]
    by_cases h : fr A < A.length
    · rw [if_pos (by rw [decide_eq_true_eq]; omega), if_pos (by omega), gt_nat h, hs.2 h]
      rfl
    · rw [if_neg (by rw [decide_eq_true_eq]; omega)]
      rfl
theorem LeftR_ok {W T n : Int} {A : List RE} (hA : A.length ≤ 1000) : f_foghornref28_Sender_Left W T n A = some ((A.length - fr A : Nat) : Int) := by
  have hl := fr_le A
  unfold f_foghornref28_Sender_Left
  rw [Front_ok hA]
  simp only [Option.bind_some]
  rw [w64 (by omega) (by omega), Int.ofNat_sub hl]
theorem LeftC_ok {W T n F : Int} {A : List RE} : f_again_Sender_Left W T n F (vw A (fr A)) = some ((A.length - fr A : Nat) : Int) := by
  unfold f_again_Sender_Left
  rw [vw_len]
/-- The two senders' answers to Offer. -/
theorem Offer_both {W T n F : Int} {A : List RE} {Wn S : Nat} (hI : Inv Wn A S) (hA : A.length ≤ 1000) (b : ByteArray) :
    ∃ e A' , f_again_Sender_Offer W T n F (vw A (fr A)) b = some (e, W, T, n, F, vw A' (fr A')) ∧ f_foghornref28_Sender_Offer W T n A b = some (e, W, T, n, A') ∧ fr A' = fr A ∧ A'.length ≤ A.length + 1 ∧ ∃ S', Inv Wn A' S' := by
  have hl := fr_le A
  unfold f_again_Sender_Offer f_foghornref28_Sender_Offer
  by_cases hb : (240 : Int) < (b.size : Int)
  · exact ⟨1, A, by rw [if_pos (by simpa using hb)], by rw [if_pos (by simpa using hb)], rfl, by omega, S, hI⟩
  · obtain ⟨h1, h2⟩ := hI.offer b
    refine ⟨0, A ++ [(b, -1, false)], ?_, ?_, h2, by simp, S, h1⟩
    · rw [if_neg (by simpa using hb), vw_len, if_neg (by rw [decide_eq_true_eq]; omega), if_pos (by simp only [List.length_cons, List.length_nil]; omega), h2]
      have e : vw (A ++ [(b, -1, false)]) (fr A) = vw A (fr A) ++ [(b, false, (0 : Int), false)] := by
        unfold vw
        rw [List.drop_append_of_le_length hl, List.map_append]; rfl
      rw [e]
    · rw [if_neg (by simpa using hb), LeftR_ok hA]
      simp only [Option.bind_some]
      rw [if_neg (by rw [decide_eq_true_eq]; omega), if_pos (by simp only [List.length_cons, List.length_nil]; omega)]
/-- The two senders' answers to Tick. -/
theorem due_cv (now wait : Int) (r : RE) : ((!(cv r).2.2.2) && ((!(cv r).2.1) || (decide (wait ≤ (IntKind.i64.wrap (now - (cv r).2.2.1)))))) = !skip now wait r := by
  unfold skip cv
  by_cases h : 0 ≤ r.2.1
  · simp only [h, decide_true, if_true, Bool.not_true, Bool.false_or, Bool.true_and]
    by_cases h2 : wait ≤ IntKind.i64.wrap (now - r.2.1)
    · simp [h2, show ¬ IntKind.i64.wrap (now - r.2.1) < wait by omega]
    · simp [h2, show IntKind.i64.wrap (now - r.2.1) < wait by omega]
  · simp [h]
theorem TickC_ok {W : Nat} {T n F now : Int} {A : List RE} (hF : F = (fr A : Int)) (hA : A.length ≤ 1000) (hW : W ≤ 128) (hn : n ≤ now) (h0 : 0 ≤ now) :
    f_again_Sender_Tick (W : Int) T n F (vw A (fr A)) now = some (TO now T (fr A) A (min W (A.length - fr A)), 0, (W : Int), T, now, F, vw (TA now T (fr A) (min W (A.length - fr A)) A) (fr A)) := by
  have hl := fr_le A
  unfold f_again_Sender_Tick
  rw [if_neg (by rw [decide_eq_true_eq]; omega)]
  refine bnd_eq (loop_run (min W (A.length - fr A)) (fun j => ((W : Int), T, now, F, vw (TA now T (fr A) j A) (fr A), now, TO now T (fr A) A j, (j : Int))) ((W : Int), T, now, F, vw (TA now T (fr A) (min W (A.length - fr A)) A) (fr A), TO now T (fr A) A (min W (A.length - fr A))) (fun j hj => ?_) ?_ ?_) rfl
  · have hj' : fr A + j < A.length := by omega
    have hL : (TA now T (fr A) j A).length = A.length := TA_len
    simp only [f_again_Sender_Tick.s1, f_again_Sender_Tick.s1c]
    rw [vw_len, vw_len, hL, imin_nat, if_pos (by rw [decide_eq_true_eq]; omega), if_pos (by omega)]
    simp only [f_again_Sender_Tick_1, Option.bind_some]
    have hg : gt (vw (TA now T (fr A) j A) (fr A)) (j : Int) = cv A[fr A + j] := by rw [vw_gt (by omega), TA_get hj']
    rw [hg, due_cv]
    have hTA := TA_succ (now := now) (wait := T) hj'
    have hTO : TO now T (fr A) A (j + 1) = if skip now T A[fr A + j] = true then TO now T (fr A) A j else TO now T (fr A) A j ++ [(1, (((fr A + j) % 256 : Nat) : Int), false, A[fr A + j].1)] := by
      have : gt A ((fr A + j : Nat) : Int) = A[fr A + j] := gt_nat hj'
      rw [TO, this]
    have hTl := TO_len now T (fr A) A j
    have hw1 : IntKind.i64.wrap ((j : Int) + 1) = ((j + 1 : Nat) : Int) := by rw [w64 (by omega) (by omega)]; omega
    by_cases hs : skip now T A[fr A + j] = true
    · rw [if_pos hs] at hTA hTO
      simp only [hs, Bool.not_true, Bool.false_eq_true, if_false]
      rw [hTA, hTO, hw1]
    · rw [if_neg hs] at hTA hTO
      simp only [Bool.not_eq_true] at hs
      simp only [hs, Bool.not_false, if_true]
      have hlen : j < (vw (TA now T (fr A) j A) (fr A)).length := by rw [vw_len]; omega
      simp only [Int.toNat_natCast, gt_set_self hlen, List.set_set]
      have hn8 : IntKind.u8.wrap (IntKind.i64.wrap (F + (j : Int))) = (((fr A + j) % 256 : Nat) : Int) := by
        rw [hF, w64 (by omega) (by omega), IntKind.wrap_u8]; omega
      rw [if_pos (by simp only [List.length_cons, List.length_nil]; omega), hn8, hw1, hTA, hTO, vw_set]
      simp only [cv, h0, decide_true, if_true]
  · have hL : (TA now T (fr A) (min W (A.length - fr A)) A).length = A.length := TA_len
    simp only [f_again_Sender_Tick.s1, f_again_Sender_Tick.s1c]
    rw [vw_len, imin_nat, if_neg (by rw [decide_eq_true_eq]; omega)]
  · rw [TA_zero]; rfl
theorem TickR_ok {W : Nat} {T n now : Int} {A : List RE} (hA : A.length ≤ 1000) (hW : W ≤ 128) (hn : n ≤ now) (h0 : 0 ≤ now) :
    f_foghornref28_Sender_Tick (W : Int) T n A now = some (TO now T (fr A) A (min W (A.length - fr A)), 0, (W : Int), T, now, TA now T (fr A) (min W (A.length - fr A)) A) := by
  have hl := fr_le A
  unfold f_foghornref28_Sender_Tick
  rw [if_neg (by simp; omega), Front_ok hA]
  simp only [Option.bind_some]
  refine bnd_eq (loop_run (min W (A.length - fr A)) (fun j => ((W : Int), T, now, TA now T (fr A) j A, TO now T (fr A) A j, ((fr A + j : Nat) : Int))) ((W : Int), T, now, TA now T (fr A) (min W (A.length - fr A)) A, TO now T (fr A) A (min W (A.length - fr A))) (fun j hj => ?_) ?_ ?_) rfl
  · have hj' : fr A + j < A.length := by omega
    have hL : (TA now T (fr A) j A).length = A.length := TA_len
    simp only [f_foghornref28_Sender_Tick.s1, f_foghornref28_Sender_Tick.s1c]
    rw [hL, w64 (x := (fr A : Int) + (W : Int)) (by omega) (by omega), if_pos (by simp; omega), if_pos (by omega)]
    have hg : gt (TA now T (fr A) j A) ((fr A + j : Nat) : Int) = A[fr A + j] := by rw [gt_nat (by omega), TA_get hj']
    rw [hg]
    have hTA := TA_succ (now := now) (wait := T) hj'
    have hTO : TO now T (fr A) A (j + 1) = if skip now T A[fr A + j] = true then TO now T (fr A) A j else TO now T (fr A) A j ++ [(1, (((fr A + j) % 256 : Nat) : Int), false, A[fr A + j].1)] := by
      have : gt A ((fr A + j : Nat) : Int) = A[fr A + j] := gt_nat hj'
      rw [TO, this]
    have hTl := TO_len now T (fr A) A j
    have hw1 : IntKind.i64.wrap (((fr A + j : Nat) : Int) + 1) = ((fr A + (j + 1) : Nat) : Int) := by rw [w64 (by omega) (by omega)]; omega
    have hz : (if A[fr A + j].2.2 = true then some true else if 0 ≤ ((fr A + j : Nat) : Int) ∧ ((fr A + j : Nat) : Int) < (A.length : Int) then ((if (decide (0 ≤ A[fr A + j].2.1)) = true then (if 0 ≤ ((fr A + j : Nat) : Int) ∧ ((fr A + j : Nat) : Int) < (A.length : Int) then some (decide (IntKind.i64.wrap (now - A[fr A + j].2.1) < T)) else none) else some false).bind fun z => some z) else none) = some (skip now T A[fr A + j]) := by
      unfold skip
      have hc : 0 ≤ ((fr A + j : Nat) : Int) ∧ ((fr A + j : Nat) : Int) < (A.length : Int) := by omega
      rw [if_pos hc, if_pos hc]
      cases A[fr A + j].2.2 with
      | true => simp
      | false =>
        by_cases h2 : 0 ≤ A[fr A + j].2.1
        · simp [h2]
        · simp [h2]
    rw [hz]
    simp only [Option.bind_some]
    by_cases hs : skip now T A[fr A + j] = true
    · rw [if_pos hs] at hTA hTO
      rw [if_pos hs, hTA, hTO, hw1]
    · rw [if_neg hs] at hTA hTO
      rw [if_neg hs, if_pos (by omega), List.length_set, hL, if_pos (by omega), Int.toNat_natCast, gt_set_self (by omega)]
      have hn8 : IntKind.u8.wrap ((((fr A + j : Nat) : Int)).tmod 256) = (((fr A + j) % 256 : Nat) : Int) := by
        rw [tmodn (by omega), IntKind.wrap_u8]; omega
      rw [if_pos (by simp only [List.length_cons, List.length_nil]; omega), hn8, hw1, hTA, hTO]
  · have hL : (TA now T (fr A) (min W (A.length - fr A)) A).length = A.length := TA_len
    simp only [f_foghornref28_Sender_Tick.s1, f_foghornref28_Sender_Tick.s1c]
    rw [hL, w64 (x := (fr A : Int) + (W : Int)) (by omega) (by omega), if_neg (by simp; omega)]
  · rw [TA_zero]; rfl
/-- The two senders' answers to Hear. -/
theorem dd {N : Int} {f : Nat} (h0 : 0 ≤ N) (h1 : N < 256) (hf : f ≤ 1000) :
    IntKind.i64.wrap (IntKind.u8.wrap (N - IntKind.u8.wrap (f : Int))) = ((((N - f) % 256).toNat : Nat) : Int) ∧
    (IntKind.i64.wrap (IntKind.i64.wrap (IntKind.i64.wrap N - ((f : Int)).tmod 256) + 256)).tmod 256 = ((((N - f) % 256).toNat : Nat) : Int) := by
  constructor
  · rw [IntKind.wrap_u8, IntKind.wrap_u8, w64 (by omega) (by omega)]; omega
  · rw [show ((f : Int)).tmod 256 = (f : Int) % 256 from tmodn (by omega) _, w64 (x := N) (by omega) (by omega), w64 (x := N - (f : Int) % 256) (by omega) (by omega), w64 (by omega) (by omega), tmodn (by omega)]; omega
theorem Mark_ok {body : ByteArray} (hb : body.size = 16) {m : Nat} (hm : m < 128) : f_foghornref28_Mark body (m : Int) = some (mk body m) := by
  have e1 : ((m : Int)).tdiv 8 = ((m / 8 : Nat) : Int) := tdiv_nat m 8
  have e2 : ((m : Int)).tmod 8 = ((m % 8 : Nat) : Int) := tmod_nat m 8
  unfold f_foghornref28_Mark mk
  rw [e1, e2, w64 (x := ((m / 8 : Nat) : Int)) (by omega) (by omega), if_pos (by rw [hb]; omega), w64 (by omega) (by omega), if_pos (by omega)]
  rw [show (7 : Int) - ((m % 8 : Nat) : Int) = ((7 - m % 8 : Nat) : Int) by omega]
theorem K_code {W S : Nat} {A : List RE} (hI : Inv W A S) (hA : A.length ≤ 1000) : loop (f_again_Sender_Hear.s1 (W : Int) (vw A (fr A))) 0 = some ((S - fr A : Nat) : Int) := by
  have hS := hI.Sl; have hw := hI.Sw; have hf := hI.fS
  refine loop_for1 (S - fr A) _ (fun i hi => ?_) ?_
  · simp only [f_again_Sender_Hear.s1, f_again_Sender_Hear.s1c]
    rw [vw_len, imin_nat, if_pos (by rw [decide_eq_true_eq]; omega), if_pos (by omega), vw_gt (by omega)]
    have := (hI.sent (fr A + i) (by omega)).2 (by omega)
    simp only [Option.bind_some, cv, this, decide_true, if_true]
    rw [w64 (by omega) (by omega)]; rfl
  · simp only [f_again_Sender_Hear.s1, f_again_Sender_Hear.s1c]
    rw [vw_len, imin_nat]
    by_cases h : S - fr A < min W (A.length - fr A)
    · rw [if_pos (by rw [decide_eq_true_eq]; omega), if_pos (by omega), vw_gt (by omega)]
      have : ¬ 0 ≤ A[fr A + (S - fr A)].2.1 := fun h1 => by have := (hI.sent _ (by omega)).1 h1; omega
      simp [cv, this]
    · rw [if_neg (by rw [decide_eq_true_eq]; omega)]; rfl
theorem K_ref {W S : Nat} {A : List RE} (hI : Inv W A S) (hA : A.length ≤ 1000) (hW : W ≤ 128) : loop (f_foghornref28_Sender_Hear.s1 (W : Int) A (fr A : Int)) (0, (fr A : Int)) = some ((S - fr A : Nat) : Int) := by
  have hS := hI.Sl; have hw := hI.Sw; have hf := hI.fS
  refine loop_run (min W (A.length - fr A)) (fun j => (((min j (S - fr A) : Nat) : Int), ((fr A + j : Nat) : Int))) _ (fun j hj => ?_) ?_ ?_
  · simp only [f_foghornref28_Sender_Hear.s1, f_foghornref28_Sender_Hear.s1c]
    have hs := hI.sent (fr A + j) (by omega)
    rw [w64 (x := (fr A : Int) + (W : Int)) (by omega) (by omega), if_pos (by simp; omega), if_pos (by omega), gt_nat (by omega), w64 (x := ((fr A + j : Nat) : Int) + 1) (by omega) (by omega)]
    by_cases h : fr A + j < S
    · rw [if_pos (by rw [decide_eq_true_eq]; exact hs.2 h), w64 (by omega) (by omega)]
      refine congrArg some (congrArg Sum.inl (Prod.ext ?_ ?_)) <;> simp only <;> omega
    · rw [if_neg (by rw [decide_eq_true_eq]; exact fun h1 => h (hs.1 h1))]
      refine congrArg some (congrArg Sum.inl (Prod.ext ?_ ?_)) <;> simp only <;> omega
  · simp only [f_foghornref28_Sender_Hear.s1, f_foghornref28_Sender_Hear.s1c]
    rw [w64 (x := (fr A : Int) + (W : Int)) (by omega) (by omega), if_neg (by simp; omega)]
    refine congrArg some (congrArg Sum.inr ?_); omega
  · refine Prod.ext ?_ ?_ <;> simp only <;> omega
theorem cut_code {W T n : Int} {B : List RE} {f : Nat} (hB : B.length ≤ 1000) (hf : f ≤ fr B) : loop f_again_Sender_Hear.s3 (W, T, n, (f : Int), vw B f) = some (W, T, n, (fr B : Int), vw B (fr B)) := by
  have hl := fr_le B
  have hs := fr_spec B
  refine loop_run (fr B - f) (fun j => (W, T, n, ((f + j : Nat) : Int), vw B (f + j))) _ (fun j hj => ?_) ?_ rfl
  · simp only [f_again_Sender_Hear.s3, f_again_Sender_Hear.s3c]
    have h0 : gt (vw B (f + j)) 0 = cv (B[f + j]'(by omega)) := vw_gt (j := 0) (by omega)
    rw [vw_len, if_pos (by rw [decide_eq_true_eq]; omega), if_pos (by omega), h0]
    have := hs.1 (f + j) (by omega) (by omega)
    simp only [Option.bind_some, cv, this, if_true]
    rw [if_pos (by omega), w64 (by omega) (by omega), show (1 : Int).toNat = 1 from rfl, vw_drop]
    refine congrArg some (congrArg Sum.inl ?_)
    refine Prod.ext rfl (Prod.ext rfl (Prod.ext rfl (Prod.ext ?_ rfl))); simp only; omega
  · simp only [f_again_Sender_Hear.s3, f_again_Sender_Hear.s3c]
    have e : f + (fr B - f) = fr B := by omega
    rw [e, vw_len]
    by_cases h : fr B < B.length
    · have h0 : gt (vw B (fr B)) 0 = cv B[fr B] := vw_gt (j := 0) (by omega)
      rw [if_pos (by rw [decide_eq_true_eq]; omega), if_pos (by omega), h0]
      simp [cv, hs.2 h]
    · rw [if_neg (by rw [decide_eq_true_eq]; omega)]; rfl
/-- what the marks do, in the code -/
theorem marks_code {W T n N : Int} {A : List RE} {body : ByteArray} {K D : Nat} (hb : body.size = 16) (hA : A.length ≤ 1000) (hK : fr A + K ≤ A.length) (hK2 : K ≤ 128) (h0 : 0 ≤ N) (h1 : N < 256) (hD : D = ((N - fr A) % 256).toNat) :
    loop (f_again_Sender_Hear.s2 (fr A : Int) N body (K : Int)) (W, T, n, (fr A : Int), vw A (fr A), 0) = some (W, T, n, (fr A : Int), vw (HA body (fr A) D K A) (fr A)) := by
  have hl := fr_le A
  refine loop_run K (fun j => (W, T, n, (fr A : Int), vw (HA body (fr A) D j A) (fr A), (j : Int))) _ (fun j hj => ?_) ?_ ?_
  · have hL : (HA body (fr A) D j A).length = A.length := HA_len
    have hj' : fr A + j < A.length := by omega
    simp only [f_again_Sender_Hear.s2, f_again_Sender_Hear.s2c]
    rw [(dd h0 h1 (by omega)).1, ← hD, if_pos (by rw [decide_eq_true_eq]; omega)]
    have hD2 : D < 256 := by omega
    have e0 : IntKind.i64.wrap ((j : Int) - (D : Int)) = (j : Int) - D := w64 (by omega) (by omega)
    have e1 : IntKind.i64.wrap ((j : Int) - (D : Int) - 1) = (j : Int) - D - 1 := w64 (by omega) (by omega)
    rw [e0, e1]
    have hg : gt (vw (HA body (fr A) D j A) (fr A)) (j : Int) = cv A[fr A + j] := by rw [vw_gt (by omega), HA_get hj']
    have hz : (if decide ((j : Int) < (D : Int)) = true then some true else
        ((if decide ((0 : Int) ≤ (j : Int) - D - 1) = true then
          if 0 ≤ IntKind.i64.wrap (((j : Int) - D - 1).tdiv 8) ∧ IntKind.i64.wrap (((j : Int) - D - 1).tdiv 8) < (body.size : Int) then
            if 0 ≤ IntKind.i64.wrap (7 - ((j : Int) - D - 1).tmod 8) then
              some (iand .u8 (ishr .u8 (bt body (IntKind.i64.wrap (((j : Int) - D - 1).tdiv 8))) (IntKind.i64.wrap (7 - ((j : Int) - D - 1).tmod 8))) 1 == 1)
            else none
          else none
        else some false).bind fun z => some z)) = some (hc body D j) := by
      unfold hc
      by_cases c1 : j < D
      · simp [c1]
      · by_cases c2 : D < j
        · have e2 : (j : Int) - D - 1 = ((j - D - 1 : Nat) : Int) := by omega
          have := Mark_ok hb (m := j - D - 1) (by omega)
          unfold f_foghornref28_Mark at this
          rw [if_neg (by rw [decide_eq_true_eq]; omega), if_pos (by rw [decide_eq_true_eq]; omega), e2, this]
          simp [c1, c2]
        · rw [if_neg (by rw [decide_eq_true_eq]; omega), if_neg (by rw [decide_eq_true_eq]; omega)]
          simp [c1, c2]
    rw [hz]
    simp only [Option.bind_some]
    have hw1 : IntKind.i64.wrap ((j : Int) + 1) = ((j + 1 : Nat) : Int) := by rw [w64 (by omega) (by omega)]; omega
    have hH := HA_succ (body := body) (D := D) hj'
    by_cases hq : hc body D j = true
    · rw [if_pos hq] at hH
      rw [if_pos hq, vw_len, hL, if_pos (by omega), hw1, hH, vw_set, hg, Int.toNat_natCast]
      rfl
    · rw [if_neg hq] at hH
      rw [if_neg hq, hw1, hH]
  · simp only [f_again_Sender_Hear.s2, f_again_Sender_Hear.s2c]
    rw [if_neg (by rw [decide_eq_true_eq]; omega)]
  · rw [HA_zero]; rfl
/-- what the marks do, in the document -/
def H2 (body : ByteArray) (f D K m : Nat) (A : List RE) : List RE := mi (fun p _ => decide (f ≤ p) && (decide (p < f + D) || (decide (f + D < p) && decide (p < f + K) && decide (p < f + D + 1 + m) && mk body (p - f - D - 1)))) (fun r => (r.1, r.2.1, true)) A
theorem marks_ref {W T n N : Int} {A : List RE} {body : ByteArray} {K D : Nat} (hb : body.size = 16) (hA : A.length ≤ 1000) (hK : fr A + K ≤ A.length) (hK2 : K ≤ 128) (h0 : 0 ≤ N) (h1 : N < 256) (hD : D = ((N - fr A) % 256).toNat) (hDK : D ≤ K) :
    ∃ q, loop (f_foghornref28_Sender_Hear.s2 N (fr A : Int)) (W, T, n, A, 0) = some q ∧ loop (f_foghornref28_Sender_Hear.s3 N body (fr A : Int) (K : Int)) (q.1, q.2.1, q.2.2.1, q.2.2.2, 0) = some (W, T, n, HA body (fr A) D K A) := by
  have hl := fr_le A
  have hD2 : D < 256 := by omega
  refine ⟨(W, T, n, H2 body (fr A) D K 0 A), ?_, ?_⟩
  · refine loop_run D (fun j => (W, T, n, mi (fun p _ => decide (fr A ≤ p) && decide (p < fr A + j)) (fun r => (r.1, r.2.1, true)) A, (j : Int))) _ (fun j hj => ?_) ?_ ?_
    · simp only [f_foghornref28_Sender_Hear.s2, f_foghornref28_Sender_Hear.s2c]
      have hj' : fr A + j < A.length := by omega
      rw [(dd h0 h1 (by omega)).2, ← hD, if_pos (by rw [decide_eq_true_eq]; omega), w64 (x := (fr A : Int) + (j : Int)) (by omega) (by omega), mi_len, if_pos (by omega), w64 (by omega) (by omega)]
      have hs := mi_set (P := fun p _ => decide (fr A ≤ p) && decide (p < fr A + j)) (Q := fun p _ => decide (fr A ≤ p) && decide (p < fr A + (j + 1))) (g := fun (r : RE) => (r.1, r.2.1, true)) hj' (fun p r _ hp => by
        by_cases h1 : p < fr A + j
        · simp [h1, show p < fr A + (j + 1) by omega]
        · simp [h1, show ¬ p < fr A + (j + 1) by omega])
      rw [hs]
      have hg : gt (mi (fun p _ => decide (fr A ≤ p) && decide (p < fr A + j)) (fun (r : RE) => (r.1, r.2.1, true)) A) ((fr A : Int) + (j : Int)) = A[fr A + j] := by
        rw [show (fr A : Int) + (j : Int) = ((fr A + j : Nat) : Int) by omega, gt_nat (by rw [mi_len]; omega), mi_get hj']; simp
      rw [hg, show ((fr A : Int) + (j : Int)).toNat = fr A + j by omega]
      simp
    · simp only [f_foghornref28_Sender_Hear.s2, f_foghornref28_Sender_Hear.s2c]
      rw [(dd h0 h1 (by omega)).2, ← hD, if_neg (by rw [decide_eq_true_eq]; omega)]
      refine congrArg some (congrArg Sum.inr ?_)
      refine Prod.ext rfl (Prod.ext rfl (Prod.ext rfl ?_))
      refine mi_congr fun p r _ => ?_
      by_cases c1 : p < fr A + D
      · simp [c1]
      · simp [c1]; intro _ _ _; omega
    · rw [mi_none fun p r _ => by simp]; rfl
  · refine loop_run 128 (fun j => (W, T, n, H2 body (fr A) D K j A, (j : Int))) _ (fun j hj => ?_) ?_ ?_
    · simp only [f_foghornref28_Sender_Hear.s3, f_foghornref28_Sender_Hear.s3c]
      rw [(dd h0 h1 (by omega)).2, ← hD, if_pos (by rw [decide_eq_true_eq]; omega)]
      have e0 : IntKind.i64.wrap ((fr A : Int) + (D : Int)) = (fr A : Int) + D := w64 (by omega) (by omega)
      have e1 : IntKind.i64.wrap ((fr A : Int) + (D : Int) + 1) = (fr A : Int) + D + 1 := w64 (by omega) (by omega)
      have e2 : IntKind.i64.wrap ((fr A : Int) + (D : Int) + 1 + (j : Int)) = ((fr A + D + 1 + j : Nat) : Int) := by rw [w64 (by omega) (by omega)]; omega
      have e3 : IntKind.i64.wrap ((fr A : Int) + (K : Int)) = ((fr A + K : Nat) : Int) := by rw [w64 (by omega) (by omega)]; omega
      have e4 : IntKind.i64.wrap ((j : Int) + 1) = ((j + 1 : Nat) : Int) := by rw [w64 (by omega) (by omega)]; omega
      rw [e0, e1, e2, e3, e4, Mark_ok hb hj]
      simp only [Option.bind_some]
      by_cases c1 : fr A + D + 1 + j < fr A + K
      · have hj' : fr A + D + 1 + j < A.length := by omega
        have hs := mi_set (P := fun p _ => decide (fr A ≤ p) && (decide (p < fr A + D) || (decide (fr A + D < p) && decide (p < fr A + K) && decide (p < fr A + D + 1 + j) && mk body (p - fr A - D - 1))))
          (Q := fun p _ => decide (fr A ≤ p) && (decide (p < fr A + D) || (decide (fr A + D < p) && decide (p < fr A + K) && decide (p < fr A + D + 1 + (j + 1)) && mk body (p - fr A - D - 1)))) (g := fun (r : RE) => (r.1, r.2.1, true)) hj' (fun p r _ hp => by
          by_cases h1 : p < fr A + D + 1 + j
          · simp [h1, show p < fr A + D + 1 + (j + 1) by omega]
          · simp [h1, show ¬ p < fr A + D + 1 + (j + 1) by omega])
        have em : fr A + D + 1 + j - fr A - D - 1 = j := by omega
        have eQ : (decide (fr A ≤ fr A + D + 1 + j) && (decide (fr A + D + 1 + j < fr A + D) || (decide (fr A + D < fr A + D + 1 + j) && decide (fr A + D + 1 + j < fr A + K) && decide (fr A + D + 1 + j < fr A + D + 1 + (j + 1)) && mk body (fr A + D + 1 + j - fr A - D - 1)))) = mk body j := by
          rw [em]
          simp [c1, show fr A ≤ fr A + D + 1 + j by omega, show fr A + D < fr A + D + 1 + j by omega]
          intro h; omega
        have hg : (H2 body (fr A) D K j A)[fr A + D + 1 + j]'(by rw [H2, mi_len]; exact hj') = A[fr A + D + 1 + j] := by
          have := mi_get (P := fun p _ => decide (fr A ≤ p) && (decide (p < fr A + D) || (decide (fr A + D < p) && decide (p < fr A + K) && decide (p < fr A + D + 1 + j) && mk body (p - fr A - D - 1)))) (g := fun (r : RE) => (r.1, r.2.1, true)) hj'
          simp at this
          exact this.trans (if_neg (by omega))
        have hLn : (H2 body (fr A) D K j A).length = A.length := mi_len
        rw [if_pos (by rw [decide_eq_true_eq]; omega)]
        simp only [Option.bind_some]
        have hs' : H2 body (fr A) D K (j + 1) A = (H2 body (fr A) D K j A).set (fr A + D + 1 + j) (if mk body j = true then (A[fr A + D + 1 + j].1, A[fr A + D + 1 + j].2.1, true) else A[fr A + D + 1 + j]) := by
          have h9 := hs
          simp only [eQ] at h9
          exact h9
        by_cases hq : mk body j = true
        · rw [if_pos hq] at hs'
          rw [if_pos hq, hLn, if_pos (by omega), hs', gt_nat (by omega), hg, Int.toNat_natCast]
        · rw [if_neg hq] at hs'
          rw [if_neg hq, hs']
          conv => rhs; rw [← hg]
          rw [List.set_getElem_self]
      · rw [if_neg (by rw [decide_eq_true_eq]; omega)]
        simp only [Option.bind_some, Bool.false_eq_true, if_false]
        refine congrArg some (congrArg Sum.inl (Prod.ext rfl (Prod.ext rfl (Prod.ext rfl (Prod.ext ?_ rfl)))))
        refine mi_congr fun p r _ => ?_
        by_cases h3 : p < fr A + K
        · simp [show p < fr A + D + 1 + j by omega, show p < fr A + D + 1 + (j + 1) by omega]
        · simp [h3]
    · simp only [f_foghornref28_Sender_Hear.s3, f_foghornref28_Sender_Hear.s3c]
      rw [if_neg (by simp)]
      refine congrArg some (congrArg Sum.inr (Prod.ext rfl (Prod.ext rfl (Prod.ext rfl ?_))))
      refine mi_congr fun p r _ => ?_
      unfold hc
      by_cases c0 : fr A ≤ p
      · by_cases c1 : p < fr A + K
        · have a1 : decide (p < fr A + D) = decide (p - fr A < D) := by congr 1; simp; omega
          have a2 : decide (fr A + D < p) = decide (D < p - fr A) := by congr 1; simp; omega
          simp [c0, c1, a1, a2, show p < fr A + D + 1 + 128 by omega]
        · simp [c0, c1]; omega
      · simp [c0]
    · rfl
theorem Hear_both {W S : Nat} {T n F N kd : Int} {A : List RE} {mo : Bool} {body : ByteArray} (hI : Inv W A S) (hF : F = (fr A : Int)) (hA : A.length ≤ 1000) (hW : W ≤ 128) (h0 : 0 ≤ N) (h1 : N < 256) :
    ∃ e A', f_again_Sender_Hear (W : Int) T n F (vw A (fr A)) kd N mo body = some (e, (W : Int), T, n, (fr A' : Int), vw A' (fr A')) ∧ f_foghornref28_Sender_Hear (W : Int) T n A kd N mo body = some (e, (W : Int), T, n, A') ∧ A'.length = A.length ∧ ∃ S', Inv W A' S' := by
  have hl := fr_le A
  have hS := hI.Sl; have hw := hI.Sw; have hf := hI.fS
  subst hF
  unfold f_again_Sender_Hear f_foghornref28_Sender_Hear
  by_cases hg : (((kd != (2 : Int)) || mo) || ((body.size : Int) != (16 : Int))) = true
  · exact ⟨4, A, by rw [if_pos hg], by rw [if_pos hg], rfl, S, hI⟩
  rw [if_neg hg, if_neg hg, K_code hI hA, Front_ok hA]
  simp only [Option.bind_some]
  rw [K_ref hI hA hW]
  simp only [Option.bind_some]
  rw [(dd h0 h1 (by omega)).1, (dd h0 h1 (by omega)).2]
  obtain ⟨D, hD⟩ : ∃ D, D = ((N - fr A) % 256).toNat := ⟨_, rfl⟩
  rw [← hD]
  have hb : body.size = 16 := by
    simp at hg; omega
  by_cases hk : S - fr A < D
  · exact ⟨0, A, by rw [if_pos (by rw [decide_eq_true_eq]; omega)], by rw [if_pos (by rw [decide_eq_true_eq]; omega)], rfl, S, hI⟩
  obtain ⟨hI2, hf2⟩ := hI.hear body D
  obtain ⟨q, q1, q2⟩ := marks_ref (W := W) (T := T) (n := n) (A := A) (K := S - fr A) hb hA (by omega) (by omega) h0 h1 hD (by omega)
  refine ⟨0, HA body (fr A) D (S - fr A) A, ?_, ?_, HA_len, S, hI2⟩
  · rw [if_neg (by rw [decide_eq_true_eq]; omega), marks_code hb hA (by omega) (by omega) h0 h1 hD]
    simp only [Option.bind_some]
    rw [cut_code (by rw [HA_len]; exact hA) hf2]
    rfl
  · rw [if_neg (by rw [decide_eq_true_eq]; omega), q1]
    simp only [Option.bind_some]
    rw [q2]
    rfl
theorem seq_refl (s : ByteArray) : seq s s = true := by simp [seq]
theorem sameAll_ok (l : List FR) (hl : l.length ≤ 1000) : f_foghornlaw28_sameAll l l = some true := by
  unfold f_foghornlaw28_sameAll
  rw [if_neg (by simp)]
  refine bnd_eq (a := Sum.inl ()) (loop_for1 l.length _ (fun i hi => ?_) ?_) rfl
  · simp only [f_foghornlaw28_sameAll.s1, f_foghornlaw28_sameAll.s1c]
    rw [if_pos (by rw [decide_eq_true_eq]; omega), if_pos (by omega), if_pos (by omega)]
    simp only [f_foghornlaw28_same, Option.bind_some]
    rw [seq_refl]
    simp only [BEq.rfl, Bool.and_self, Bool.not_true, Bool.false_eq_true, if_false]
    rw [w64 (by omega) (by omega)]; rfl
  · simp only [f_foghornlaw28_sameAll.s1, f_foghornlaw28_sameAll.s1c]
    rw [if_neg (by rw [decide_eq_true_eq]; omega)]
theorem clear_ok (l : List FR) (hl : l.length ≤ 1000) : ∃ u, loop f_foghornlaw28_AgainSends.s2 (l, 0) = some u := by
  refine ⟨(), loop_run l.length (fun j => (mi (fun p _ => decide (p < j)) (fun _ => (0, 0, false, ByteArray.empty)) l, (j : Int))) _ (fun j hj => ?_) ?_ ?_⟩
  · simp only [f_foghornlaw28_AgainSends.s2, f_foghornlaw28_AgainSends.s2c]
    rw [mi_len, if_pos (by rw [decide_eq_true_eq]; omega), if_pos (by omega), w64 (by omega) (by omega), Int.toNat_natCast]
    have hs := mi_set (P := fun p _ => decide (p < j)) (Q := fun p _ => decide (p < j + 1)) (g := fun (_ : FR) => ((0, 0, false, ByteArray.empty) : FR)) hj (fun p r _ hp => by congr 1; simp; omega)
    rw [hs]; simp
  · simp only [f_foghornlaw28_AgainSends.s2, f_foghornlaw28_AgainSends.s2c]
    rw [mi_len, if_neg (by rw [decide_eq_true_eq]; omega)]
  · rw [mi_none fun p r _ => by simp]; rfl

/-- one round's end -/
abbrev St := Int × Int × Int × Int × List CE × Int × Int × Int × List RE × Int
def stA (W : Nat) (T n : Int) (A : List RE) (i : Nat) : St := ((W : Int), T, n, (fr A : Int), vw A (fr A), (W : Int), T, n, A, (i : Int))
theorem j1_ok {W : Nat} {T n : Int} {A : List RE} {i : Nat} (hA : A.length ≤ 1000) (hi : i ≤ 1000) :
    f_foghornlaw28_AgainSends.j1 (i : Int) (W : Int) T n (fr A : Int) (vw A (fr A)) (W : Int) T n A = some (.inl (stA W T n A (i + 1))) := by
  unfold f_foghornlaw28_AgainSends.j1
  rw [LeftC_ok, LeftR_ok hA]
  simp only [Option.bind_some]
  rw [if_neg (by simp), w64 (by omega) (by omega)]
  rfl
theorem j2_ok {W : Nat} {T n now : Int} {A : List RE} {i : Nat} {S : Nat} (hI : Inv W A S) (hA : A.length ≤ i) (hi : i ≤ 900) (hW : W ≤ 128) (h0 : 0 ≤ n) :
    ∃ n' A', f_foghornlaw28_AgainSends.j2 (W : Int) T n (fr A : Int) (vw A (fr A)) (W : Int) T n A (i : Int) now = some (.inl (stA W T n' A' (i + 1))) ∧ 0 ≤ n' ∧ A'.length ≤ i + 1 ∧ ∃ S', Inv W A' S' := by
  unfold f_foghornlaw28_AgainSends.j2
  by_cases h : now < n
  · refine ⟨n, A, ?_, h0, by omega, S, hI⟩
    have e1 : f_again_Sender_Tick (W : Int) T n (fr A : Int) (vw A (fr A)) now = some ([], 1, (W : Int), T, n, (fr A : Int), vw A (fr A)) := by
      unfold f_again_Sender_Tick; rw [if_pos (by rw [decide_eq_true_eq]; exact h)]
    have e2 : f_foghornref28_Sender_Tick (W : Int) T n A now = some ([], 1, (W : Int), T, n, A) := by
      unfold f_foghornref28_Sender_Tick; rw [if_pos (by simp [h])]
    rw [e1, e2]
    simp only [Option.bind_some]
    rw [if_neg (by simp), sameAll_ok [] (by simp)]
    simp only [Option.bind_some, Bool.not_true, Bool.false_eq_true, if_false]
    obtain ⟨u, hu⟩ := clear_ok [] (by simp)
    rw [hu]
    simp only [Option.bind_some]
    exact j1_ok (by omega) (by omega)
  · have hn : 0 ≤ now := by omega
    obtain ⟨hI2, hf⟩ := hI.tick (now := now) (wait := T) hn
    refine ⟨now, TA now T (fr A) (min W (A.length - fr A)) A, ?_, hn, by rw [TA_len]; omega, _, hI2⟩
    rw [TickC_ok rfl (by omega) hW (by omega) hn, TickR_ok (by omega) hW (by omega) hn]
    simp only [Option.bind_some]
    have hTl := TO_len now T (fr A) A (min W (A.length - fr A))
    rw [if_neg (by simp), sameAll_ok _ (by omega)]
    simp only [Option.bind_some, Bool.not_true, Bool.false_eq_true, if_false]
    obtain ⟨u, hu⟩ := clear_ok (TO now T (fr A) A (min W (A.length - fr A))) (by omega)
    rw [hu]
    simp only [Option.bind_some]
    have := j1_ok (W := W) (T := T) (n := now) (A := TA now T (fr A) (min W (A.length - fr A)) A) (i := i) (by rw [TA_len]; omega) (by omega)
    rw [hf] at this
    exact this
theorem j3_ok {W : Nat} {T n N kd : Int} {A : List RE} {i : Nat} {S : Nat} {mo : Bool} {body : ByteArray} (hI : Inv W A S) (hA : A.length ≤ i) (hi : i ≤ 900) (hW : W ≤ 128) (h0 : 0 ≤ N) (h1 : N < 256) :
    ∃ A', f_foghornlaw28_AgainSends.j3 (W : Int) T n (fr A : Int) (vw A (fr A)) (W : Int) T n A (i : Int) kd N mo body = some (.inl (stA W T n A' (i + 1))) ∧ A'.length ≤ i + 1 ∧ ∃ S', Inv W A' S' := by
  obtain ⟨e, A', e1, e2, e3, e4⟩ := Hear_both (T := T) (n := n) (kd := kd) (mo := mo) (body := body) hI rfl (by omega) hW h0 h1
  refine ⟨A', ?_, by omega, e4⟩
  unfold f_foghornlaw28_AgainSends.j3
  rw [e1, e2]
  simp only [Option.bind_some]
  rw [if_neg (by simp)]
  exact j1_ok (by omega) (by omega)
theorem sends_true (Wi : Int) (w0 : (Lit.int .i64 Wi).wf = true) (T : Int) (w1 : (Lit.int .i64 T).wf = true)
    (l : List (Int × Int × Bool × (Int × Int × Bool × ByteArray))) (w2 : ∀ x ∈ l, (Lit.int .u8 x.1).wf = true ∧ (Lit.int .i64 x.2.1).wf = true ∧ True ∧ ((Lit.int .u8 x.2.2.2.1).wf = true ∧ (Lit.int .u8 x.2.2.2.2.1).wf = true ∧ True ∧ x.2.2.2.2.2.2.size ≤ maxLen)) {g : Prop} (r2 : g) :
    f_foghornlaw28_AgainSends Wi T l = some true := by
  unfold f_foghornlaw28_AgainSends
  have eC : f_again_NewSender Wi T = if (((decide (Wi < (1 : Int))) || (decide ((128 : Int) < Wi))) || (decide (T < (1 : Int)))) = true then some (none, 1) else some (some (Wi, T, 0, 0, []), 0) := rfl
  have eR : f_foghornref28_NewSender Wi T = if (((decide (Wi < (1 : Int))) || (decide ((128 : Int) < Wi))) || (decide (T < (1 : Int)))) = true then some (none, 1) else some (some (Wi, T, 0, []), 0) := rfl
  by_cases hc : (((decide (Wi < (1 : Int))) || (decide ((128 : Int) < Wi))) || (decide (T < (1 : Int)))) = true
  · rw [eC, eR, if_pos hc, if_pos hc]; rfl
  rw [eC, eR, if_neg hc, if_neg hc]
  simp only [Option.bind_some]
  rw [if_neg (by simp), if_neg (by simp)]
  simp at hc
  obtain ⟨W, rfl⟩ : ∃ W : Nat, Wi = (W : Int) := ⟨Wi.toNat, by omega⟩
  have hW : W ≤ 128 := by omega
  have hstep : ∀ (n : Int) (A : List RE) (i : Nat), f_foghornlaw28_AgainSends.s1 l (stA W T n A i) = f_foghornlaw28_AgainSends.s1c l (W : Int) T n (fr A : Int) (vw A (fr A)) (W : Int) T n A (i : Int) := fun _ _ _ => rfl
  have main : ∀ k i : Nat, i + k = min l.length 400 → ∀ (n : Int) (A : List RE) (S : Nat), 0 ≤ n → A.length ≤ i → Inv W A S → loop (f_foghornlaw28_AgainSends.s1 l) (stA W T n A i) = some (.inl ()) := by
    intro k
    induction k with
    | zero =>
      intro i hi n A S hn hA hI
      refine loop_done ?_
      rw [hstep]; unfold f_foghornlaw28_AgainSends.s1c
      rw [if_neg (by simp; omega)]
    | succ k ih =>
      intro i hi n A S hn hA hI
      have hil : i < l.length := by omega
      have key : ∃ n' A', f_foghornlaw28_AgainSends.s1 l (stA W T n A i) = some (.inl (stA W T n' A' (i + 1))) ∧ 0 ≤ n' ∧ A'.length ≤ i + 1 ∧ ∃ S', Inv W A' S' := by
        rw [hstep]; unfold f_foghornlaw28_AgainSends.s1c
        have hci : 0 ≤ (i : Int) ∧ (i : Int) < (l.length : Int) := by omega
        rw [if_pos (by simp; omega), if_pos hci, gt_nat hil]
        obtain ⟨g1, g2, _, g3, g4, _, g5⟩ := w2 _ (List.getElem_mem hil)
        have N0 := wf_u8 g4
        generalize l[i] = x at *
        by_cases c0 : (x.1.tmod 4 == 0) = true
        · rw [if_pos c0, if_pos hci]
          obtain ⟨e, A', e1, e2, e3, e4, S', e5⟩ := Offer_both (W := W) (T := T) (n := n) (F := (fr A : Int)) hI (by omega) x.2.2.2.2.2.2
          refine ⟨n, A', ?_, hn, by omega, S', e5⟩
          rw [e1]
          simp only [Option.bind_some]
          rw [if_pos hci, e2]
          simp only [Option.bind_some]
          rw [if_neg (by simp), ← e3]
          exact j1_ok (by omega) (by omega)
        rw [if_neg c0]
        by_cases c1 : (x.1.tmod 4 == 1) = true
        · rw [if_pos c1, if_pos hci, if_pos hci]
          by_cases c2 : x.2.2.1 = true
          · rw [if_pos c2]; exact j2_ok hI hA (by omega) hW hn
          · rw [if_neg c2]; exact j2_ok hI hA (by omega) hW hn
        rw [if_neg c1]
        by_cases c3 : (x.1.tmod 4 == 2) = true
        · rw [if_pos c3, if_pos hci, if_pos hci]
          by_cases c2 : x.2.2.1 = true
          · rw [if_pos c2, Front_ok (by omega)]
            simp only [Option.bind_some]
            obtain ⟨A', h1, h2, h3⟩ := j3_ok (T := T) (n := n) (kd := x.2.2.2.1) (mo := x.2.2.2.2.2.1) (body := x.2.2.2.2.2.2) (N := IntKind.u8.wrap (x.2.2.2.2.1.tmod 16 + IntKind.u8.wrap (((fr A : Nat) : Int).tmod 256))) hI hA (by omega) hW (by rw [IntKind.wrap_u8]; omega) (by rw [IntKind.wrap_u8]; omega)
            exact ⟨n, A', h1, hn, h2, h3⟩
          · rw [if_neg c2]
            obtain ⟨A', h1, h2, h3⟩ := j3_ok (T := T) (n := n) (kd := x.2.2.2.1) (mo := x.2.2.2.2.2.1) (body := x.2.2.2.2.2.2) hI hA (by omega) hW N0.1 N0.2
            exact ⟨n, A', h1, hn, h2, h3⟩
        rw [if_neg c3]
        exact ⟨n, A, j1_ok (by omega) (by omega), hn, by omega, S, hI⟩
      obtain ⟨n', A', h1, h2, h3, S', h4⟩ := key
      rw [loop_step h1]
      exact ih (i + 1) (by omega) n' A' S' h2 h3 h4
  have h0 := main (min l.length 400) 0 (by omega) 0 [] 0 (by omega) (by simp) (Inv.new W)
  have e : ((W : Int), T, (0 : Int), (0 : Int), ([] : List CE), (W : Int), T, (0 : Int), ([] : List RE), (0 : Int)) = stA W T 0 [] 0 := rfl
  rw [e, h0]
  rfl

end Go.Proofs.Ytmdigffgmohcnaa
