/- Soft ways -/
import Derived.Test.YtgdhjjdgghilhaaGreatG1
import Derived.Test.YtgdhjjdgghilhaaGreatGlW
set_option linter.unusedVariables false
set_option linter.unusedSimpArgs false
set_option maxRecDepth 8000
set_option exponentiation.threshold 3000
namespace Go.Proofs.YtgdhjjdgghilhaaGreat
open GL Go
namespace SF

structure CodeOK (n a b : Nat) : Prop where
  n2 : 2 ≤ n
  n7 : n ≤ 7
  a1 : 1 ≤ a
  b1 : 1 ≤ b
  an : a < 2 ^ n
  bn : b < 2 ^ n
  top : 2 ^ (n - 1) ≤ max a b
theorem CodeOK.pq {n a b : Nat} (h : CodeOK n a b) : ∃ q, 2 ^ (n - 1) = 2 * q ∧ 2 ^ n = 4 * q ∧ 1 ≤ q ∧ q ≤ 32 ∧ q = 2 ^ (n - 2) := by
  have h1 := h.n2
  have h2 := h.n7
  have : n = 2 ∨ n = 3 ∨ n = 4 ∨ n = 5 ∨ n = 6 ∨ n = 7 := by omega
  rcases this with rfl | rfl | rfl | rfl | rfl | rfl <;> exact ⟨_, rfl, rfl, by decide, by decide, rfl⟩
theorem len_tab0 : ∀ n : Nat, n < 8 → ∀ m : Nat, m < 128 → (decide (1 ≤ n ∧ 2 ^ (n - 1) ≤ m ∧ m < 2 ^ n) → (f_math_bits_Len32 (m : Int) == some (n : Int)) = true) := by decide +kernel
theorem len_tab (n : Nat) (hn : n < 8) (m : Nat) (hm : m < 128) (h1 : 1 ≤ n) (h2 : 2 ^ (n - 1) ≤ m) (h3 : m < 2 ^ n) : f_math_bits_Len32 (m : Int) = some (n : Int) :=
  eq_of_beq (len_tab0 n hn m hm (by simp [h1, h2, h3]))
theorem check_ok {n a b : Nat} (h : CodeOK n a b) : f_trellis_Code_Check (n : Int) (a : Int) (b : Int) = some 0 := by
  obtain ⟨q, p1, p2, q1, q2, _⟩ := h.pq
  have h1 := h.n2; have h2 := h.n7; have h3 := h.a1; have h4 := h.b1; have h5 := h.an; have h6 := h.bn; have h7 := h.top
  unfold f_trellis_Code_Check
  rw [imin_nat, imax_nat, if_neg (by simp; omega), len_tab n (by omega) (max a b) (by omega) (by omega) h7 (by omega)]
  simp
def par (x : Nat) : Bool := (List.range 7).foldl (fun c i => c != x.testBit i) false
def al (n s : Nat) (b : Bool) : Nat := s + if b then 2 ^ (n - 1) else 0
def nx (n s : Nat) (b : Bool) : Nat := al n s b / 2
def ob (n a s : Nat) (b : Bool) : Bool := par (al n s b &&& a)
theorem al_lt {n a b : Nat} (h : CodeOK n a b) {s : Nat} (hs : s < 2 ^ (n - 1)) (c : Bool) : al n s c < 2 ^ n := by
  obtain ⟨q, p1, p2, q1, q2, _⟩ := h.pq
  unfold al; rw [p2]; split <;> omega
theorem nx_lt {n a b : Nat} (h : CodeOK n a b) {s : Nat} (hs : s < 2 ^ (n - 1)) (c : Bool) : nx n s c < 2 ^ (n - 1) := by
  have := al_lt h hs c
  obtain ⟨q, p1, p2, q1, q2, _⟩ := h.pq
  unfold nx; rw [p1]; rw [p2] at this; omega
def bitAt (l : List Bool) (i : Nat) : Bool := if i < l.length then gt l (i : Int) else false
def st (n : Nat) (l : List Bool) : Nat → Nat
  | 0 => 0
  | i + 1 => nx n (st n l i) (bitAt l i)
theorem st_lt {n a b : Nat} (h : CodeOK n a b) (l : List Bool) : ∀ i, st n l i < 2 ^ (n - 1)
  | 0 => by obtain ⟨q, p1, _, q1, _⟩ := h.pq; rw [p1]; simp only [st]; omega
  | i + 1 => nx_lt h (st_lt h l i) _
theorem st_down (n : Nat) (l : List Bool) : ∀ k, st n l (l.length + k) * 2 ^ k ≤ st n l l.length
  | 0 => by simp
  | k + 1 => by
    have ih := st_down n l k
    have : st n l (l.length + (k + 1)) = st n l (l.length + k) / 2 := by
      show nx n (st n l (l.length + k)) (bitAt l (l.length + k)) = _
      have : bitAt l (l.length + k) = false := by unfold bitAt; rw [if_neg (by omega)]
      rw [this]; simp [nx, al]
    rw [this, Nat.pow_succ, Nat.mul_comm (2 ^ k) 2, ← Nat.mul_assoc]
    exact Nat.le_trans (Nat.mul_le_mul_right _ (Nat.div_mul_le_self _ 2)) ih
theorem st_end {n a b : Nat} (h : CodeOK n a b) (l : List Bool) : st n l (l.length + (n - 1)) = 0 := by
  have h1 := st_down n l (n - 1)
  have h2 := st_lt h l l.length
  rcases Nat.eq_zero_or_pos (st n l (l.length + (n - 1))) with h0 | h0
  · exact h0
  · have := Nat.mul_le_mul_right (2 ^ (n - 1)) h0
    simp only [Nat.one_mul, Nat.succ_eq_add_one, Nat.zero_add] at this
    omega
theorem bit_read {l : List Bool} (i : Nat) : (if (decide ((i : Int) < (l.length : Int))) = true then (if 0 ≤ (i : Int) ∧ (i : Int) < (l.length : Int) then (some (gt l (i : Int))) else none) else (some false)) = some (bitAt l i) := by
  unfold bitAt
  by_cases h : i < l.length
  · rw [if_pos (by simpa using h), if_pos (by omega), if_pos h]
  · rw [if_neg (by simpa using h), if_neg h]
theorem bitAt_big {l : List Bool} {i : Nat} (h : l.length ≤ i) : bitAt l i = false := by unfold bitAt; rw [if_neg (by omega)]
theorem bitAt_lt {l : List Bool} {i : Nat} (h : i < l.length) : bitAt l i = gt l (i : Int) := by unfold bitAt; rw [if_pos h]
theorem oc_tab : ∀ x, x < 128 → (f_trellis_Code_step_1 ((x : Nat) : Int) == some (par x)) = true := by decide +kernel
theorem oc_some {x : Nat} (h : x < 128) : f_trellis_Code_step_1 (x : Int) = some (par x) := eq_of_beq (oc_tab x h)
theorem step_ok {n a b : Nat} (h : CodeOK n a b) {s : Nat} (hs : s < 2 ^ (n - 1)) (c : Bool) :
    f_trellis_Code_step (n : Int) (a : Int) (b : Int) (s : Int) c = some (((nx n s c : Nat) : Int), ob n a s c, ob n b s c) := by
  have hal := al_lt h hs c
  obtain ⟨q, p1, p2, q1, q2, _⟩ := h.pq
  have h1 := h.n2; have h2 := h.n7; have h3 := h.a1; have h4 := h.b1; have h5 := h.an; have h6 := h.bn
  have j : f_trellis_Code_step.j1 (a : Int) (b : Int) ((al n s c : Nat) : Int) = some (((nx n s c : Nat) : Int), ob n a s c, ob n b s c) := by
    have e1 : al n s c &&& a ≤ al n s c := Nat.and_le_left
    have e2 : al n s c &&& b ≤ al n s c := Nat.and_le_left
    have hx : al n s c / 2 = nx n s c := rfl
    unfold f_trellis_Code_step.j1
    rw [iand32 (by omega) (by omega), iand32 (by omega) (by omega), oc_some (by omega), oc_some (by omega)]
    simp only [Option.bind_some]
    rw [show ((1 : Int)) = ((1 : Nat) : Int) from rfl, ishr_nat (by decide), show al n s c / 2 ^ 1 = nx n s c from hx, w64 (by omega) (by omega)]
    rfl
  unfold f_trellis_Code_step
  cases c with
  | false =>
    rw [if_neg (by simp), w32 (by omega) (by omega)]
    exact j
  | true =>
    have e1 : al n s true = s ||| 2 ^ (n - 1) := by
      have := Nat.two_pow_add_eq_or_of_lt hs 1
      simp only [al, if_true]
      rw [Nat.or_comm, Nat.add_comm]; simpa using this
    rw [if_pos rfl, w64 (by omega) (by omega), if_pos (by omega), w32 (by omega) (by omega), show (n : Int) - 1 = ((n - 1 : Nat) : Int) by omega, show ((1 : Int)) = ((1 : Nat) : Int) from rfl, ishl32 (by omega) (by omega), Nat.one_mul, ior32 (by omega) (by omega), ← e1]
    exact j
theorem states_ok {n a b : Nat} (h : CodeOK n a b) : f_trellis_Code_States (n : Int) (a : Int) (b : Int) = some (((2 ^ (n - 1) : Nat) : Int), 0) := by
  obtain ⟨q, p1, p2, q1, q2, _⟩ := h.pq
  have h1 := h.n2; have h2 := h.n7
  unfold f_trellis_Code_States
  rw [check_ok h]
  simp only [Option.bind_some]
  rw [if_neg (by simp), w64 (by omega) (by omega), if_pos (by omega), show (n : Int) - 1 = ((n - 1 : Nat) : Int) by omega, show ((1 : Int)) = ((1 : Nat) : Int) from rfl, ishl64 (by omega) (by omega), Nat.one_mul]
theorem state_ok {n a b : Nat} (h : CodeOK n a b) {s : Nat} (hs : s < 2 ^ (n - 1)) : f_trellis_Code_state (n : Int) (a : Int) (b : Int) (s : Int) = some 0 := by
  unfold f_trellis_Code_state
  rw [states_ok h]
  simp only [Option.bind_some]
  generalize 2 ^ (n - 1) = p at *
  rw [if_neg (by simp; omega)]
theorem Step_ok {n a b : Nat} (h : CodeOK n a b) {s : Nat} (hs : s < 2 ^ (n - 1)) (c : Bool) :
    f_trellis_Code_Step (n : Int) (a : Int) (b : Int) (s : Int) c = some (((nx n s c : Nat) : Int), ob n a s c, ob n b s c, 0) := by
  unfold f_trellis_Code_Step
  rw [state_ok h hs]
  simp only [Option.bind_some]
  rw [if_neg (by simp), step_ok h hs]
  rfl

theorem log2_mul_pow {m : Nat} (hm : m ≠ 0) (a : Nat) : (m * 2 ^ a).log2 = m.log2 + a := by
  have h0 : m * 2 ^ a ≠ 0 := Nat.mul_ne_zero hm (Nat.ne_of_gt (Nat.two_pow_pos a))
  rw [Nat.log2_eq_iff h0]
  have l1 := Nat.log2_self_le hm
  have l2 : m < 2 ^ (m.log2 + 1) := Nat.lt_log2_self
  constructor
  · rw [Nat.pow_add]; exact Nat.mul_le_mul_right _ l1
  · rw [show m.log2 + a + 1 = m.log2 + 1 + a by omega, Nat.pow_add _ _ a]; exact Nat.mul_lt_mul_of_pos_right l2 (Nat.two_pow_pos a)
theorem cut_exact (neg : Bool) {m : Nat} (hm : m ≠ 0) (d : Nat) : Ieee.Toward.even.cut neg (m * 2 ^ d) d = m := by
  unfold Ieee.Toward.cut
  rw [log2_mul_pow hm, Nat.min_eq_left (by omega)]
  have hp := Nat.two_pow_pos d
  simp only [Nat.one_shiftLeft, Nat.mul_div_cancel _ hp, Nat.mul_mod_left]
  have e1 : decide (2 ^ d < 2 * 0) = false := by rw [decide_eq_false_iff_not]; omega
  have e2 : (2 ^ d == 2 * 0) = false := by rw [beq_eq_false_iff_ne]; omega
  rw [e1, e2]; simp
theorem nearest_eq (neg : Bool) {mag : Nat} (place : Int) (h : mag ≠ 0) : Ieee.double.nearest neg mag place = Ieee.double.word neg (min ((max (place + mag.log2 - 52) (-1074) - (-1074)).toNat * 4503599627370496 + Ieee.Toward.even.cut neg (mag <<< (place - max (place + mag.log2 - 52) (-1074)).toNat) (max (place + mag.log2 - 52) (-1074) - place).toNat) 9218868437227405312) := by
  unfold Ieee.Format.nearest
  rw [if_neg h]
  have e1 : (Ieee.double.fractionBits : Nat) = 52 := rfl
  have e2 : Ieee.double.leastPlace = -1074 := by decide
  have e3 : Ieee.double.binade = 4503599627370496 := by decide
  have e4 : Ieee.double.infRung = 9218868437227405312 := by decide
  simp only [e1, e2, e3, e4]
  rfl
theorem read_eq (w : Nat) : Ieee.double.read w = (if w % 9223372036854775808 < 4503599627370496 then .number (w / 9223372036854775808 % 2 == 1) (w % 9223372036854775808) (-1074)
    else if w % 9223372036854775808 < 9218868437227405312 then .number (w / 9223372036854775808 % 2 == 1) (4503599627370496 + w % 9223372036854775808 % 4503599627370496) (-1074 + ((w % 9223372036854775808 / 4503599627370496 - 1 : Nat) : Int))
    else if w % 9223372036854775808 = 9218868437227405312 then .infinity (w / 9223372036854775808 % 2 == 1) else .nan (w / 9223372036854775808 % 2 == 1) (w % 9223372036854775808 - 9218868437227405312)) := by
  have e1 : Ieee.double.signWeight = 9223372036854775808 := by decide
  have e2 : Ieee.double.leastPlace = -1074 := by decide
  have e3 : Ieee.double.binade = 4503599627370496 := by decide
  have e4 : Ieee.double.infRung = 9218868437227405312 := by decide
  simp only [Ieee.Format.read, e1, e2, e3, e4]
theorem word_eq (neg : Bool) (r : Nat) : Ieee.double.word neg r = if neg then 9223372036854775808 + r else r := by
  have e1 : Ieee.double.signWeight = 9223372036854775808 := by decide
  simp only [Ieee.Format.word, e1]
theorem read_word (neg : Bool) {t kept : Nat} (h : kept < 9007199254740992) (h2 : t = 0 ∨ 4503599627370496 ≤ kept) (ht : t < 2000) :
    ∃ m e, Ieee.double.read (Ieee.double.word neg (min (t * 4503599627370496 + kept) 9218868437227405312)) = .number neg m e ∧ -1074 ≤ e ∧ m * 2 ^ (e + 1074).toNat = kept * 2 ^ t := by
  rw [Nat.min_eq_left (by omega), word_eq, read_eq]
  generalize hr : t * 4503599627370496 + kept = r
  have hlt : r < 9218868437227405312 := by omega
  generalize hw : (if neg then 9223372036854775808 + r else r) = w
  have w1 : w % 9223372036854775808 = r := by
    cases neg
    · simp at hw; omega
    · simp at hw; omega
  have w2 : (w / 9223372036854775808 % 2 == 1) = neg := by
    cases neg
    · simp only [Bool.false_eq_true, if_false] at hw
      rw [beq_eq_false_iff_ne]; omega
    · simp only [if_true] at hw
      rw [beq_iff_eq]; omega
  rw [w1, w2]
  by_cases hc : r < 4503599627370496
  · rw [if_pos hc]
    have : t = 0 := by omega
    subst this
    refine ⟨_, _, rfl, by omega, ?_⟩
    have : r = kept := by omega
    subst this
    rfl
  · rw [if_neg hc, if_pos hlt]
    refine ⟨_, _, rfl, by omega, ?_⟩
    have e1 : 4503599627370496 + r % 4503599627370496 = kept := by omega
    have e2 : (-1074 + ((r / 4503599627370496 - 1 : Nat) : Int) + 1074).toNat = t := by omega
    rw [e1, e2]
theorem near (neg : Bool) {z p K mag : Nat} {place : Int} (hm : mag ≠ 0) (hK : K < 9007199254740992) (hp : p ≤ 800) (hz : p ≤ z) (hpl : 0 ≤ place + z) (h : mag * 2 ^ (place + z).toNat = K * 2 ^ (z - p)) :
    ∃ m e, Ieee.double.read (Ieee.double.nearest neg mag place) = .number neg m e ∧ -1074 ≤ e ∧ m * 2 ^ (e + 1074).toNat = K * 2 ^ (1074 - p) := by
  have hK0 : K ≠ 0 := by
    intro e
    subst e
    rw [Nat.zero_mul] at h
    exact Nat.mul_ne_zero hm (Nat.ne_of_gt (Nat.two_pow_pos _)) h
  have hL : K.log2 ≤ 52 := by
    have := (Nat.log2_lt hK0 (k := 53)).2 (by simpa using hK)
    omega
  have hlog : place + (mag.log2 : Int) = K.log2 - p := by
    have a1 := log2_mul_pow hm (place + z).toNat
    have a2 := log2_mul_pow hK0 (z - p)
    rw [h] at a1
    omega
  rw [nearest_eq neg place hm]
  have hlast : max (place + mag.log2 - 52) (-1074) = max ((K.log2 : Int) - p - 52) (-1074) := by rw [hlog]
  rw [hlast]
  generalize hl : max ((K.log2 : Int) - p - 52) (-1074) = last
  -- the digits that are kept
  have hlp : last ≤ -p := by omega
  have key : mag * 2 ^ (place - last).toNat = (K * 2 ^ (-p - last).toNat) * 2 ^ (last - place).toNat := by
    have hP := Nat.two_pow_pos (place + z).toNat
    apply Nat.eq_of_mul_eq_mul_right hP
    have s1 : mag * 2 ^ (place - last).toNat * 2 ^ (place + z).toNat = (mag * 2 ^ (place + z).toNat) * 2 ^ (place - last).toNat := by
      rw [Nat.mul_assoc, Nat.mul_comm (2 ^ (place - last).toNat), ← Nat.mul_assoc]
    rw [s1, h, Nat.mul_assoc, ← Nat.pow_add, Nat.mul_assoc K, ← Nat.pow_add, Nat.mul_assoc K, ← Nat.pow_add]
    congr 2
    omega
  have hk0 : K * 2 ^ (-p - last).toNat ≠ 0 := Nat.mul_ne_zero hK0 (Nat.ne_of_gt (Nat.two_pow_pos _))
  rw [Nat.shiftLeft_eq, key, cut_exact neg hk0]
  have hkl := log2_mul_pow hK0 (-p - last).toNat
  have hk53 : K * 2 ^ (-p - last).toNat < 9007199254740992 := by
    have l2 : K * 2 ^ (-p - last).toNat < 2 ^ ((K * 2 ^ (-p - last).toNat).log2 + 1) := Nat.lt_log2_self
    have l3 : 2 ^ ((K * 2 ^ (-p - last).toNat).log2 + 1) ≤ 2 ^ 53 := Nat.pow_le_pow_right (by decide) (by omega)
    have l4 : (2 : Nat) ^ 53 = 9007199254740992 := by decide
    omega
  have hk52 : (last - (-1074)).toNat = 0 ∨ 4503599627370496 ≤ K * 2 ^ (-p - last).toNat := by
    by_cases hc : last = -1074
    · left; omega
    · right
      have l1 := Nat.log2_self_le hk0
      have l3 : 2 ^ 52 ≤ 2 ^ (K * 2 ^ (-p - last).toNat).log2 := Nat.pow_le_pow_right (by decide) (by omega)
      have l4 : (2 : Nat) ^ 52 = 4503599627370496 := by decide
      omega
  obtain ⟨m, e, r1, r2, r3⟩ := read_word neg hk53 hk52 (by omega)
  refine ⟨m, e, r1, r2, r3.trans ?_⟩
  rw [Nat.mul_assoc, ← Nat.pow_add]
  congr 2
  omega
def sg (s : Bool) (m : Nat) : Int := if s then -(m : Int) else (m : Int)
theorem sg_mul (s : Bool) (m n : Nat) : sg s (m * n) = sg s m * (n : Int) := by
  cases s <;> simp [sg, Int.neg_mul]
theorem signed_eq (s : Bool) (m u : Nat) : Ieee.signed s m u = sg s (m * 2 ^ u) := by
  unfold Ieee.signed sg
  rw [Nat.shiftLeft_eq]
def Val (p : Nat) (x : Fl) (k : Int) : Prop := ∃ b s m e, x = .bits b ∧ Ieee.double.read b = .number s m e ∧ -1074 ≤ e ∧ sg s (m * 2 ^ (e + 1074).toNat) = k * ((2 ^ (1074 - p) : Nat) : Int)
theorem pow_pos_i (a : Nat) : (0 : Int) < ((2 ^ a : Nat) : Int) := by have := Nat.two_pow_pos a; omega
theorem val_near (neg : Bool) {z p : Nat} {k total : Int} {place : Int} (hp : p ≤ 800) (hz : p ≤ z) (hpl : 0 ≤ place + z) (hk : k.natAbs < 9007199254740992)
    (h : total * ((2 ^ (place + z).toNat : Nat) : Int) = k * ((2 ^ (z - p) : Nat) : Int)) (hs : total ≠ 0 → neg = decide (total < 0)) : Val p (.bits (Ieee.double.nearest neg total.natAbs place)) k := by
  have p1 := pow_pos_i (place + z).toNat
  have p2 := pow_pos_i (z - p)
  by_cases h0 : total = 0
  · subst h0
    rw [Int.zero_mul] at h
    have hk0 : k = 0 := by
      rcases Int.mul_eq_zero.1 h.symm with h | h
      · exact h
      · omega
    subst hk0
    refine ⟨_, neg, 0, -1074, rfl, ?_, by decide, ?_⟩
    · have : Ieee.double.nearest neg (0 : Int).natAbs place = Ieee.double.word neg 0 := rfl
      rw [this]
      cases neg <;> decide
    · rw [Nat.zero_mul, Int.zero_mul]; cases neg <;> rfl
  · obtain ⟨m, e, r1, r2, r3⟩ := near neg (mag := total.natAbs) (K := k.natAbs) (place := place) (z := z) (p := p) (by omega) hk hp hz hpl (by
      have := congrArg Int.natAbs h
      rw [Int.natAbs_mul, Int.natAbs_mul, Int.natAbs_natCast, Int.natAbs_natCast] at this
      exact this)
    refine ⟨_, neg, m, e, rfl, r1, r2, ?_⟩
    rw [r3, sg_mul, hs h0]
    congr 1
    by_cases ht : total < 0
    · have : k < 0 := by
        apply Int.not_le.mp
        intro hk
        have a1 : 0 ≤ k * ((2 ^ (z - p) : Nat) : Int) := Int.mul_nonneg hk (by omega)
        have a2 : total * ((2 ^ (place + z).toNat : Nat) : Int) < 0 := Int.mul_neg_of_neg_of_pos ht p1
        omega
      rw [decide_eq_true ht]; simp only [sg, if_true]; omega
    · have : 0 ≤ k := by
        apply Int.not_lt.mp
        intro hk
        have a1 : k * ((2 ^ (z - p) : Nat) : Int) < 0 := Int.mul_neg_of_neg_of_pos hk p2
        have a2 : 0 ≤ total * ((2 ^ (place + z).toNat : Nat) : Int) := Int.mul_nonneg (by omega) (by omega)
        omega
      rw [decide_eq_false ht]; simp only [sg, Bool.false_eq_true, if_false]; omega
theorem fofi_val {k : Int} (hk : k.natAbs < 9007199254740992) : Val 0 (fofi k) k := by
  have := val_near (decide (k < 0)) (z := 0) (p := 0) (k := k) (total := k) (place := 0) (by decide) (by decide) (by decide) hk rfl (fun _ => rfl)
  exact this
theorem zero_val (p : Nat) : Val p (.bits 0) 0 := by
  refine ⟨0, false, 0, -1074, rfl, by decide, by decide, ?_⟩
  rw [Nat.zero_mul, Int.zero_mul]; rfl
theorem sum_read {a b : Nat} {s t : Bool} {m n : Nat} {i j : Int} {p : Nat} {k l : Int} (hp : p ≤ 800) (hi : -1074 ≤ i) (hj : -1074 ≤ j)
    (h1 : sg s (m * 2 ^ (i + 1074).toNat) = k * ((2 ^ (1074 - p) : Nat) : Int)) (h2 : sg t (n * 2 ^ (j + 1074).toNat) = l * ((2 ^ (1074 - p) : Nat) : Int)) (hk : (k + l).natAbs < 9007199254740992) :
    ∃ d, (Ieee.Datum.number s m i).sum (.number t n j) = some d ∧ Val p (.bits (Ieee.double.write d)) (k + l) := by
  refine ⟨_, rfl, ?_⟩
  refine val_near (z := 1074) (p := p) (k := k + l) _ hp (by omega) (by omega) hk ?_ (fun h => by rw [if_neg h])
  rw [signed_eq, signed_eq, Int.add_mul, Int.add_mul, ← h1, ← h2, ← sg_mul, ← sg_mul, Nat.mul_assoc, ← Nat.pow_add, Nat.mul_assoc, ← Nat.pow_add]
  congr 4 <;> omega
theorem fadd_val {p : Nat} {x y : Fl} {k l : Int} (h1 : Val p x k) (h2 : Val p y l) (hp : p ≤ 800) (hk : (k + l).natAbs < 9007199254740992) : Val p (fadd x y) (k + l) := by
  obtain ⟨a, s, m, i, rfl, r1, hi, v1⟩ := h1
  obtain ⟨b, t, n, j, rfl, r2, hj, v2⟩ := h2
  obtain ⟨d, e1, e2⟩ := sum_read (a := a) (b := b) hp hi hj v1 v2 hk
  have : fadd (.bits a) (.bits b) = .bits (Ieee.double.write d) := by
    show farith .add _ _ = _
    have : floatBits .add .f64 a b = some (Ieee.double.write d) := by
      show Ieee.double.add a b = _
      unfold Ieee.Format.add
      rw [r1, r2, e1]; rfl
    simp only [farith, this]
  rw [this]; exact e2
theorem sg_not (s : Bool) (m : Nat) : sg (!s) m = - sg s m := by cases s <;> simp [sg]
theorem fsub_val {p : Nat} {x y : Fl} {k l : Int} (h1 : Val p x k) (h2 : Val p y l) (hp : p ≤ 800) (hk : (k - l).natAbs < 9007199254740992) : Val p (fsub x y) (k - l) := by
  obtain ⟨a, s, m, i, rfl, r1, hi, v1⟩ := h1
  obtain ⟨b, t, n, j, rfl, r2, hj, v2⟩ := h2
  obtain ⟨d, e1, e2⟩ := sum_read (a := a) (b := b) (t := !t) (n := n) (l := -l) hp hi hj v1 (by rw [sg_not, v2, Int.neg_mul]) (by rw [← Int.sub_eq_add_neg]; exact hk)
  have : fsub (.bits a) (.bits b) = .bits (Ieee.double.write d) := by
    show farith .sub _ _ = _
    have : floatBits .sub .f64 a b = some (Ieee.double.write d) := by
      show Ieee.double.sub a b = _
      unfold Ieee.Format.sub
      rw [r1, r2]
      show (Ieee.Datum.sum _ (Ieee.Datum.number (!t) n j)).map _ = _
      rw [e1]; rfl
    simp only [farith, this]
  rw [this, Int.sub_eq_add_neg]; exact e2
theorem sg_prod (s t : Bool) (m n : Nat) : sg (s ^^ t) (m * n) = sg s m * sg t n := by
  cases s <;> cases t <;> simp [sg, Int.neg_mul, Int.mul_neg]
theorem fmul_val {p q : Nat} {x y : Fl} {k l : Int} (h1 : Val p x k) (h2 : Val q y l) (hp : p + q ≤ 800) (hk : (k * l).natAbs < 9007199254740992) : Val (p + q) (fmul x y) (k * l) := by
  obtain ⟨a, s, m, i, rfl, r1, hi, v1⟩ := h1
  obtain ⟨b, t, n, j, rfl, r2, hj, v2⟩ := h2
  have hw : floatBits .mul .f64 a b = some (Ieee.double.nearest (s ^^ t) (m * n) (i + j)) := by
    show Ieee.double.mul a b = _
    unfold Ieee.Format.mul
    rw [r1, r2]; rfl
  have hf : fmul (.bits a) (.bits b) = .bits (Ieee.double.nearest (s ^^ t) (m * n) (i + j)) := by
    show farith .mul _ _ = _
    simp only [farith, hw]
  rw [hf]
  have hab : (sg (s ^^ t) (m * n)).natAbs = m * n := by unfold sg; split <;> omega
  rw [← hab]
  refine val_near (z := 2148) (p := p + q) (k := k * l) (total := sg (s ^^ t) (m * n)) _ hp (by omega) (by omega) hk ?_ (fun h => ?_)
  · rw [← sg_mul]
    have e : m * n * 2 ^ (i + j + ((2148 : Nat) : Int)).toNat = (m * 2 ^ (i + 1074).toNat) * (n * 2 ^ (j + 1074).toNat) := by
      rw [show (i + j + ((2148 : Nat) : Int)).toNat = (i + 1074).toNat + (j + 1074).toNat by omega, Nat.pow_add]
      rw [Nat.mul_assoc, Nat.mul_assoc]
      congr 1
      rw [← Nat.mul_assoc, ← Nat.mul_assoc, Nat.mul_comm n]
    rw [e, sg_prod, v1, v2, show 2148 - (p + q) = (1074 - p) + (1074 - q) by omega, Nat.pow_add, Int.natCast_mul]
    generalize ((2 ^ (1074 - p) : Nat) : Int) = P
    generalize ((2 ^ (1074 - q) : Nat) : Int) = Q
    grind
  · unfold sg at h ⊢
    cases hst : (s ^^ t)
    · rw [hst] at h
      simp only [Bool.false_eq_true, if_false] at h ⊢
      symm; rw [decide_eq_false_iff_not]; omega
    · rw [hst] at h
      simp only [if_true] at h ⊢
      symm; rw [decide_eq_true_eq]; omega
theorem feq_val {p : Nat} {x y : Fl} {k : Int} (h1 : Val p x k) (h2 : Val p y k) : feq x y = true := by
  obtain ⟨a, s, m, i, rfl, r1, hi, v1⟩ := h1
  obtain ⟨b, t, n, j, rfl, r2, hj, v2⟩ := h2
  have : fcmp (.bits a) (.bits b) = some .eq := by
    show (Ieee.double.read a).order (Ieee.double.read b) = _
    rw [r1, r2]
    unfold Ieee.Datum.order
    simp only [signed_eq]
    have hP := pow_pos_i (min i j + 1074).toNat
    have e : sg s (m * 2 ^ (i - min i j).toNat) = sg t (n * 2 ^ (j - min i j).toNat) := by
      apply Int.eq_of_mul_eq_mul_right (a := ((2 ^ (min i j + 1074).toNat : Nat) : Int)) (by omega)
      rw [← sg_mul, ← sg_mul, Nat.mul_assoc, ← Nat.pow_add, Nat.mul_assoc, ← Nat.pow_add, show (i - min i j).toNat + (min i j + 1074).toNat = (i + 1074).toNat by omega, show (j - min i j).toNat + (min i j + 1074).toNat = (j + 1074).toNat by omega, v1, v2]
    rw [e]
    congr 1
    simp
  unfold feq
  rw [this]; rfl
theorem fcmp_val {p : Nat} {x y : Fl} {k l : Int} (h1 : Val p x k) (h2 : Val p y l) : fcmp x y = some (compare k l) := by
  obtain ⟨a, s, m, i, rfl, r1, hi, v1⟩ := h1
  obtain ⟨b, t, n, j, rfl, r2, hj, v2⟩ := h2
  show (Ieee.double.read a).order (Ieee.double.read b) = _
  rw [r1, r2]
  unfold Ieee.Datum.order
  simp only [signed_eq]
  have hP := pow_pos_i (min i j + 1074).toNat
  have hQ := pow_pos_i (1074 - p)
  have e1 : sg s (m * 2 ^ (i - min i j).toNat) * ((2 ^ (min i j + 1074).toNat : Nat) : Int) = k * ((2 ^ (1074 - p) : Nat) : Int) := by
    rw [← sg_mul, Nat.mul_assoc, ← Nat.pow_add, show (i - min i j).toNat + (min i j + 1074).toNat = (i + 1074).toNat by omega, v1]
  have e2 : sg t (n * 2 ^ (j - min i j).toNat) * ((2 ^ (min i j + 1074).toNat : Nat) : Int) = l * ((2 ^ (1074 - p) : Nat) : Int) := by
    rw [← sg_mul, Nat.mul_assoc, ← Nat.pow_add, show (j - min i j).toNat + (min i j + 1074).toNat = (j + 1074).toNat by omega, v2]
  generalize sg s (m * 2 ^ (i - min i j).toNat) = A at *
  generalize sg t (n * 2 ^ (j - min i j).toNat) = B at *
  generalize ((2 ^ (min i j + 1074).toNat : Nat) : Int) = P at *
  generalize ((2 ^ (1074 - p) : Nat) : Int) = K at *
  congr 1
  have lt1 : A < B ↔ k < l := by
    rw [← Int.mul_lt_mul_right hP, e1, e2, Int.mul_lt_mul_right hQ]
  have eq1 : A = B ↔ k = l := by
    constructor
    · intro h
      subst h
      exact Int.eq_of_mul_eq_mul_right (by omega) (e1.symm.trans e2)
    · intro h
      subst h
      exact Int.eq_of_mul_eq_mul_right (by omega) (e1.trans e2.symm)
  show compareOfLessAndEq A B = compareOfLessAndEq k l
  unfold compareOfLessAndEq
  simp only [lt1, eq1]
theorem fgt_val {p : Nat} {x y : Fl} {k l : Int} (h1 : Val p x k) (h2 : Val p y l) : fgt x y = decide (l < k) := by
  unfold fgt
  rw [fcmp_val h1 h2]
  show (some (compareOfLessAndEq k l) == some Ordering.gt) = _
  unfold compareOfLessAndEq
  by_cases h : k < l
  · rw [if_pos h, decide_eq_false (by omega)]; rfl
  · rw [if_neg h]
    by_cases h' : k = l
    · rw [if_pos h', decide_eq_false (by omega)]; rfl
    · rw [if_neg h', decide_eq_true (by omega)]; rfl
theorem feq_ne {p : Nat} {x y : Fl} {k l : Int} (h1 : Val p x k) (h2 : Val p y l) (h : k ≠ l) : feq x y = false := by
  unfold feq
  rw [fcmp_val h1 h2]
  show (some (compareOfLessAndEq k l) == some Ordering.eq) = _
  unfold compareOfLessAndEq
  by_cases h' : k < l
  · rw [if_pos h']; rfl
  · rw [if_neg h', if_neg h]; rfl
theorem val_scale {p d : Nat} {x : Fl} {k : Int} (h : Val p x k) (hd : p + d ≤ 1074) : Val (p + d) x (k * ((2 ^ d : Nat) : Int)) := by
  obtain ⟨b, s, m, e, rfl, r, he, v⟩ := h
  refine ⟨b, s, m, e, rfl, r, he, v.trans ?_⟩
  rw [Int.mul_assoc, ← Int.natCast_mul, ← Nat.pow_add]
  congr 4
  omega
theorem read_lt {b : Nat} {s : Bool} {m : Nat} {e : Int} (h : Ieee.double.read b = .number s m e) : m < 9007199254740992 := by
  rw [read_eq] at h
  split at h
  · cases h; omega
  · split at h
    · cases h; omega
    · split at h <;> cases h
theorem quo_s {x : Fl} {k : Int} (h : Val 0 x k) (hk : k.natAbs < 9007199254740992) : ∃ r, farithS .quo x (Fl.bits 4661225614328463360) = some r ∧ Val 12 r k := by
  obtain ⟨a, s, m, i, rfl, r1, hi, v1⟩ := h
  have hm := read_lt r1
  have r2 : Ieee.double.read 4661225614328463360 = .number false 4503599627370496 (-40) := by decide
  have hl : m.log2 ≤ 52 := by
    by_cases h0 : m = 0
    · subst h0; decide
    · have := (Nat.log2_lt h0 (k := 53)).2 (by simpa using hm); omega
  have l52 : (4503599627370496 : Nat).log2 = 52 := by decide
  generalize hmo : 106 - m.log2 = more
  have hq : (m <<< more) / 4503599627370496 = m * 2 ^ (more - 52) := by
    rw [Nat.shiftLeft_eq, show more = (more - 52) + 52 by omega, Nat.pow_add, ← Nat.mul_assoc, show (4503599627370496 : Nat) = 2 ^ 52 by decide, Nat.mul_div_cancel _ (by decide)]
    congr 1
  have hr : (m <<< more) % 4503599627370496 = 0 := by
    rw [Nat.shiftLeft_eq, show more = (more - 52) + 52 by omega, Nat.pow_add, ← Nat.mul_assoc, show (4503599627370496 : Nat) = 2 ^ 52 by decide, Nat.mul_mod_left]
  have hw : floatBits .quo .f64 a 4661225614328463360 = some (Ieee.double.nearest s (2 * (m * 2 ^ (more - 52))) (i + 40 - more - 1)) := by
    show Ieee.double.div a 4661225614328463360 = _
    unfold Ieee.Format.div
    rw [r1, r2]
    unfold Ieee.Datum.quotient
    simp only [l52]
    rw [if_neg (by decide)]
    have e54 : Ieee.double.fractionBits + 2 + 52 - m.log2 = more := by
      show 52 + 2 + 52 - m.log2 = more
      omega
    rw [e54, hq, hr]
    show some (Ieee.double.nearest (s ^^ false) (2 * (m * 2 ^ (more - 52)) + 0) (i - -40 - more - 1)) = _
    rw [Bool.xor_false, Nat.add_zero, Int.sub_neg]
  refine ⟨_, by simp only [farithS, hw]; rfl, ?_⟩
  have hab : (sg s (2 * (m * 2 ^ (more - 52)))).natAbs = 2 * (m * 2 ^ (more - 52)) := by unfold sg; split <;> omega
  rw [← hab]
  refine val_near (z := 1374) (p := 12) (k := k) (total := sg s (2 * (m * 2 ^ (more - 52)))) s (by decide) (by decide) (by omega) hk ?_ (fun h => ?_)
  · rw [← sg_mul]
    have e : 2 * (m * 2 ^ (more - 52)) * 2 ^ (i + 40 - more - 1 + ((1374 : Nat) : Int)).toNat = m * 2 ^ (i + 1074).toNat * 2 ^ (1374 - 12 - 1074) := by
      rw [show 2 * (m * 2 ^ (more - 52)) = m * 2 ^ (more - 51) by rw [show more - 51 = more - 52 + 1 by omega, Nat.pow_succ]; generalize 2 ^ (more - 52) = X; rw [Nat.mul_comm X 2, ← Nat.mul_assoc, ← Nat.mul_assoc, Nat.mul_comm 2 m]]
      rw [Nat.mul_assoc, ← Nat.pow_add, Nat.mul_assoc, ← Nat.pow_add]
      congr 2
      omega
    rw [e, sg_mul, v1, Int.mul_assoc, ← Int.natCast_mul, ← Nat.pow_add]
  · unfold sg at h ⊢
    cases s
    · simp only [Bool.false_eq_true, if_false] at h ⊢
      symm; rw [decide_eq_false_iff_not]; omega
    · simp only [if_true] at h ⊢
      symm; rw [decide_eq_true_eq]; omega
theorem cut_down (s : Bool) (n drop : Nat) : Ieee.Toward.down.cut s n drop = n / 2 ^ drop + (if s = true ∧ n % 2 ^ drop ≠ 0 then 1 else 0) := by
  unfold Ieee.Toward.cut
  simp only [Nat.one_shiftLeft]
  have key : ∀ r : Nat, (s && r != 0).toNat = if s = true ∧ r ≠ 0 then 1 else 0 := by
    intro r
    cases s
    · simp
    · by_cases h : r = 0
      · subst h; rfl
      · rw [if_pos ⟨rfl, h⟩, bne_iff_ne.2 h]; rfl
  rw [key]
  by_cases h : drop ≤ n.log2 + 2
  · rw [Nat.min_eq_left h]
  · rw [Nat.min_eq_right (by omega)]
    have h1 : n < 2 ^ (n.log2 + 1) := Nat.lt_log2_self
    have h2 : 2 ^ (n.log2 + 1) ≤ 2 ^ (n.log2 + 2) := Nat.pow_le_pow_right (by decide) (by omega)
    have h3 : 2 ^ (n.log2 + 1) ≤ 2 ^ drop := Nat.pow_le_pow_right (by decide) (by omega)
    rw [Nat.div_eq_of_lt (by omega), Nat.div_eq_of_lt (by omega), Nat.mod_eq_of_lt (by omega), Nat.mod_eq_of_lt (by omega)]
theorem sg_natAbs (s : Bool) (m : Nat) : (sg s m).natAbs = m := by unfold sg; split <;> omega
theorem whole_val (s : Bool) {K : Nat} (hK : K < 9007199254740992) : Val 0 (.bits (Ieee.double.nearest s K 0)) (sg s K) := by
  have := val_near s (z := 0) (p := 0) (k := sg s K) (total := sg s K) (place := 0) (by decide) (by decide) (by decide) (by rw [sg_natAbs]; exact hK) rfl (fun h => by
    unfold sg at h ⊢
    cases s
    · simp only [Bool.false_eq_true, if_false] at h ⊢
      symm; rw [decide_eq_false_iff_not]; omega
    · simp only [if_true] at h ⊢
      symm; rw [decide_eq_true_eq]; omega)
  rw [sg_natAbs] at this
  exact this
theorem fint_num (way : Ieee.Toward) {a : Nat} {s : Bool} {m : Nat} {e : Int} (h : Ieee.double.read a = .number s m e) : fint way (.bits a) = .bits (Ieee.double.nearest s (way.cut s (m * 2 ^ e.toNat) (-e).toNat) 0) := by
  have h' : FloatKind.f64.decode a = .number s m e := h
  simp only [fint, h']
  show Fl.bits (Ieee.double.nearest s (way.cut s (m <<< e.toNat) (-e).toNat) 0) = _
  rw [Nat.shiftLeft_eq]
theorem feq_dec {p : Nat} {x y : Fl} {k l : Int} (h1 : Val p x k) (h2 : Val p y l) : feq x y = decide (k = l) := by
  by_cases h : k = l
  · subst h; rw [feq_val h1 h2, decide_eq_true rfl]
  · rw [feq_ne h1 h2 h, decide_eq_false h]
theorem fle_dec {p : Nat} {x y : Fl} {k l : Int} (h1 : Val p x k) (h2 : Val p y l) : fle x y = decide (k ≤ l) := by
  unfold fle
  rw [fcmp_val h1 h2]
  show (some (compareOfLessAndEq k l) == some Ordering.lt || some (compareOfLessAndEq k l) == some Ordering.eq) = _
  unfold compareOfLessAndEq
  by_cases h : k < l
  · rw [if_pos h, decide_eq_true (by omega)]; rfl
  · rw [if_neg h]
    by_cases h' : k = l
    · rw [if_pos h', decide_eq_true (by omega)]; rfl
    · rw [if_neg h', decide_eq_false (by omega)]; rfl
theorem fge_dec {p : Nat} {x y : Fl} {k l : Int} (h1 : Val p x k) (h2 : Val p y l) : fge x y = decide (l ≤ k) := by
  unfold fge
  rw [fcmp_val h1 h2]
  show (some (compareOfLessAndEq k l) == some Ordering.gt || some (compareOfLessAndEq k l) == some Ordering.eq) = _
  unfold compareOfLessAndEq
  by_cases h : k < l
  · rw [if_pos h, decide_eq_false (by omega)]; rfl
  · rw [if_neg h]
    by_cases h' : k = l
    · rw [if_pos h', decide_eq_true (by omega)]; rfl
    · rw [if_neg h', decide_eq_true (by omega)]; rfl
def fs (f : Nat → Nat) : Nat → Nat
  | 0 => 0
  | m + 1 => fs f m + f m
theorem fs_add (f : Nat → Nat) (i : Nat) : ∀ k, fs f (i + k) = fs f i + fs (fun t => f (i + t)) k
  | 0 => by simp [fs]
  | k + 1 => by rw [← Nat.add_assoc]; simp only [fs]; rw [fs_add f i k]; omega
theorem fs_congr {f g : Nat → Nat} : ∀ {m}, (∀ i, i < m → f i = g i) → fs f m = fs g m
  | 0, _ => rfl
  | m + 1, h => by simp only [fs]; rw [fs_congr fun i hi => h i (by omega), h m (by omega)]
theorem fs_zero : ∀ m, fs (fun _ => 0) m = 0
  | 0 => rfl
  | m + 1 => by simp only [fs]; rw [fs_zero m]
theorem fs_upd {f g : Nat → Nat} {p : Nat} : ∀ {m}, p < m → (∀ i, i < m → i ≠ p → g i = f i) → fs g m + f p = fs f m + g p
  | 0, h, _ => by omega
  | m + 1, h, hg => by
    simp only [fs]
    by_cases hp : p = m
    · subst hp
      rw [fs_congr (m := p) fun i hi => hg i (by omega) (by omega)]; omega
    · have := fs_upd (m := m) (by omega) fun i hi hn => hg i (by omega) hn
      have := hg m (by omega) (by omega)
      omega
theorem fs_mono (f : Nat → Nat) {i j : Nat} (h : i ≤ j) : fs f i ≤ fs f j := by
  obtain ⟨k, rfl⟩ := Nat.exists_eq_add_of_le h
  rw [fs_add]; omega
def bn (x : Bool) : Nat := if x then 1 else 0
def dst (n a b : Nat) (l m : List Bool) (T : Nat) : Nat := fs (fun t => bn (ob n a (st n l t) (bitAt l t) ^^ ob n a (st n m t) (bitAt m t)) + bn (ob n b (st n l t) (bitAt l t) ^^ ob n b (st n m t) (bitAt m t))) T
theorem farithS_val {op : BinOp} {x y : Fl} {p : Nat} {k : Int} (hx : ∃ a, x = .bits a) (hy : ∃ b, y = .bits b) (h : Val p (farith op x y) k) : farithS op x y = some (farith op x y) := by
  obtain ⟨a, rfl⟩ := hx
  obtain ⟨b, rfl⟩ := hy
  obtain ⟨c, _, _, _, hc, _⟩ := h
  simp only [farith, farithS] at hc ⊢
  cases hf : floatBits op .f64 a b with
  | none => rw [hf] at hc; cases hc
  | some r => rfl
theorem Val.bits {p : Nat} {x : Fl} {k : Int} (h : Val p x k) : ∃ a, x = .bits a := by
  obtain ⟨a, _, _, _, h, _⟩ := h
  exact ⟨a, h⟩
theorem whole_of {y : Fl} {u : Int} (h : Val 12 y (u * 4096)) : ∃ a s m e n drop, y = .bits a ∧ Ieee.double.read a = .number s m e ∧ m * 2 ^ e.toNat = n ∧ (-e).toNat = drop ∧ n = u.natAbs * 2 ^ drop ∧ sg s u.natAbs = u := by
  obtain ⟨a, s, m, e, rfl, hr, he, hv⟩ := h
  refine ⟨a, s, m, e, _, _, rfl, hr, rfl, rfl, ?_, ?_⟩
  · have h1 : m * 2 ^ (e + 1074).toNat = u.natAbs * 4096 * 2 ^ (1074 - 12) := by
      have := congrArg Int.natAbs hv
      rw [sg_natAbs, Int.natAbs_mul, Int.natAbs_mul, Int.natAbs_natCast] at this
      exact this
    have hP := Nat.two_pow_pos (1074 - (-e).toNat)
    apply Nat.eq_of_mul_eq_mul_right hP
    rw [Nat.mul_assoc, ← Nat.pow_add, Nat.mul_assoc, ← Nat.pow_add, show e.toNat + (1074 - (-e).toNat) = (e + 1074).toNat by omega, h1, show (4096 : Nat) = 2 ^ 12 by decide, Nat.mul_assoc, ← Nat.pow_add]
    congr 2
    omega
  · have hP := pow_pos_i (1074 - 12)
    by_cases h0 : u = 0
    · subst h0; cases s <;> rfl
    · have hu : 0 ≤ u * 4096 * ((2 ^ (1074 - 12) : Nat) : Int) ↔ 0 ≤ u := by
        constructor
        · intro h
          apply Int.not_lt.mp
          intro hu
          have : u * 4096 * ((2 ^ (1074 - 12) : Nat) : Int) < 0 := Int.mul_neg_of_neg_of_pos (by omega) hP
          omega
        · intro h; exact Int.mul_nonneg (by omega) (by omega)
      have hnz : u * 4096 * ((2 ^ (1074 - 12) : Nat) : Int) ≠ 0 := by
        intro h
        rcases Int.mul_eq_zero.1 h with h | h <;> omega
      rw [← hv] at hu hnz
      generalize m * 2 ^ (e + 1074).toNat = M at *
      cases s
      · simp only [sg, Bool.false_eq_true, if_false] at hu hnz ⊢
        omega
      · simp only [sg, if_true] at hu hnz ⊢
        omega
theorem floor_whole {y : Fl} {u : Int} (h : Val 12 y (u * 4096)) (hu : u.natAbs < 9007199254740992) : feq (fint Ieee.Toward.down y) y = true := by
  have h0 := h
  obtain ⟨a, s, m, e, n, drop, rfl, hr, hn, hd, hnu, hs⟩ := whole_of h
  have hm : n % 2 ^ drop = 0 := by rw [hnu]; exact Nat.mul_mod_left _ _
  rw [fint_num _ hr, hn, hd, cut_down, hm, if_neg (by simp), Nat.add_zero, hnu, Nat.mul_div_cancel _ (Nat.two_pow_pos drop)]
  have w := val_scale (d := 12) (whole_val s hu) (by decide)
  rw [hs, Nat.zero_add] at w
  exact feq_val w h0
structure SV (s : (Fl × Fl) × Bool) (u v : Int) : Prop where
  re : Val 12 s.1.1 u
  im : Val 12 s.1.2 v
  u0 : -2147483648 ≤ u
  u1 : u ≤ 2147483648
  v0 : -2147483648 ≤ v
  v1 : v ≤ 2147483648
def onb (u : Int) : Bool := decide (-4194304 ≤ u ∧ u ≤ 4194304)
theorem k1024 : Val 12 (Fl.bits 4652218415073722368) 4194304 := ⟨_, false, 4503599627370496, -42, rfl, by decide, by decide, by decide +kernel⟩
theorem m1024 : Val 12 (Fl.bits 13875590451928498176) (-4194304) := ⟨_, true, 4503599627370496, -42, rfl, by decide, by decide, by decide +kernel⟩
theorem c4096 : Val 0 (Fl.bits 4661225614328463360) 4096 := ⟨_, false, 4503599627370496, -40, rfl, by decide, by decide, by decide +kernel⟩
theorem within_dec {x : Fl} {u : Int} (h : Val 12 x u) : ((fge x (Fl.bits 13875590451928498176)) && (fle x (Fl.bits 4652218415073722368))) = onb u := by
  rw [fge_dec h m1024, fle_dec h k1024]
  unfold onb
  by_cases h1 : -4194304 ≤ u <;> by_cases h2 : u ≤ 4194304 <;> simp [h1, h2]
theorem on_c {x : Fl} {u : Int} (h : Val 12 x u) : f_grid_On x = some (onb u) := by
  unfold f_grid_On f_grid_within f_math_Floor
  simp only [Option.bind_some]
  rw [within_dec h]
  cases ho : onb u
  · rfl
  · unfold onb at ho
    rw [decide_eq_true_eq] at ho
    have hm := fmul_val h c4096 (by decide) (by omega)
    rw [Nat.add_zero] at hm
    rw [if_pos rfl, floor_whole hm (by omega)]; rfl
def mayb (s : (Fl × Fl) × Bool) (u v : Int) : Bool := if s.2 = true then ceq s.1 (Fl.bits 0, Fl.bits 0) else onb u && onb v
theorem may_c {s : (Fl × Fl) × Bool} {u v : Int} (h : SV s u v) : f_grid_may s.1 s.2 = some (mayb s u v) := by
  unfold f_grid_may mayb
  by_cases hs : s.2 = true
  · rw [if_pos hs, if_pos hs]
  · rw [if_neg hs, if_neg hs, on_c h.re, on_c h.im]
    simp only [Option.bind_some]
    cases onb u <;> rfl
def sgn (b : Bool) : Int := if b then 1 else -1
def sgf (b : Bool) : Fl := if b then Fl.bits 4607182418800017408 else Fl.bits 13830554455654793216
theorem sgf_val (b : Bool) : Val 0 (sgf b) (sgn b) := by
  cases b
  · exact ⟨_, true, 4503599627370496, -52, rfl, by decide, by decide, by decide +kernel⟩
  · exact ⟨_, false, 4503599627370496, -52, rfl, by decide, by decide, by decide +kernel⟩
theorem sgn_mul (b : Bool) (u : Int) : sgn b * u = u ∨ sgn b * u = -u := by cases b <;> simp [sgn]
theorem two_val : Val 0 (Fl.bits 4611686018427387904) 2 := ⟨_, false, 4503599627370496, -51, rfl, by decide, by decide, by decide +kernel⟩
def costV (one two : Bool) (s : (Fl × Fl) × Bool) (u v : Int) : Int := if s.2 = true then 0 else 8192 - 2 * (sgn one * u + sgn two * v)
theorem cost_ok (one two : Bool) {s : (Fl × Fl) × Bool} {u v : Int} (h : SV s u v) (hm : mayb s u v = true) : ∃ c, f_soft_cost one two s.1 s.2 = some c ∧ Val 12 c (costV one two s u v) ∧ (costV one two s u v).natAbs ≤ 33554432 := by
  unfold f_soft_cost costV
  by_cases hs : s.2 = true
  · rw [if_pos hs, if_pos hs]
    exact ⟨_, rfl, zero_val 12, by decide⟩
  · rw [if_neg hs, if_neg hs]
    unfold mayb at hm
    rw [if_neg hs] at hm
    simp only [onb, Bool.and_eq_true, decide_eq_true_eq] at hm
    have b1 := sgn_mul one u
    have b2 := sgn_mul two v
    have e1 : f_soft_sign one = some (sgf one) := by cases one <;> rfl
    have e2 : f_soft_sign two = some (sgf two) := by cases two <;> rfl
    rw [e1, e2]
    simp only [Option.bind_some]
    have m1 := fmul_val (sgf_val one) h.re (by decide) (by omega)
    have m2 := fmul_val (sgf_val two) h.im (by decide) (by omega)
    have m3 := fadd_val m1 m2 (by decide) (by omega)
    have m4 := fmul_val two_val m3 (by decide) (by omega)
    have s2 := val_scale (d := 12) two_val (by decide)
    have m5 := fsub_val s2 m4 (by decide) (by omega)
    rw [farithS_val (sgf_val one).bits h.re.bits m1]
    simp only [Option.bind_some]
    rw [farithS_val (sgf_val two).bits h.im.bits m2]
    simp only [Option.bind_some]
    rw [farithS_val m1.bits m2.bits m3]
    simp only [Option.bind_some]
    rw [farithS_val two_val.bits m3.bits m4]
    simp only [Option.bind_some]
    rw [farithS_val two_val.bits m4.bits m5]
    refine ⟨_, rfl, ?_, by omega⟩
    have : (2 : Int) * ((2 ^ 12 : Nat) : Int) - 2 * (sgn one * u + sgn two * v) = 8192 - 2 * (sgn one * u + sgn two * v) := by rw [show ((2 ^ 12 : Nat) : Int) = 4096 by decide]; omega
    rw [← this]
    exact m5

def gal (f : Nat → Bool) : Nat → Bool
  | 0 => true
  | i + 1 => gal f i && f i
theorem gal_false {f : Nat → Bool} : ∀ {i j : Nat}, i ≤ j → gal f i = false → gal f j = false := by
  intro i j h h0
  induction j with
  | zero => obtain rfl : i = 0 := by omega
            exact h0
  | succ j ih =>
    by_cases e : i = j + 1
    · subst e; exact h0
    · simp only [gal]; rw [ih (by omega)]; rfl
theorem gal_at {f : Nat → Bool} : ∀ {i j : Nat}, gal f j = true → i < j → f i = true := by
  intro i j h hi
  induction j with
  | zero => omega
  | succ j ih =>
    simp only [gal, Bool.and_eq_true] at h
    by_cases e : i = j
    · subst e; exact h.2
    · exact ih h.1 (by omega)
def SR (L : List ((Fl × Fl) × Bool)) (U V : Nat → Int) : Prop := ∀ i, i < L.length → SV (gt L (i : Int)) (U i) (V i)
def mf (L : List ((Fl × Fl) × Bool)) (U V : Nat → Int) (i : Nat) : Bool := mayb (gt L (i : Int)) (U i) (V i)
theorem grid_c {L : List ((Fl × Fl) × Bool)} {U V : Nat → Int} (h : SR L U V) (hl : L.length ≤ 16384) : ∃ x, f_grid_Check L = some (x, if gal (mf L U V) L.length = true then 0 else 7) := by
  have key : ∀ k i : Nat, i + k = L.length → gal (mf L U V) i = true → ∃ x, loop (f_grid_Check.s1 L) (i : Int) = some (if gal (mf L U V) L.length = true then .inl () else .inr (x, 7)) := by
    intro k
    induction k with
    | zero =>
      intro i hi h0
      obtain rfl : i = L.length := by omega
      refine ⟨0, ?_⟩
      rw [if_pos h0]
      apply loop_done
      simp only [f_grid_Check.s1, f_grid_Check.s1c]
      rw [if_neg (by simp)]
    | succ k ih =>
      intro i hi h0
      have hs : f_grid_Check.s1 L (i : Int) = some (if mf L U V i = true then .inl ((i + 1 : Nat) : Int) else .inr (.inr ((i : Int), 7))) := by
        simp only [f_grid_Check.s1, f_grid_Check.s1c]
        rw [if_pos (by rw [decide_eq_true_eq]; omega), if_pos (by omega), may_c (h i (by omega))]
        simp only [Option.bind_some]
        rw [show mayb (gt L (i : Int)) (U i) (V i) = mf L U V i from rfl, w64 (by omega) (by omega)]
        cases mf L U V i <;> rfl
      by_cases hm : mf L U V i = true
      · rw [if_pos hm] at hs
        rw [loop_step hs]
        exact ih (i + 1) (by omega) (by simp only [gal]; rw [h0, hm]; rfl)
      · rw [if_neg hm] at hs
        refine ⟨(i : Int), ?_⟩
        rw [loop_done hs, if_neg]
        rw [gal_false (i := i + 1) (by omega) (by simp only [gal]; rw [h0]; cases h' : mf L U V i <;> simp_all)]
        decide
  obtain ⟨x, hx⟩ := key L.length 0 (by omega) rfl
  rw [show ((0 : Nat) : Int) = 0 from rfl] at hx
  unfold f_grid_Check
  rw [if_neg (by rw [decide_eq_true_eq]; omega), hx]
  by_cases ha : gal (mf L U V) L.length = true
  · rw [if_pos ha, if_pos ha]; exact ⟨0, rfl⟩
  · rw [if_neg ha, if_neg ha]; exact ⟨x, rfl⟩
def pc (n a b : Nat) (bits : List Bool) (L : List ((Fl × Fl) × Bool)) (U V : Nat → Int) : Nat → Int
  | 0 => 0
  | i + 1 => pc n a b bits L U V i + costV (ob n a (st n bits i) (bitAt bits i)) (ob n b (st n bits i) (bitAt bits i)) (gt L (i : Int)) (U i) (V i)
theorem sign_c (b : Bool) : f_soft_sign b = some (sgf b) := by cases b <;> rfl
theorem Point_c (x y : Bool) : f_soft_Point x y = some (sgf x, sgf y) := by unfold f_soft_Point; rw [sign_c, sign_c]; rfl
theorem bitAt_app {l : List Bool} (x : Bool) {t : Nat} (ht : t < l.length) : bitAt (l ++ [x]) t = bitAt l t := by
  unfold bitAt
  rw [if_pos ht, if_pos (by simp; omega), gt_nat ht, gt_nat (by simp; omega), List.getElem_append_left ht]
theorem bitAt_last (l : List Bool) (x : Bool) : bitAt (l ++ [x]) l.length = x := by
  unfold bitAt
  rw [if_pos (by simp), gt_nat (by simp), List.getElem_append_right (by omega)]; simp
theorem st_congr {n : Nat} {l m : List Bool} : ∀ i, (∀ t, t < i → bitAt l t = bitAt m t) → st n l i = st n m i
  | 0, _ => rfl
  | i + 1, h => by
    show nx n (st n l i) (bitAt l i) = nx n (st n m i) (bitAt m i)
    rw [st_congr i (fun t ht => h t (by omega)), h i (by omega)]
def bv (l : List Bool) : Nat := l.foldl (fun acc b => 2 * acc + bn b) 0
theorem bv_snoc (l : List Bool) (b : Bool) : bv (l ++ [b]) = 2 * bv l + bn b := by simp [bv]
theorem bn_lt (b : Bool) : bn b < 2 := by cases b <;> decide
theorem bn_inj {a b : Bool} (h : bn a = bn b) : a = b := by revert h; cases a <;> cases b <;> decide
theorem snoc_of {l : List Bool} {i : Nat} (h : l.length = i + 1) : ∃ l' b, l = l' ++ [b] ∧ l'.length = i := by
  have hne : l ≠ [] := by intro e; rw [e] at h; simp at h
  exact ⟨l.dropLast, l.getLast hne, (List.dropLast_concat_getLast hne).symm, by simp; omega⟩
theorem bv_inj : ∀ (i : Nat) (l m : List Bool), l.length = i → m.length = i → bv l = bv m → l = m
  | 0, l, m, h1, h2, _ => by rw [List.length_eq_zero_iff.1 h1, List.length_eq_zero_iff.1 h2]
  | i + 1, l, m, h1, h2, h => by
    obtain ⟨l', b, rfl, e1⟩ := snoc_of h1
    obtain ⟨m', c, rfl, e2⟩ := snoc_of h2
    rw [bv_snoc, bv_snoc] at h
    have hb := bn_lt b; have hc := bn_lt c
    rw [bv_inj i l' m' e1 e2 (by omega), bn_inj (show bn b = bn c by omega)]
section
variable {C : List Bool → Int}
def Lt (C : List Bool → Int) (l m : List Bool) : Prop := C l < C m ∨ C l = C m ∧ bv l < bv m
theorem Lt.trans {l m k : List Bool} (h : Lt C l m) (h2 : Lt C m k) : Lt C l k := by unfold Lt at *; omega
theorem Lt.irrefl {l : List Bool} (h : Lt C l l) : False := by unfold Lt at h; omega
theorem Lt.total {l m : List Bool} (hl : l.length = m.length) (hne : l ≠ m) : Lt C l m ∨ Lt C m l := by
  have : bv l ≠ bv m := fun h => hne (bv_inj _ l m hl rfl h)
  unfold Lt; omega
def Best2 (C : List Bool → Int) (D : List Bool → Prop) : Option (List Bool) → Option (List Bool) → Prop
  | none, none => ∀ l, ¬ D l
  | none, some _ => False
  | some a, none => D a ∧ ∀ l, D l → l = a
  | some a, some b => D a ∧ D b ∧ Lt C a b ∧ ∀ l, D l → l = a ∨ l = b ∨ Lt C b l
theorem Best2.congr {D D' : List Bool → Prop} (h : ∀ l, D l ↔ D' l) : ∀ {e1 e2 : Option (List Bool)}, Best2 C D e1 e2 → Best2 C D' e1 e2
  | none, none, k => fun l hl => k l ((h l).2 hl)
  | none, some _, k => k.elim
  | some a, none, k => ⟨(h a).1 k.1, fun l hl => k.2 l ((h l).2 hl)⟩
  | some a, some b, k => ⟨(h a).1 k.1, (h b).1 k.2.1, k.2.2.1, fun l hl => k.2.2.2 l ((h l).2 hl)⟩
theorem Best2.fst {D : List Bool → Prop} {a : List Bool} : ∀ {e : Option (List Bool)}, Best2 C D (some a) e → D a ∧ ∀ l, D l → l = a ∨ Lt C a l
  | none, k => ⟨k.1, fun l hl => .inl (k.2 l hl)⟩
  | some b, k => ⟨k.1, fun l hl => by
      rcases k.2.2.2 l hl with h | h | h
      · exact .inl h
      · exact .inr (h ▸ k.2.2.1)
      · exact .inr (k.2.2.1.trans h)⟩
theorem Best2.snd {D : List Bool → Prop} {b : List Bool} : ∀ {e : Option (List Bool)}, Best2 C D e (some b) → D b ∧ ∃ a, e = some a ∧ D a ∧ Lt C a b
  | none, k => k.elim
  | some a, k => ⟨k.2.1, a, rfl, k.1, k.2.2.1⟩
theorem Best2.none1 {D : List Bool → Prop} : ∀ {e : Option (List Bool)}, Best2 C D none e → e = none ∧ ∀ l, ¬ D l
  | none, k => ⟨rfl, k⟩
  | some _, k => k.elim
noncomputable def put2 (C : List Bool → Int) (m : List Bool) : Option (List Bool) → Option (List Bool) → Option (List Bool) × Option (List Bool)
  | none, e => (some m, e)
  | some a, none => open Classical in if Lt C m a then (some m, some a) else (some a, some m)
  | some a, some b => open Classical in if Lt C m a then (some m, some a) else if Lt C m b then (some a, some m) else (some a, some b)
theorem Best2.put {D : List Bool → Prop} {m : List Bool} {i : Nat} (hD : ∀ l, D l → l.length = i) (hm : m.length = i) (hn : ¬ D m) : ∀ {e1 e2 : Option (List Bool)}, Best2 C D e1 e2 →
    Best2 C (fun l => D l ∨ l = m) (put2 C m e1 e2).1 (put2 C m e1 e2).2
  | none, none, k => ⟨.inr rfl, fun l hl => hl.resolve_left (k l)⟩
  | none, some _, k => k.elim
  | some a, none, k => by
    have ha : m ≠ a := fun e => hn (e ▸ k.1)
    simp only [put2]
    by_cases h : Lt C m a
    · rw [if_pos h]
      refine ⟨.inr rfl, .inl k.1, h, fun l hl => ?_⟩
      rcases hl with hl | hl
      · exact .inr (.inl (k.2 l hl))
      · exact .inl hl
    · rw [if_neg h]
      have h2 := (Lt.total (C := C) (hm.trans (hD a k.1).symm) ha).resolve_left h
      refine ⟨.inl k.1, .inr rfl, h2, fun l hl => ?_⟩
      rcases hl with hl | hl
      · exact .inl (k.2 l hl)
      · exact .inr (.inl hl)
  | some a, some b, k => by
    have ha : m ≠ a := fun e => hn (e ▸ k.1)
    have hb : m ≠ b := fun e => hn (e ▸ k.2.1)
    simp only [put2]
    by_cases h : Lt C m a
    · rw [if_pos h]
      refine ⟨.inr rfl, .inl k.1, h, fun l hl => ?_⟩
      rcases hl with hl | hl
      · rcases k.2.2.2 l hl with h1 | h1 | h1
        · exact .inr (.inl h1)
        · exact .inr (.inr (h1 ▸ k.2.2.1))
        · exact .inr (.inr (k.2.2.1.trans h1))
      · exact .inl hl
    · rw [if_neg h]
      have h2 := (Lt.total (C := C) (hm.trans (hD a k.1).symm) ha).resolve_left h
      by_cases h3 : Lt C m b
      · rw [if_pos h3]
        refine ⟨.inl k.1, .inr rfl, h2, fun l hl => ?_⟩
        rcases hl with hl | hl
        · rcases k.2.2.2 l hl with h1 | h1 | h1
          · exact .inl h1
          · exact .inr (.inr (h1 ▸ h3))
          · exact .inr (.inr (h3.trans h1))
        · exact .inr (.inl hl)
      · rw [if_neg h3]
        have h4 := (Lt.total (C := C) (hm.trans (hD b k.2.1).symm) hb).resolve_left h3
        refine ⟨.inl k.1, .inl k.2.1, k.2.2.1, fun l hl => ?_⟩
        rcases hl with hl | hl
        · exact k.2.2.2 l hl
        · exact .inr (.inr (hl ▸ h4))
theorem Best2.up {D M : List Bool → Prop} (h1 : ∀ l, D l → M l) (h2 : ∀ l, M l → D l ∨ ∃ m1 m2, D m1 ∧ D m2 ∧ m1 ≠ m2 ∧ Lt C m1 l ∧ Lt C m2 l) : ∀ {e1 e2 : Option (List Bool)}, Best2 C D e1 e2 → Best2 C M e1 e2
  | none, none, k => fun l hl => by
    rcases h2 l hl with h | ⟨m1, _, h, _⟩
    · exact k l h
    · exact k m1 h
  | none, some _, k => k.elim
  | some a, none, k => ⟨h1 a k.1, fun l hl => by
      rcases h2 l hl with h | ⟨m1, m2, d1, d2, hne, _⟩
      · exact k.2 l h
      · exact absurd ((k.2 m1 d1).trans (k.2 m2 d2).symm) hne⟩
  | some a, some b, k => ⟨h1 a k.1, h1 b k.2.1, k.2.2.1, fun l hl => by
      rcases h2 l hl with h | ⟨m1, m2, d1, d2, hne, l1, l2⟩
      · exact k.2.2.2 l h
      · have key : ∀ m, D m → Lt C m l → m ≠ a → Lt C b l := by
          intro m d lt hma
          rcases k.2.2.2 m d with h | h | h
          · exact absurd h hma
          · exact h ▸ lt
          · exact h.trans lt
        by_cases e : m1 = a
        · exact .inr (.inr (key m2 d2 l2 (fun e2 => hne (e.trans e2.symm))))
        · exact .inr (.inr (key m1 d1 l1 e))⟩
end
abbrev PW := Option Nat × Option Nat
def Ext (A A' : List WayC) : Prop := A.length ≤ A'.length ∧ ∀ j, j < A.length → (nth A' j).1 = (nth A j).1 ∧ (nth A' j).2.1 = (nth A j).2.1 ∧ (nth A' j).2.2.1 = (nth A j).2.2.1
theorem Ext.refl (A : List WayC) : Ext A A := ⟨Nat.le_refl _, fun _ _ => ⟨rfl, rfl, rfl⟩⟩
theorem Ext.trans {A B D : List WayC} (h : Ext A B) (k : Ext B D) : Ext A D :=
  ⟨Nat.le_trans h.1 k.1, fun j hj => by
    obtain ⟨a1, a2, a3⟩ := h.2 j hj
    obtain ⟨b1, b2, b3⟩ := k.2 j (Nat.lt_of_lt_of_le hj h.1)
    exact ⟨b1.trans a1, b2.trans a2, b3.trans a3⟩⟩
theorem nth_app {A : List WayC} {x : WayC} {j : Nat} (h : j < A.length) : nth (A ++ [x]) j = nth A j := by
  unfold nth
  rw [List.getD_eq_getElem?_getD, List.getD_eq_getElem?_getD, List.getElem?_append_left h]
theorem nth_last (A : List WayC) (x : WayC) : nth (A ++ [x]) A.length = x := by
  unfold nth
  rw [List.getD_eq_getElem?_getD, List.getElem?_append_right (Nat.le_refl _)]; simp
theorem nth_setR {A : List WayC} {i j : Nat} {r : Int} (h : i < A.length) : nth (setR A i r) j = if i = j then ((nth A j).1, (nth A j).2.1, (nth A j).2.2.1, r) else nth A j := by
  unfold setR
  by_cases e : i = j
  · subst e
    rw [if_pos rfl]
    show (A.set i _).getD i default = _
    rw [List.getD_eq_getElem?_getD, List.getElem?_set_self h]; rfl
  · rw [if_neg e]
    show (A.set i _).getD j default = A.getD j default
    rw [List.getD_eq_getElem?_getD, List.getD_eq_getElem?_getD, List.getElem?_set_ne e]
theorem Ext.app (A : List WayC) (x : WayC) : Ext A (A ++ [x]) := ⟨by simp, fun j hj => by rw [nth_app hj]; exact ⟨rfl, rfl, rfl⟩⟩
theorem Ext.setR {A : List WayC} {i : Nat} (h : i < A.length) (r : Int) : Ext A (setR A i r) := ⟨by rw [setR_len]; exact Nat.le_refl _, fun j hj => by rw [nth_setR h]; split <;> exact ⟨rfl, rfl, rfl⟩⟩
inductive Rep (C : List Bool → Int) (A : List WayC) : Nat → List Bool → Prop
  | root {j : Nat} (h : j < A.length) (h1 : (nth A j).2.1 = none) (h2 : Val 12 (nth A j).2.2.1 (C [])) : Rep C A j []
  | step {j i : Nat} {l : List Bool} {b : Bool} (hj : j < A.length) (h : Rep C A i l) (h1 : (nth A j).1 = b) (h2 : (nth A j).2.1 = some i) (h3 : Val 12 (nth A j).2.2.1 (C (l ++ [b]))) : Rep C A j (l ++ [b])
theorem Rep.lt {C : List Bool → Int} {A : List WayC} {j : Nat} {l : List Bool} (h : Rep C A j l) : j < A.length := by cases h <;> assumption
theorem Rep.val {C : List Bool → Int} {A : List WayC} {j : Nat} {l : List Bool} (h : Rep C A j l) : Val 12 (nth A j).2.2.1 (C l) := by cases h <;> assumption
theorem Rep.ext {C : List Bool → Int} {A A' : List WayC} (e : Ext A A') {j : Nat} {l : List Bool} (h : Rep C A j l) : Rep C A' j l := by
  induction h with
  | root h h1 h2 =>
    obtain ⟨e1, e2, e3⟩ := e.2 _ h
    exact .root (Nat.lt_of_lt_of_le h e.1) (e2.trans h1) (e3 ▸ h2)
  | step hj h h1 h2 h3 ih =>
    obtain ⟨e1, e2, e3⟩ := e.2 _ hj
    exact .step (Nat.lt_of_lt_of_le hj e.1) ih (e1.trans h1) (e2.trans h2) (e3 ▸ h3)
theorem Rep.fun {C : List Bool → Int} {A : List WayC} {j : Nat} {l : List Bool} (h : Rep C A j l) : ∀ {m : List Bool}, Rep C A j m → l = m := by
  induction h with
  | root h h1 h2 =>
    intro m hm
    cases hm with
    | root _ _ _ => rfl
    | step _ _ _ k2 _ => rw [h1] at k2; cases k2
  | step hj h h1 h2 h3 ih =>
    intro m hm
    cases hm with
    | root _ k1 _ => rw [h2] at k1; cases k1
    | step _ k k1 k2 _ =>
      rw [h2] at k2; cases k2
      rw [ih k, ← h1, k1]
theorem flt_dec {p : Nat} {x y : Fl} {k l : Int} (h1 : Val p x k) (h2 : Val p y l) : flt x y = decide (k < l) := by
  unfold flt
  rw [fcmp_val h1 h2]
  rw [Bool.eq_iff_iff, beq_iff_eq, decide_eq_true_eq, Option.some.injEq, Int.compare_eq_lt]
theorem fne_dec {p : Nat} {x y : Fl} {k l : Int} (h1 : Val p x k) (h2 : Val p y l) : fne x y = !decide (k = l) := by
  have e : fne x y = !feq x y := rfl
  rw [e, feq_dec h1 h2]
section
variable {C : List Bool → Int} {A : List WayC}
theorem better_ok {j1 j2 i1 i2 : Nat} {l1 l2 : List Bool} {b1 b2 : Bool} (v1 : Val 12 (nth A j1).2.2.1 (C (l1 ++ [b1]))) (v2 : Val 12 (nth A j2).2.2.1 (C (l2 ++ [b2])))
    (n1 : (nth A j1).1 = b1) (p1 : (nth A j1).2.1 = some i1) (n2 : (nth A j2).1 = b2) (p2 : (nth A j2).2.1 = some i2) (hp : i1 = i2 ↔ l1 = l2) (hl : l1.length = l2.length) (hr : (nth A i1).2.2.2 < (nth A i2).2.2.2 ↔ bv l1 < bv l2) :
    ∃ v : Bool, f_soft_run_1 A (some j1) (some j2) = some v ∧ (v = true ↔ Lt C (l1 ++ [b1]) (l2 ++ [b2])) := by
  unfold f_soft_run_1
  simp only [Option.bind_some]
  rw [fne_dec v1 v2, flt_dec v1 v2, p1, p2, n1, n2]
  simp only [Option.bind_some]
  have hb1 := bn_lt b1; have hb2 := bn_lt b2
  unfold Lt
  rw [bv_snoc, bv_snoc]
  by_cases hk : C (l1 ++ [b1]) = C (l2 ++ [b2])
  · rw [hk, if_neg (by simp)]
    by_cases hi : i1 = i2
    · have hll := hp.1 hi
      subst hi hll
      rw [if_neg (by simp)]
      refine ⟨(!b1) && b2, by cases b1 <;> rfl, ?_⟩
      cases b1 <;> cases b2 <;> simp [bn]
    · have hne : bv l1 ≠ bv l2 := fun h => hi (hp.2 (bv_inj _ _ _ hl rfl h))
      rw [if_pos (by simp [hi])]
      refine ⟨_, rfl, ?_⟩
      rw [decide_eq_true_eq, hr]
      omega
  · rw [if_pos (by simp [hk])]
    refine ⟨_, rfl, ?_⟩
    rw [decide_eq_true_eq]
    omega
def RO (R : Nat → List Bool → Prop) : Option Nat → Option (List Bool) → Prop
  | none, none => True
  | some j, some m => R j m
  | _, _ => False
theorem RO.none1 {R : Nat → List Bool → Prop} {q : Option Nat} (h : RO R q none) : q = none := by cases q <;> simp_all [RO]
theorem RO.some1 {R : Nat → List Bool → Prop} {q : Option Nat} {m : List Bool} (h : RO R q (some m)) : ∃ j, q = some j ∧ R j m := by
  cases q with
  | none => exact h.elim
  | some j => exact ⟨j, rfl, h⟩
theorem RO.of_some {R : Nat → List Bool → Prop} {j : Nat} {e : Option (List Bool)} (h : RO R (some j) e) : ∃ m, e = some m ∧ R j m := by
  cases e with
  | none => exact h.elim
  | some m => exact ⟨m, rfl, h⟩
theorem RO.mono {R R' : Nat → List Bool → Prop} (h : ∀ j m, R j m → R' j m) : ∀ {q : Option Nat} {e : Option (List Bool)}, RO R q e → RO R' q e
  | none, none, _ => trivial
  | some j, some m, k => h j m k
  | none, some _, k => k.elim
  | some _, none, k => k.elim
def NR (C : List Bool → Int) (A : List WayC) (P : Nat → List Bool → Prop) (j : Nat) (m : List Bool) : Prop :=
  ∃ i0 l c, m = l ++ [c] ∧ j < A.length ∧ (nth A j).1 = c ∧ (nth A j).2.1 = some i0 ∧ Val 12 (nth A j).2.2.1 (C m) ∧ P i0 l
structure OK1 (A : List WayC) (P : Nat → List Bool → Prop) (i : Nat) : Prop where
  len : ∀ j l, P j l → l.length = i
  ptr : ∀ j l j' l', P j l → P j' l' → (j = j' ↔ l = l')
  rk : ∀ j l j' l', P j l → P j' l' → ((nth A j).2.2.2 < (nth A j').2.2.2 ↔ bv l < bv l')
theorem NR.better {P : Nat → List Bool → Prop} {i : Nat} (hP : OK1 A P i) {j1 j2 : Nat} {m1 m2 : List Bool} (h1 : NR C A P j1 m1) (h2 : NR C A P j2 m2) :
    ∃ v : Bool, f_soft_run_1 A (some j1) (some j2) = some v ∧ (v = true ↔ Lt C m1 m2) := by
  obtain ⟨i1, l1, c1, rfl, a1, a2, a3, a4, a5⟩ := h1
  obtain ⟨i2, l2, c2, rfl, d1, d2, d3, d4, d5⟩ := h2
  exact better_ok a4 d4 a2 a3 d2 d3 (hP.ptr _ _ _ _ a5 d5) ((hP.len _ _ a5).trans (hP.len _ _ d5).symm) (hP.rk _ _ _ _ a5 d5)
theorem gt_setw {th : List PW} {s : Nat} (h : s < th.length) (x : PW) : gt (th.set s x) (s : Int) = x := by
  rw [gt_nat (by rw [List.length_set]; exact h)]; simp
theorem put_ok {P : Nat → List Bool → Prop} {i : Nat} (hP : OK1 A P i) {th : List PW} {s j : Nat} {m : List Bool} {e1 e2 : Option (List Bool)} (hs : s < th.length)
    (r1 : RO (NR C A P) (gt th (s : Int)).1 e1) (r2 : RO (NR C A P) (gt th (s : Int)).2 e2) (h12 : e1 = none → e2 = none) (hm : NR C A P j m) :
    ∃ q1 q2, f_soft_two_put A th (s : Int) (some j) = some (th.set s (q1, q2)) ∧ RO (NR C A P) q1 (put2 C m e1 e2).1 ∧ RO (NR C A P) q2 (put2 C m e1 e2).2 := by
  have hsame : th.set s ((gt th (s : Int)).1, (gt th (s : Int)).2) = th := by
    refine List.ext_getElem (by simp) fun k h1 h2 => ?_
    rw [List.getElem_set]
    split
    · rename_i e; subst e; rw [gt_nat hs]
    · rfl
  have first : ∀ z : Bool, (if z = true then (some ((th.set ((s : Int)).toNat (some j, (gt th (s : Int)).2)).set ((s : Int)).toNat ((gt (th.set ((s : Int)).toNat (some j, (gt th (s : Int)).2)) (s : Int)).1, (gt th (s : Int)).1))) else none) = if z = true then some (th.set s (some j, (gt th (s : Int)).1)) else none := by
    intro z
    rw [Int.toNat_natCast, gt_setw hs, List.set_set]
  unfold f_soft_two_put
  cases e1 with
  | none =>
    have h2 := h12 rfl
    subst h2
    have g1 := r1.none1
    have g2 := r2.none1
    rw [g1]
    simp only [Option.isNone_none, if_true, Option.bind_some]
    have := first true
    simp only [if_true, g1] at this
    rw [this]
    exact ⟨_, _, rfl, hm, trivial⟩
  | some a1 =>
    obtain ⟨j1, g1, k1⟩ := r1.some1
    obtain ⟨v1, w1, w2⟩ := hm.better hP k1
    rw [g1]
    simp only [Option.isNone_some, Bool.false_eq_true, if_false, w1, Option.bind_some]
    cases hv : v1 with
    | true =>
      have hlt := w2.1 hv
      have := first true
      simp only [if_true, g1] at this
      rw [if_pos rfl, this]
      refine ⟨_, _, rfl, ?_⟩
      cases e2 with
      | none => simp only [put2, if_pos hlt]; exact ⟨hm, k1⟩
      | some a2 => simp only [put2, if_pos hlt]; exact ⟨hm, k1⟩
    | false =>
      have hlt : ¬ Lt C m a1 := fun h => by have := w2.2 h; rw [hv] at this; cases this
      rw [if_neg (by simp)]
      cases e2 with
      | none =>
        have g2 := r2.none1
        rw [g2]
        simp only [Option.isNone_none, if_true, Option.bind_some, Int.toNat_natCast]
        refine ⟨_, _, rfl, ?_⟩
        simp only [put2, if_neg hlt]
        exact ⟨k1, hm⟩
      | some a2 =>
        obtain ⟨j2, g2, k2⟩ := r2.some1
        obtain ⟨v2, w3, w4⟩ := hm.better hP k2
        rw [g2]
        simp only [Option.isNone_some, Bool.false_eq_true, if_false, w3, Option.bind_some]
        cases hv2 : v2 with
        | true =>
          have hlt2 := w4.1 hv2
          rw [if_pos rfl, Int.toNat_natCast]
          refine ⟨_, _, rfl, ?_⟩
          simp only [put2, if_neg hlt, if_pos hlt2]
          exact ⟨k1, hm⟩
        | false =>
          have hlt2 : ¬ Lt C m a2 := fun h => by have := w4.2 h; rw [hv2] at this; cases this
          rw [if_neg (by simp)]
          refine ⟨_, _, by rw [hsame], ?_⟩
          simp only [put2, if_neg hlt, if_neg hlt2]
          rw [g1, g2]
          exact ⟨k1, k2⟩
theorem NR.up {P : Nat → List Bool → Prop} {x : WayC} {j : Nat} {m : List Bool} (h : NR C A P j m) : NR C (A ++ [x]) P j m := by
  obtain ⟨i0, l, c, h1, h2, h3, h4, h5, h6⟩ := h
  exact ⟨i0, l, c, h1, by simp; omega, by rw [nth_app h2]; exact h3, by rw [nth_app h2]; exact h4, by rw [nth_app h2]; exact h5, h6⟩
theorem OK1.up {P : Nat → List Bool → Prop} {i : Nat} {x : WayC} (h : OK1 A P i) (hlt : ∀ j l, P j l → j < A.length) : OK1 (A ++ [x]) P i :=
  ⟨h.len, h.ptr, fun j l j' l' p p' => by rw [nth_app (hlt j l p), nth_app (hlt j' l' p')]; exact h.rk j l j' l' p p'⟩
end
theorem gt_set_ne {th : List PW} {s t : Nat} (h : s ≠ t) (x : PW) : gt (th.set s x) (t : Int) = gt th (t : Int) := by
  unfold GL.gt
  rw [List.getD_eq_getElem?_getD, List.getD_eq_getElem?_getD, Int.toNat_natCast, List.getElem?_set_ne h]
theorem gt_rep {m q : Nat} (h : q < m) : gt (List.replicate m ((none : Option Nat), (none : Option Nat))) (q : Int) = (none, none) := by
  rw [gt_nat (by rw [List.length_replicate]; exact h)]; simp
def slp (th : List PW) (s k : Nat) : Option Nat := gt [(gt th (s : Int)).1, (gt th (s : Int)).2] (k : Int)
def Fq (se : List PW) (q : Nat) : Option Nat := gt [(gt se ((q / 2 : Nat) : Int)).1, (gt se ((q / 2 : Nat) : Int)).2] ((q % 2 : Nat) : Int)
def kq (A : List WayC) (j : Nat) : Nat := 2 * ((nth A ((nth A j).2.1.getD 0)).2.2.2).toNat + bn (nth A j).1
def occ (se : List PW) (q : Nat) : Nat := if (Fq se q).isSome then 1 else 0
theorem occ_le (se : List PW) (q : Nat) : occ se q ≤ 1 := by unfold occ; split <;> omega
theorem Fq_set {se : List PW} {r : Nat} (hr : r < se.length) (c : Bool) (j : Nat) (q : Nat) : Fq (se.set r (pput (gt se (r : Int)) (if c then 1 else 0) (some j))) q = if q = 2 * r + bn c then some j else Fq se q := by
  unfold Fq
  by_cases hq : q / 2 = r
  · rw [hq, gt_setw hr]
    cases c with
    | false =>
      simp only [Bool.false_eq_true, if_false, bn, Nat.add_zero, pput, if_true]
      rcases (show q % 2 = 0 ∨ q % 2 = 1 by omega) with h | h
      · rw [h, if_pos (show q = 2 * r by omega)]; rfl
      · rw [h, if_neg (show ¬ q = 2 * r by omega)]; rfl
    | true =>
      have e10 : ¬ ((1 : Int) = 0) := by decide
      simp only [if_true, bn, pput, if_neg e10]
      rcases (show q % 2 = 0 ∨ q % 2 = 1 by omega) with h | h
      · rw [h, if_neg (show ¬ q = 2 * r + 1 by omega)]; rfl
      · rw [h, if_pos (show q = 2 * r + 1 by omega)]; rfl
  · have : q ≠ 2 * r + bn c := by have := bn_lt c; omega
    rw [if_neg this, gt_set_ne (fun h => hq h.symm)]
section
variable {A : List WayC} {th : List PW} {N : Nat}
structure I1 (A : List WayC) (th : List PW) (N s k : Nat) (se : List PW) : Prop where
  len : se.length = 2 * N
  at_ : ∀ q, q < 4 * N → ∀ j, Fq se q = some j ↔ (∃ s0 k0, s0 < N ∧ k0 < 2 ∧ (s0 < s ∨ s0 = s ∧ k0 < k) ∧ slp th s0 k0 = some j) ∧ kq A j = q
  cnt : fs (occ se) (4 * N) ≤ 2 * s + k
structure HE (A : List WayC) (th : List PW) (N : Nat) : Prop where
  nod : ∀ s k j, s < N → k < 2 → slp th s k = some j → j < A.length ∧ ∃ i0, (nth A j).2.1 = some i0 ∧ 0 ≤ (nth A i0).2.2.2 ∧ (nth A i0).2.2.2 < 2 * N
  inj : ∀ s k j s' k' j', s < N → k < 2 → slp th s k = some j → s' < N → k' < 2 → slp th s' k' = some j' → kq A j = kq A j' → j = j'
theorem rank_s2 (hE : HE A th N) (hN : N ≤ 64) (hl : th.length = 64) {s k : Nat} {se : List PW} (h : I1 A th N s k se) (hs : s < N) (hk : k < 2) :
    ∃ se', f_soft_ranked.s2 A th (s : Int) (se, (k : Int)) = some (.inl (se', ((k + 1 : Nat) : Int))) ∧ I1 A th N s (k + 1) se' := by
  have hw : IntKind.i64.wrap ((k : Int) + 1) = ((k + 1 : Nat) : Int) := by rw [w64 (by omega) (by omega)]; rfl
  simp only [f_soft_ranked.s2, f_soft_ranked.s2c]
  rw [if_pos (by rw [decide_eq_true_eq]; omega), if_pos (by omega), show gt [(gt th (s : Int)).1, (gt th (s : Int)).2] (k : Int) = slp th s k from rfl, hw]
  cases hsl : slp th s k with
  | none =>
    simp only [Option.isNone_none, if_true]
    refine ⟨_, rfl, h.len, fun q hq j => ?_, by have := h.cnt; omega⟩
    rw [h.at_ q hq j]
    constructor
    · rintro ⟨⟨s0, k0, h1, h2, h3, h4⟩, h5⟩
      exact ⟨⟨s0, k0, h1, h2, by omega, h4⟩, h5⟩
    · rintro ⟨⟨s0, k0, h1, h2, h3, h4⟩, h5⟩
      refine ⟨⟨s0, k0, h1, h2, ?_, h4⟩, h5⟩
      by_cases e : s0 = s ∧ k0 = k
      · obtain ⟨rfl, rfl⟩ := e; rw [hsl] at h4; cases h4
      · omega
  | some j =>
    obtain ⟨n1, i0, n2, n3, n4⟩ := hE.nod s k j hs hk hsl
    have hkq : kq A j = 2 * ((nth A i0).2.2.2).toNat + bn (nth A j).1 := by unfold kq; rw [n2]; rfl
    have hb := bn_lt (nth A j).1
    obtain ⟨r, hr⟩ : ∃ r : Nat, (nth A i0).2.2.2 = (r : Int) := ⟨((nth A i0).2.2.2).toNat, by omega⟩
    rw [hr, Int.toNat_natCast] at hkq
    have hrl : r < se.length := by rw [h.len]; omega
    have hj1 : f_soft_ranked.j1 A th se (s : Int) (k : Int) (r : Int) = some (.inl (se.set r (pput (gt se (r : Int)) (if (nth A j).1 then 1 else 0) (some j)), ((k + 1 : Nat) : Int))) := by
      unfold f_soft_ranked.j1
      rw [show gt [(gt th (s : Int)).1, (gt th (s : Int)).2] (k : Int) = slp th s k from rfl, hsl]
      simp only [Option.bind_some]
      have hj2 : ∀ c : Int, 0 ≤ c → c < 2 → f_soft_ranked.j2 th se (s : Int) (k : Int) (r : Int) c = some (.inl (se.set r (pput (gt se (r : Int)) c (some j)), ((k + 1 : Nat) : Int))) := by
        intro c c0 c1
        unfold f_soft_ranked.j2
        rw [if_pos (by omega), if_pos (by omega), show gt [(gt th (s : Int)).1, (gt th (s : Int)).2] (k : Int) = slp th s k from rfl, hsl, hw, Int.toNat_natCast]
      cases (nth A j).1 with
      | true => rw [if_pos rfl, hj2 1 (by decide) (by decide)]; rfl
      | false => rw [if_neg (by simp), hj2 0 (by decide) (by decide)]; rfl
    simp only [Option.isNone_some, Bool.false_eq_true, if_false, Option.bind_some, n2, Bool.not_false, if_true, hr, hj1]
    have hF := Fq_set (se := se) hrl (nth A j).1 j
    have hq0 : 2 * r + bn (nth A j).1 < 4 * N := by rw [h.len] at hrl; omega
    refine ⟨_, rfl, by rw [List.length_set]; exact h.len, fun q hq j' => ?_, ?_⟩
    · rw [hF]
      by_cases e : q = 2 * r + bn (nth A j).1
      · rw [if_pos e]
        constructor
        · intro hj
          have := Option.some.inj hj
          subst this
          exact ⟨⟨s, k, hs, hk, by omega, hsl⟩, by omega⟩
        · rintro ⟨⟨s0, k0, h1, h2, h3, h4⟩, h5⟩
          rw [hE.inj s k j s0 k0 j' hs hk hsl h1 h2 h4 (by omega)]
      · rw [if_neg e, h.at_ q hq j']
        constructor
        · rintro ⟨⟨s0, k0, h1, h2, h3, h4⟩, h5⟩
          exact ⟨⟨s0, k0, h1, h2, by omega, h4⟩, h5⟩
        · rintro ⟨⟨s0, k0, h1, h2, h3, h4⟩, h5⟩
          refine ⟨⟨s0, k0, h1, h2, ?_, h4⟩, h5⟩
          by_cases e2 : s0 = s ∧ k0 = k
          · obtain ⟨rfl, rfl⟩ := e2
            rw [hsl] at h4; cases h4
            omega
          · omega
    · have := fs_upd (f := occ se) (g := occ (se.set r (pput (gt se (r : Int)) (if (nth A j).1 then 1 else 0) (some j)))) (p := 2 * r + bn (nth A j).1) hq0 (fun i hi hne => by unfold occ; rw [hF, if_neg hne])
      have hg : occ (se.set r (pput (gt se (r : Int)) (if (nth A j).1 then 1 else 0) (some j))) (2 * r + bn (nth A j).1) ≤ 1 := occ_le _ _
      have := h.cnt
      omega
theorem rank_seats (hE : HE A th N) (hN : N ≤ 64) (hl : th.length = 64) : ∃ se, loop (f_soft_ranked.s1 A th (N : Int)) (List.replicate (2 * N) ((none : Option Nat), (none : Option Nat)), 0) = some se ∧ I1 A th N N 0 se := by
  have inner : ∀ {s : Nat} {se : List PW}, s < N → I1 A th N s 0 se → ∃ se', loop (f_soft_ranked.s2 A th (s : Int)) (se, 0) = some se' ∧ I1 A th N (s + 1) 0 se' := by
    intro s se hs h
    obtain ⟨se1, a1, a2⟩ := rank_s2 hE hN hl h hs (by decide)
    obtain ⟨se2, b1, b2⟩ := rank_s2 hE hN hl a2 hs (by decide)
    refine ⟨se2, ?_, b2.len, fun q hq j => ?_, by have := b2.cnt; omega⟩
    · have : loop (f_soft_ranked.s2 A th (s : Int)) (se2, ((0 + 1 + 1 : Nat) : Int)) = some se2 := loop_done (by
        simp only [f_soft_ranked.s2, f_soft_ranked.s2c]
        rw [if_neg (by simp)])
      exact (loop_step a1).trans ((loop_step b1).trans this)
    · rw [b2.at_ q hq j]
      constructor
      · rintro ⟨⟨s0, k0, h1, h2, h3, h4⟩, h5⟩
        exact ⟨⟨s0, k0, h1, h2, by omega, h4⟩, h5⟩
      · rintro ⟨⟨s0, k0, h1, h2, h3, h4⟩, h5⟩
        exact ⟨⟨s0, k0, h1, h2, by omega, h4⟩, h5⟩
  have main : ∀ c s : Nat, s + c = N → ∀ se, I1 A th N s 0 se → ∃ se', loop (f_soft_ranked.s1 A th (N : Int)) (se, (s : Int)) = some se' ∧ I1 A th N N 0 se' := by
    intro c
    induction c with
    | zero =>
      intro s hs se h
      obtain rfl : s = N := by omega
      refine ⟨se, loop_done ?_, h⟩
      simp only [f_soft_ranked.s1, f_soft_ranked.s1c]
      rw [if_neg (by rw [decide_eq_true_eq]; omega)]
    | succ c ih =>
      intro s hs se h
      obtain ⟨se1, a1, a2⟩ := inner (show s < N by omega) h
      obtain ⟨se2, b1, b2⟩ := ih (s + 1) (by omega) se1 a2
      refine ⟨se2, ?_, b2⟩
      rw [loop_step (s' := (se1, ((s + 1 : Nat) : Int))) ?_, b1]
      simp only [f_soft_ranked.s1, f_soft_ranked.s1c]
      rw [if_pos (by rw [decide_eq_true_eq]; omega), if_pos (by omega), a1]
      simp only [Option.bind_some]
      rw [w64 (by omega) (by omega)]; rfl
  refine main N 0 (by omega) _ ⟨by simp, fun q hq j => ?_, ?_⟩
  · have : Fq (List.replicate (2 * N) ((none : Option Nat), (none : Option Nat))) q = none := by
      unfold Fq
      rw [gt_rep (by omega)]
      rcases (show q % 2 = 0 ∨ q % 2 = 1 by omega) with h | h <;> rw [h] <;> rfl
    rw [this]
    constructor
    · intro h; cases h
    · rintro ⟨⟨s0, k0, _, _, h3, _⟩, _⟩; omega
  · have : fs (occ (List.replicate (2 * N) ((none : Option Nat), (none : Option Nat)))) (4 * N) = fs (fun _ => 0) (4 * N) := fs_congr fun q hq => by
      unfold occ Fq
      rw [gt_rep (by omega)]
      rcases (show q % 2 = 0 ∨ q % 2 = 1 by omega) with h | h <;> rw [h] <;> rfl
    rw [this, fs_zero]; omega
theorem rank_write (hE : HE A th N) (hN : N ≤ 64) {se : List PW} (h : I1 A th N N 0 se) :
    ∃ A', loop (f_soft_ranked.s3 se) (A, 0, 0) = some A' ∧ A'.length = A.length ∧ Ext A A' ∧ ∀ q, q < 4 * N → ∀ j, Fq se q = some j → (nth A' j).2.2.2 = (fs (occ se) q : Nat) := by
  have hcnt := h.cnt
  have hlt : ∀ q, q < 4 * N → ∀ j, Fq se q = some j → j < A.length := by
    intro q hq j hj
    obtain ⟨⟨s0, k0, h1, h2, _, h4⟩, _⟩ := (h.at_ q hq j).1 hj
    exact (hE.nod s0 k0 j h1 h2 h4).1
  have step : ∀ (r k : Nat) (A' : List WayC), r < 2 * N → k < 2 → A'.length = A.length → Ext A A' → (∀ q', q' < 2 * r + k → ∀ j, Fq se q' = some j → (nth A' j).2.2.2 = (fs (occ se) q' : Nat)) →
      ∃ A'', f_soft_ranked.s4 se (r : Int) (A', ((fs (occ se) (2 * r + k) : Nat) : Int), (k : Int)) = some (.inl (A'', ((fs (occ se) (2 * r + k + 1) : Nat) : Int), ((k + 1 : Nat) : Int))) ∧ A''.length = A.length ∧ Ext A A'' ∧ (∀ q', q' < 2 * r + k + 1 → ∀ j, Fq se q' = some j → (nth A'' j).2.2.2 = (fs (occ se) q' : Nat)) := by
    intro r k A' hr hk hl hX hq
    have hmono := fs_mono (occ se) (show 2 * r + k ≤ 4 * N by omega)
    have hFq : gt [(gt se (r : Int)).1, (gt se (r : Int)).2] (k : Int) = Fq se (2 * r + k) := by
      unfold Fq
      rw [show (2 * r + k) / 2 = r by omega, show (2 * r + k) % 2 = k by omega]
    have hs1 : fs (occ se) (2 * r + k + 1) = fs (occ se) (2 * r + k) + occ se (2 * r + k) := rfl
    simp only [f_soft_ranked.s4, f_soft_ranked.s4c]
    rw [if_pos (by rw [decide_eq_true_eq]; omega), if_pos (by omega), hFq, w64 (x := (k : Int) + 1) (by omega) (by omega)]
    cases hj : Fq se (2 * r + k) with
    | none =>
      have ho : occ se (2 * r + k) = 0 := by unfold occ; rw [hj]; rfl
      rw [if_neg (by simp)]
      have e9 : fs (occ se) (2 * r + k + 1) = fs (occ se) (2 * r + k) := by omega
      refine ⟨A', by rw [e9]; rfl, hl, hX, fun q' hq' j hj' => ?_⟩
      · by_cases e : q' = 2 * r + k
        · subst e; rw [hj] at hj'; cases hj'
        · exact hq q' (by omega) j hj'
    | some j =>
      have ho : occ se (2 * r + k) = 1 := by unfold occ; rw [hj]; rfl
      have hjl := hlt _ (by omega) j hj
      rw [if_pos (by simp)]
      simp only [Option.bind_some]
      have e9 : IntKind.i64.wrap (((fs (occ se) (2 * r + k) : Nat) : Int) + 1) = ((fs (occ se) (2 * r + k + 1) : Nat) : Int) := by rw [w64 (by omega) (by omega)]; omega
      refine ⟨_, by rw [e9]; rfl, by rw [setR_len]; exact hl, hX.trans (Ext.setR (by omega) _), fun q' hq' j' hj' => ?_⟩
      rw [nth_setR (by omega)]
      by_cases e : j = j'
      · subst e
        rw [if_pos rfl]
        have e1 := ((h.at_ _ (by omega) j).1 hj).2
        have e2 := ((h.at_ _ (by omega) j).1 hj').2
        have : q' = 2 * r + k := by omega
        rw [this]
      · rw [if_neg e]
        refine hq q' ?_ j' hj'
        by_cases e2 : q' = 2 * r + k
        · subst e2; rw [hj] at hj'; exact absurd (Option.some.inj hj') e
        · omega
  have main : ∀ c r : Nat, r + c = 2 * N → ∀ A', A'.length = A.length → Ext A A' → (∀ q', q' < 2 * r → ∀ j, Fq se q' = some j → (nth A' j).2.2.2 = (fs (occ se) q' : Nat)) →
      ∃ A'', loop (f_soft_ranked.s3 se) (A', ((fs (occ se) (2 * r) : Nat) : Int), (r : Int)) = some A'' ∧ A''.length = A.length ∧ Ext A A'' ∧ (∀ q', q' < 4 * N → ∀ j, Fq se q' = some j → (nth A'' j).2.2.2 = (fs (occ se) q' : Nat)) := by
    intro c
    induction c with
    | zero =>
      intro r hr A' hl hX hq
      obtain rfl : r = 2 * N := by omega
      refine ⟨A', loop_done ?_, hl, hX, fun q' hq' => hq q' (by omega)⟩
      simp only [f_soft_ranked.s3, f_soft_ranked.s3c]
      rw [if_neg (by rw [decide_eq_true_eq, h.len]; omega)]
    | succ c ih =>
      intro r hr A' hl hX hq
      obtain ⟨A1, a1, a2, a3, a4⟩ := step r 0 A' (by omega) (by decide) hl hX hq
      obtain ⟨A2, b1, b2, b3, b4⟩ := step r 1 A1 (by omega) (by decide) a2 a3 a4
      obtain ⟨A3, c1, c2, c3, c4⟩ := ih (r + 1) (by omega) A2 b2 b3 (fun q' hq' => b4 q' (by omega))
      refine ⟨A3, ?_, c2, c3, c4⟩
      have inner : loop (f_soft_ranked.s4 se (r : Int)) (A', ((fs (occ se) (2 * r) : Nat) : Int), 0) = some (A2, ((fs (occ se) (2 * (r + 1)) : Nat) : Int)) := by
        have e0 : loop (f_soft_ranked.s4 se (r : Int)) (A2, ((fs (occ se) (2 * r + 1 + 1) : Nat) : Int), ((1 + 1 : Nat) : Int)) = some (A2, ((fs (occ se) (2 * (r + 1)) : Nat) : Int)) := loop_done (by
          simp only [f_soft_ranked.s4, f_soft_ranked.s4c]
          rw [if_neg (by simp)]; rfl)
        rw [← e0, ← loop_step b1]
        exact loop_step a1
      rw [loop_step (s' := (A2, ((fs (occ se) (2 * (r + 1)) : Nat) : Int), ((r + 1 : Nat) : Int))) ?_, c1]
      simp only [f_soft_ranked.s3, f_soft_ranked.s3c]
      rw [if_pos (by rw [decide_eq_true_eq, h.len]; omega), if_pos (by rw [h.len]; omega), inner]
      simp only [Option.bind_some]
      rw [w64 (by omega) (by omega)]; rfl
  exact main (2 * N) 0 (by omega) A rfl (Ext.refl A) (fun q' hq' => by omega)
theorem ranked_ok (hE : HE A th N) (hN : N ≤ 64) (hl : th.length = 64) : ∃ A', f_soft_ranked A th (N : Int) = some A' ∧ A'.length = A.length ∧ Ext A A' ∧
    (∀ s k j, s < N → k < 2 → slp th s k = some j → 0 ≤ (nth A' j).2.2.2 ∧ (nth A' j).2.2.2 < 2 * N) ∧
    (∀ s k j s' k' j', s < N → k < 2 → slp th s k = some j → s' < N → k' < 2 → slp th s' k' = some j' → ((nth A' j).2.2.2 < (nth A' j').2.2.2 ↔ kq A j < kq A j')) := by
  obtain ⟨se, a1, a2⟩ := rank_seats hE hN hl
  obtain ⟨A', b1, b2, b3, b4⟩ := rank_write hE hN a2
  have hcnt := a2.cnt
  have hf : ∀ s k j, s < N → k < 2 → slp th s k = some j → kq A j < 4 * N ∧ Fq se (kq A j) = some j := by
    intro s k j hs hk hj
    obtain ⟨n1, i0, n2, n3, n4⟩ := hE.nod s k j hs hk hj
    have hb := bn_lt (nth A j).1
    have hkq : kq A j = 2 * ((nth A i0).2.2.2).toNat + bn (nth A j).1 := by unfold kq; rw [n2]; rfl
    have hlt : kq A j < 4 * N := by omega
    exact ⟨hlt, (a2.at_ _ hlt j).2 ⟨⟨s, k, hs, hk, by omega, hj⟩, rfl⟩⟩
  have hocc : ∀ q j, Fq se q = some j → occ se q = 1 := fun q j h => by unfold occ; rw [h]; rfl
  refine ⟨A', ?_, b2, b3, fun s k j hs hk hj => ?_, fun s k j s' k' j' hs hk hj hs' hk' hj' => ?_⟩
  · unfold f_soft_ranked
    have e : IntKind.i64.wrap (2 * (N : Int)) = ((2 * N : Nat) : Int) := by rw [w64 (by omega) (by omega)]; omega
    rw [e, if_pos (by omega), Int.toNat_natCast, a1]
    simp only [Option.bind_some]
    rw [b1]; rfl
  · obtain ⟨f1, f2⟩ := hf s k j hs hk hj
    have h1 := b4 _ f1 j f2
    have h2 := fs_mono (occ se) (show kq A j + 1 ≤ 4 * N by omega)
    have h3 : fs (occ se) (kq A j + 1) = fs (occ se) (kq A j) + occ se (kq A j) := rfl
    rw [hocc _ _ f2] at h3
    omega
  · obtain ⟨f1, f2⟩ := hf s k j hs hk hj
    obtain ⟨g1, g2⟩ := hf s' k' j' hs' hk' hj'
    have h1 := b4 _ f1 j f2
    have h2 := b4 _ g1 j' g2
    have h3 : fs (occ se) (kq A j + 1) = fs (occ se) (kq A j) + occ se (kq A j) := rfl
    rw [hocc _ _ f2] at h3
    rw [h1, h2]
    constructor
    · intro hlt
      rcases Nat.lt_or_ge (kq A j) (kq A j') with h | h
      · exact h
      · have := fs_mono (occ se) h; omega
    · intro hlt
      have := fs_mono (occ se) (show kq A j + 1 ≤ kq A j' from hlt); omega
end
def HC (L : List ((Fl × Fl) × Bool)) (U V : Nat → Int) : Prop := ∀ i, i < L.length → ∀ one two, ∃ c, f_soft_cost one two (gt L (i : Int)).1 (gt L (i : Int)).2 = some c ∧ Val 12 c (costV one two (gt L (i : Int)) (U i) (V i)) ∧ (costV one two (gt L (i : Int)) (U i) (V i)).natAbs ≤ 33554432
theorem HC_of {L : List ((Fl × Fl) × Bool)} {U V : Nat → Int} (h : SR L U V) (ha : gal (mf L U V) L.length = true) : HC L U V := fun i hi one two => cost_ok one two (h i hi) (gal_at ha hi)
theorem pc_congr {n a b : Nat} {L : List ((Fl × Fl) × Bool)} {U V : Nat → Int} {l m : List Bool} : ∀ i, (∀ t, t < i → bitAt l t = bitAt m t) → pc n a b l L U V i = pc n a b m L U V i
  | 0, _ => rfl
  | i + 1, h => by simp only [pc]; rw [pc_congr i (fun t ht => h t (by omega)), st_congr i (fun t ht => h t (by omega)), h i (by omega)]
def cst (n a b : Nat) (L : List ((Fl × Fl) × Bool)) (U V : Nat → Int) (l : List Bool) : Int := pc n a b l L U V l.length
section
variable {n a b : Nat} {L : List ((Fl × Fl) × Bool)} {U V : Nat → Int}
theorem st_app (l : List Bool) (c : Bool) {i : Nat} (h : i ≤ l.length) : st n (l ++ [c]) i = st n l i := st_congr i fun t ht => bitAt_app c (by omega)
theorem st_snoc (l : List Bool) (c : Bool) : st n (l ++ [c]) (l.length + 1) = nx n (st n l l.length) c := by
  show nx n (st n (l ++ [c]) l.length) (bitAt (l ++ [c]) l.length) = _
  rw [st_app l c (Nat.le_refl _), bitAt_last]
theorem cst_snoc (l : List Bool) (c : Bool) : cst n a b L U V (l ++ [c]) = cst n a b L U V l + costV (ob n a (st n l l.length) c) (ob n b (st n l l.length) c) (gt L (l.length : Int)) (U l.length) (V l.length) := by
  unfold cst
  rw [List.length_append, List.length_singleton]
  simp only [pc]
  rw [st_app l c (Nat.le_refl _), bitAt_last, pc_congr l.length (fun t ht => bitAt_app c ht)]
theorem cst_le (h : HC L U V) : ∀ (i : Nat) (l : List Bool), l.length = i → i ≤ L.length → (cst n a b L U V l).natAbs ≤ i * 33554432
  | 0, l, h1, _ => by rw [List.length_eq_zero_iff.1 h1]; simp [cst, pc]
  | i + 1, l, h1, h2 => by
    obtain ⟨l', c, rfl, e⟩ := snoc_of h1
    have ih := cst_le h i l' e (by omega)
    obtain ⟨_, _, _, h3⟩ := h l'.length (by omega) (ob n a (st n l' l'.length) c) (ob n b (st n l' l'.length) c)
    rw [cst_snoc]
    omega
theorem Lt_snoc {l m : List Bool} (c : Bool) (hl : l.length = m.length) (hs : st n l l.length = st n m m.length) (h : Lt (cst n a b L U V) l m) : Lt (cst n a b L U V) (l ++ [c]) (m ++ [c]) := by
  unfold Lt at *
  rw [cst_snoc, cst_snoc, bv_snoc, bv_snoc, hs, hl]
  omega
def Adm (T last i : Nat) (l : List Bool) : Prop := l.length = i ∧ ∀ t, t < i → T ≤ t + last → bitAt l t = false
def Mem (n T last i s : Nat) (l : List Bool) : Prop := Adm T last i l ∧ st n l i = s
theorem Adm.snoc {T last i : Nat} {l : List Bool} (h : Adm T last i l) {c : Bool} (hc : c = true → ¬ T ≤ i + last) : Adm T last (i + 1) (l ++ [c]) := by
  refine ⟨by simp [h.1], fun t ht hT => ?_⟩
  by_cases e : t = i
  · subst e
    have := bitAt_last l c
    rw [h.1] at this
    rw [this]
    cases c with
    | false => rfl
    | true => exact absurd hT (hc rfl)
  · rw [bitAt_app c (by rw [h.1]; omega)]; exact h.2 t (by omega) hT
theorem Adm.of_snoc {T last i : Nat} {l : List Bool} {c : Bool} (h : Adm T last (i + 1) (l ++ [c])) : Adm T last i l ∧ (c = true → ¬ T ≤ i + last) := by
  have hl : l.length = i := by have := h.1; simp at this; exact this
  refine ⟨⟨hl, fun t ht hT => ?_⟩, fun hc hT => ?_⟩
  · rw [← bitAt_app c (by omega)]; exact h.2 t (by omega) hT
  · have := h.2 i (by omega) hT
    have e := bitAt_last l c
    rw [hl] at e
    rw [e, hc] at this; cases this
abbrev EE := Nat → Option (List Bool) × Option (List Bool)
def sle (e : EE) (s k : Nat) : Option (List Bool) := gt [(e s).1, (e s).2] (k : Int)
theorem RO.sl {R : Nat → List Bool → Prop} {t : List PW} {e : EE} {s k : Nat} (hk : k < 2) (h : RO R (gt t (s : Int)).1 (e s).1 ∧ RO R (gt t (s : Int)).2 (e s).2) : RO R (slp t s k) (sle e s k) := by
  rcases (show k = 0 ∨ k = 1 by omega) with rfl | rfl
  · exact h.1
  · exact h.2
theorem Best2.sl {C : List Bool → Int} {D : List Bool → Prop} {e : EE} {s k : Nat} {l : List Bool} (hk : k < 2) (h : Best2 C D (e s).1 (e s).2) (hl : sle e s k = some l) : D l := by
  rcases (show k = 0 ∨ k = 1 by omega) with rfl | rfl
  · have hl' : (e s).1 = some l := hl
    rw [hl'] at h; exact h.fst.1
  · have hl' : (e s).2 = some l := hl
    rw [hl'] at h; exact h.snd.1
theorem Best2.one {C : List Bool → Int} {D : List Bool → Prop} {e : EE} {s k k' : Nat} {l : List Bool} (hk : k < 2) (hk' : k' < 2) (h : Best2 C D (e s).1 (e s).2) (h1 : sle e s k = some l) (h2 : sle e s k' = some l) : k = k' := by
  have key : (e s).1 = some l → (e s).2 = some l → False := by
    intro a1 a2
    rw [a1, a2] at h
    exact h.2.2.1.irrefl
  rcases (show k = 0 ∨ k = 1 by omega) with rfl | rfl <;> rcases (show k' = 0 ∨ k' = 1 by omega) with rfl | rfl
  · rfl
  · exact (key h1 h2).elim
  · exact (key h2 h1).elim
  · rfl
structure Gen (n a b : Nat) (L : List ((Fl × Fl) × Bool)) (U V : Nat → Int) (last i : Nat) (A : List WayC) (t : List PW) (e : EE) : Prop where
  len : t.length = 64
  ro : ∀ s : Nat, s < 2 ^ (n - 1) → RO (Rep (cst n a b L U V) A) (gt t (s : Int)).1 (e s).1 ∧ RO (Rep (cst n a b L U V) A) (gt t (s : Int)).2 (e s).2
  best : ∀ s : Nat, s < 2 ^ (n - 1) → Best2 (cst n a b L U V) (Mem n L.length last i s) (e s).1 (e s).2
  rk0 : ∀ s k j, s < 2 ^ (n - 1) → k < 2 → slp t s k = some j → 0 ≤ (nth A j).2.2.2 ∧ (nth A j).2.2.2 < 2 * (2 ^ (n - 1) : Nat)
  rk : ∀ s k j l s' k' j' l', s < 2 ^ (n - 1) → k < 2 → slp t s k = some j → Rep (cst n a b L U V) A j l → s' < 2 ^ (n - 1) → k' < 2 → slp t s' k' = some j' → Rep (cst n a b L U V) A j' l' → ((nth A j).2.2.2 < (nth A j').2.2.2 ↔ bv l < bv l')
def Ent (n a b : Nat) (L : List ((Fl × Fl) × Bool)) (U V : Nat → Int) (A : List WayC) (t : List PW) (j : Nat) (l : List Bool) : Prop := ∃ s k, s < 2 ^ (n - 1) ∧ k < 2 ∧ slp t s k = some j ∧ Rep (cst n a b L U V) A j l
variable {last i : Nat} {A : List WayC} {t : List PW} {e : EE}
theorem Gen.ent (h : Gen n a b L U V last i A t e) {s k j : Nat} {l : List Bool} (hs : s < 2 ^ (n - 1)) (hk : k < 2) (hj : slp t s k = some j) (hr : Rep (cst n a b L U V) A j l) : sle e s k = some l ∧ Mem n L.length last i s l := by
  have r := RO.sl hk (h.ro s hs)
  rw [hj] at r
  obtain ⟨m, h1, h2⟩ := r.of_some
  have := h2.fun hr
  subst this
  exact ⟨h1, Best2.sl hk (h.best s hs) h1⟩
theorem Gen.ok1 (h : Gen n a b L U V last i A t e) : OK1 A (Ent n a b L U V A t) i := by
  refine ⟨fun j l ⟨s, k, hs, hk, hj, hr⟩ => (h.ent hs hk hj hr).2.1.1, fun j l j' l' ⟨s, k, hs, hk, hj, hr⟩ ⟨s', k', hs', hk', hj', hr'⟩ => ?_, fun j l j' l' ⟨s, k, hs, hk, hj, hr⟩ ⟨s', k', hs', hk', hj', hr'⟩ => h.rk s k j l s' k' j' l' hs hk hj hr hs' hk' hj' hr'⟩
  constructor
  · intro ej; subst ej; exact hr.fun hr'
  · intro el; subst el
    obtain ⟨a1, a2⟩ := h.ent hs hk hj hr
    obtain ⟨b1, b2⟩ := h.ent hs' hk' hj' hr'
    have es : s = s' := a2.2.symm.trans b2.2
    subst es
    have ek := Best2.one hk hk' (h.best s hs) a1 b1
    subst ek
    rw [hj] at hj'
    exact Option.some.inj hj'
structure Pt (n a b : Nat) (L : List ((Fl × Fl) × Bool)) (U V : Nat → Int) (i : Nat) (A0 A : List WayC) (P : Nat → List Bool → Prop) (th : List PW) (e : EE) (D : List Bool → Prop) : Prop where
  len : th.length = 64
  ro : ∀ s : Nat, s < 2 ^ (n - 1) → RO (NR (cst n a b L U V) A P) (gt th (s : Int)).1 (e s).1 ∧ RO (NR (cst n a b L U V) A P) (gt th (s : Int)).2 (e s).2
  best : ∀ s : Nat, s < 2 ^ (n - 1) → Best2 (cst n a b L U V) (fun m => D m ∧ st n m (i + 1) = s) (e s).1 (e s).2
  ok : OK1 A P i
  lt : ∀ j l, P j l → j < A.length
  ext : Ext A0 A
  rk0 : ∀ j l, P j l → 0 ≤ (nth A j).2.2.2 ∧ (nth A j).2.2.2 < 2 * (2 ^ (n - 1) : Nat)
  dl : ∀ m, D m → m.length = i + 1
variable {A0 : List WayC} {P : Nat → List Bool → Prop} {th : List PW} {D : List Bool → Prop}
theorem Pt.congr (h : Pt n a b L U V i A0 A P th e D) {D' : List Bool → Prop} (hD : ∀ m, D m ↔ D' m) : Pt n a b L U V i A0 A P th e D' :=
  ⟨h.len, h.ro, fun s hs => (h.best s hs).congr fun m => by rw [hD], h.ok, h.lt, h.ext, h.rk0, fun m hm => h.dl m ((hD m).2 hm)⟩
theorem Pt.add (hc : CodeOK n a b) (h : Pt n a b L U V i A0 A P th e D) {j : Nat} {l : List Bool} {c : Bool} (hj : P j l) (hnd : ¬ D (l ++ [c])) {x : Fl} (hx : Val 12 x (cst n a b L U V (l ++ [c]))) :
    ∃ th' e', f_soft_two_put (A ++ [(c, some j, x, 0)]) th ((nx n (st n l i) c : Nat) : Int) (some A.length) = some th' ∧ Pt n a b L U V i A0 (A ++ [(c, some j, x, 0)]) P th' e' (fun m => D m ∨ m = l ++ [c]) := by
  have hl := h.ok.len j l hj
  have hs0 := nx_lt hc (st_lt hc l i) c
  obtain ⟨q, p1, _, q1, q2, _⟩ := hc.pq
  generalize hs' : nx n (st n l i) c = s' at *
  have hsm : st n (l ++ [c]) (i + 1) = s' := by rw [← hl, st_snoc, hl]; exact hs'
  have hlen := h.len
  have nr : NR (cst n a b L U V) (A ++ [(c, some j, x, 0)]) P A.length (l ++ [c]) := ⟨j, l, c, rfl, by simp, by rw [nth_last], by rw [nth_last], by rw [nth_last]; exact hx, hj⟩
  have ok := h.ok.up (x := (c, some j, x, 0)) h.lt
  have b0 := h.best s' hs0
  have r0 := h.ro s' hs0
  obtain ⟨q1', q2', f1, f2, f3⟩ := put_ok (th := th) (s := s') (e1 := (e s').1) (e2 := (e s').2) ok (by rw [hlen]; omega) (r0.1.mono fun _ _ h => h.up) (r0.2.mono fun _ _ h => h.up)
    (fun h1 => by rw [h1] at b0; exact b0.none1.1) nr
  refine ⟨_, fun s => if s = s' then put2 (cst n a b L U V) (l ++ [c]) (e s').1 (e s').2 else e s, f1, by rw [List.length_set]; exact hlen, fun s hs => ?_, fun s hs => ?_, ok, fun j' l' hp => by simp; have := h.lt j' l' hp; omega, h.ext.trans (Ext.app _ _), fun j' l' hp => ?_, fun m hm => ?_⟩
  · by_cases es : s = s'
    · subst es
      rw [gt_setw (by rw [hlen]; omega)]
      simp only [if_true]
      exact ⟨f2, f3⟩
    · rw [gt_set_ne (fun h => es h.symm)]
      simp only [if_neg es]
      exact ⟨(h.ro s hs).1.mono fun _ _ h => h.up, (h.ro s hs).2.mono fun _ _ h => h.up⟩
  · by_cases es : s = s'
    · subst es
      simp only [if_true]
      have := Best2.put (m := l ++ [c]) (i := i + 1) (fun m hm => h.dl m hm.1) (by simp [hl]) (fun hm => hnd hm.1) b0
      refine this.congr fun m => ?_
      constructor
      · rintro (⟨h1, h2⟩ | h1)
        · exact ⟨.inl h1, h2⟩
        · exact ⟨.inr h1, by rw [h1]; exact hsm⟩
      · rintro ⟨h1 | h1, h2⟩
        · exact .inl ⟨h1, h2⟩
        · exact .inr h1
    · simp only [if_neg es]
      refine (h.best s hs).congr fun m => ?_
      constructor
      · rintro ⟨h1, h2⟩; exact ⟨.inl h1, h2⟩
      · rintro ⟨h1 | h1, h2⟩
        · exact ⟨h1, h2⟩
        · subst h1; exact absurd (h2.symm.trans hsm) es
  · rw [nth_app (h.lt j' l' hp)]; exact h.rk0 j' l' hp
  · rcases hm with hm | hm
    · exact h.dl m hm
    · rw [hm]; simp [hl]
def Cs (n : Nat) (T last i : Nat) (e : EE) (s k β : Nat) (m : List Bool) : Prop :=
  ∃ s0 k0 c0 l0, s0 < 2 ^ (n - 1) ∧ k0 < 2 ∧ sle e s0 k0 = some l0 ∧ m = l0 ++ [c0] ∧ (c0 = true → ¬ T ≤ i + last) ∧ (s0 < s ∨ s0 = s ∧ (k0 < k ∨ k0 = k ∧ bn c0 < β))
theorem Cs.next {T : Nat} {e0 : EE} {s k : Nat} (m : List Bool) : Cs n T last i e0 s k 2 m ↔ Cs n T last i e0 s (k + 1) 0 m := by
  constructor
  · rintro ⟨s0, k0, c0, l0, h1, h2, h3, h4, h5, h6⟩
    exact ⟨s0, k0, c0, l0, h1, h2, h3, h4, h5, by omega⟩
  · rintro ⟨s0, k0, c0, l0, h1, h2, h3, h4, h5, h6⟩
    have := bn_lt c0
    exact ⟨s0, k0, c0, l0, h1, h2, h3, h4, h5, by omega⟩
theorem Cs.row {T : Nat} {e0 : EE} {s : Nat} (m : List Bool) : Cs n T last i e0 s 2 0 m ↔ Cs n T last i e0 (s + 1) 0 0 m := by
  constructor
  · rintro ⟨s0, k0, c0, l0, h1, h2, h3, h4, h5, h6⟩
    exact ⟨s0, k0, c0, l0, h1, h2, h3, h4, h5, by omega⟩
  · rintro ⟨s0, k0, c0, l0, h1, h2, h3, h4, h5, h6⟩
    exact ⟨s0, k0, c0, l0, h1, h2, h3, h4, h5, by omega⟩
theorem Cs.skip {T : Nat} {e0 : EE} {s k : Nat} (h0 : sle e0 s k = none) (m : List Bool) : Cs n T last i e0 s k 0 m ↔ Cs n T last i e0 s (k + 1) 0 m := by
  constructor
  · rintro ⟨s0, k0, c0, l0, h1, h2, h3, h4, h5, h6⟩
    exact ⟨s0, k0, c0, l0, h1, h2, h3, h4, h5, by omega⟩
  · rintro ⟨s0, k0, c0, l0, h1, h2, h3, h4, h5, h6⟩
    refine ⟨s0, k0, c0, l0, h1, h2, h3, h4, h5, ?_⟩
    by_cases ee : s0 = s ∧ k0 = k
    · obtain ⟨rfl, rfl⟩ := ee; rw [h0] at h3; cases h3
    · omega
theorem Cs.bit {T : Nat} {e0 : EE} {s k β : Nat} {c : Bool} (hb : bn c = β) {l : List Bool} (hs : s < 2 ^ (n - 1)) (hk : k < 2) (h0 : sle e0 s k = some l) (hc : c = true → ¬ T ≤ i + last) (m : List Bool) : (Cs n T last i e0 s k β m ∨ m = l ++ [c]) ↔ Cs n T last i e0 s k (β + 1) m := by
  constructor
  · rintro (⟨s0, k0, c0, l0, h1, h2, h3, h4, h5, h6⟩ | h)
    · exact ⟨s0, k0, c0, l0, h1, h2, h3, h4, h5, by omega⟩
    · exact ⟨s, k, c, l, hs, hk, h0, h, hc, by omega⟩
  · rintro ⟨s0, k0, c0, l0, h1, h2, h3, h4, h5, h6⟩
    by_cases ee : s0 = s ∧ k0 = k ∧ bn c0 = β
    · obtain ⟨rfl, rfl, e3⟩ := ee
      rw [h0] at h3; cases h3
      have := bn_inj (e3.trans hb.symm)
      subst this
      exact .inr h4
    · exact .inl ⟨s0, k0, c0, l0, h1, h2, h3, h4, h5, by omega⟩
theorem Cs.nobit {T : Nat} {e0 : EE} {s k : Nat} (hc : T ≤ i + last) (m : List Bool) : Cs n T last i e0 s k 1 m ↔ Cs n T last i e0 s k 2 m := by
  constructor
  · rintro ⟨s0, k0, c0, l0, h1, h2, h3, h4, h5, h6⟩
    exact ⟨s0, k0, c0, l0, h1, h2, h3, h4, h5, by omega⟩
  · rintro ⟨s0, k0, c0, l0, h1, h2, h3, h4, h5, h6⟩
    have : bn c0 = 0 := by
      cases c0 with
      | false => rfl
      | true => exact absurd hc (h5 rfl)
    exact ⟨s0, k0, c0, l0, h1, h2, h3, h4, h5, by omega⟩
theorem Cs.fresh {e0 : EE} {A' : List WayC} {t' : List PW} (h : Gen n a b L U V last i A' t' e0) {s k β : Nat} {c : Bool} (hb : bn c = β) {l : List Bool} (hs : s < 2 ^ (n - 1)) (hk : k < 2) (h0 : sle e0 s k = some l) : ¬ Cs n L.length last i e0 s k β (l ++ [c]) := by
  rintro ⟨s0, k0, c0, l0, h1, h2, h3, h4, h5, h6⟩
  obtain ⟨rfl, h7⟩ := List.append_inj' h4 rfl
  cases h7
  have m1 := Best2.sl hk (h.best s hs) h0
  have m2 := Best2.sl h2 (h.best s0 h1) h3
  have : s0 = s := m2.2.symm.trans m1.2
  subst this
  have := Best2.one h2 hk (h.best s0 hs) h3 h0
  omega
end
section
variable {n a b : Nat} {L : List ((Fl × Fl) × Bool)} {U V : Nat → Int} {last i : Nat} {A0 A : List WayC} {t th : List PW} {e0 e : EE}
theorem run_bit (hc : CodeOK n a b) (hL : L.length ≤ 16384) (hco : HC L U V) (hi : i < L.length) (hla : last ≤ 16384) (G : Gen n a b L U V last i A0 t e0) {s k j : Nat} {l : List Bool} (hs : s < 2 ^ (n - 1)) (hk : k < 2) (hsl : slp t s k = some j) (hrep : Rep (cst n a b L U V) A0 j l) {c : Bool}
    (h : Pt n a b L U V i A0 A (Ent n a b L U V A0 t) th e (Cs n L.length last i e0 s k (bn c))) :
    ∃ A' th' e', f_soft_run.s4 (n : Int) (a : Int) (b : Int) L (last : Int) t (i : Int) (s : Int) (k : Int) (A, th, ((bn c : Nat) : Int)) = some (.inl (A', th', ((bn c + 1 : Nat) : Int))) ∧ Pt n a b L U V i A0 A' (Ent n a b L U V A0 t) th' e' (Cs n L.length last i e0 s k (bn c + 1)) := by
  obtain ⟨hse, hm⟩ := G.ent hs hk hsl hrep
  have hP : Ent n a b L U V A0 t j l := ⟨s, k, hs, hk, hsl, hrep⟩
  have hli := hm.1.1
  have hst := hm.2
  have hb := bn_lt c
  have hgc : gt [false, true] ((bn c : Nat) : Int) = c := by cases c <;> rfl
  have hw : IntKind.i64.wrap (((bn c : Nat) : Int) + 1) = ((bn c + 1 : Nat) : Int) := by rw [w64 (by omega) (by omega)]; rfl
  have hw2 : IntKind.i64.wrap ((L.length : Int) - (last : Int)) = (L.length : Int) - last := w64 (by omega) (by omega)
  simp only [f_soft_run.s4, f_soft_run.s4c]
  rw [if_pos (by simp only [List.length_cons, List.length_nil, decide_eq_true_eq]; omega), if_pos (by simp only [List.length_cons, List.length_nil]; omega), hgc, hw, hw2]
  by_cases hskip : c = true ∧ L.length ≤ i + last
  · rw [if_pos (by simp only [hskip.1, Bool.true_and, decide_eq_true_eq]; omega)]
    refine ⟨A, th, e, rfl, ?_⟩
    have : bn c = 1 := by rw [hskip.1]; rfl
    rw [this] at h ⊢
    exact h.congr fun m => Cs.nobit hskip.2 m
  · rw [if_neg (by simp only [Bool.and_eq_true, decide_eq_true_eq]; exact fun h => hskip ⟨h.1, by have := h.2; omega⟩)]
    have hall : c = true → ¬ L.length ≤ i + last := fun h1 h2 => hskip ⟨h1, h2⟩
    have hn := nx_lt hc hs c
    obtain ⟨q, p1, _, q1, q2, _⟩ := hc.pq
    rw [Step_ok hc hs c]
    simp only [Option.bind_some]
    rw [if_pos (by omega), show gt [(gt t (s : Int)).1, (gt t (s : Int)).2] (k : Int) = slp t s k from rfl, hsl]
    simp only [Option.bind_some]
    obtain ⟨x, x1, x2, x3⟩ := hco i hi (ob n a s c) (ob n b s c)
    rw [x1]
    simp only [Option.bind_some]
    have hv : Val 12 (nth A j).2.2.1 (cst n a b L U V l) := by
      rw [(h.ext.2 j hrep.lt).2.2]; exact hrep.val
    have hcl := cst_le (n := n) (a := a) (b := b) hco i l hli (by omega)
    have hsn : cst n a b L U V (l ++ [c]) = cst n a b L U V l + costV (ob n a s c) (ob n b s c) (gt L (i : Int)) (U i) (V i) := by
      rw [cst_snoc, hli, hst]
    have hv2 : Val 12 (fadd (nth A j).2.2.1 x) (cst n a b L U V (l ++ [c])) := by
      rw [hsn]; exact fadd_val hv x2 (by decide) (by omega)
    obtain ⟨th', e', y1, y2⟩ := Pt.add hc h hP (Cs.fresh G rfl hs hk hse) hv2
    rw [hst] at y1
    rw [y1]
    refine ⟨_, th', e', rfl, ?_⟩
    exact y2.congr fun m => Cs.bit rfl hs hk hse hall m
theorem run_slot (hc : CodeOK n a b) (hL : L.length ≤ 16384) (hco : HC L U V) (hi : i < L.length) (hla : last ≤ 16384) (G : Gen n a b L U V last i A0 t e0) {s k : Nat} (hs : s < 2 ^ (n - 1)) (hk : k < 2)
    (h : Pt n a b L U V i A0 A (Ent n a b L U V A0 t) th e (Cs n L.length last i e0 s k 0)) :
    ∃ A' th' e', f_soft_run.s3 (n : Int) (a : Int) (b : Int) L (last : Int) t (i : Int) (s : Int) (A, th, (k : Int)) = some (.inl (A', th', ((k + 1 : Nat) : Int))) ∧ Pt n a b L U V i A0 A' (Ent n a b L U V A0 t) th' e' (Cs n L.length last i e0 s (k + 1) 0) := by
  have hw : IntKind.i64.wrap ((k : Int) + 1) = ((k + 1 : Nat) : Int) := by rw [w64 (by omega) (by omega)]; rfl
  simp only [f_soft_run.s3, f_soft_run.s3c]
  rw [if_pos (by rw [decide_eq_true_eq]; omega), if_pos (by omega), show gt [(gt t (s : Int)).1, (gt t (s : Int)).2] (k : Int) = slp t s k from rfl, hw]
  have ro := RO.sl hk (G.ro s hs)
  cases hsl : slp t s k with
  | none =>
    simp only [Option.isNone_none, if_true]
    rw [hsl] at ro
    have hse : sle e0 s k = none := by
      cases hx : sle e0 s k with
      | none => rfl
      | some l => rw [hx] at ro; exact ro.elim
    exact ⟨A, th, e, rfl, h.congr fun m => Cs.skip hse m⟩
  | some j =>
    simp only [Option.isNone_some, Bool.false_eq_true, if_false]
    rw [hsl] at ro
    obtain ⟨l, hse, hrep⟩ := ro.of_some
    obtain ⟨A1, th1, e1, a1, a2⟩ := run_bit hc hL hco hi hla G hs hk hsl hrep (c := false) h
    obtain ⟨A2, th2, e2, b1, b2⟩ := run_bit hc hL hco hi hla G hs hk hsl hrep (c := true) a2
    have e9 : loop (f_soft_run.s4 (n : Int) (a : Int) (b : Int) L (last : Int) t (i : Int) (s : Int) (k : Int)) (A2, th2, ((bn true + 1 : Nat) : Int)) = some (A2, th2) := loop_done (by
      simp only [f_soft_run.s4, f_soft_run.s4c]
      rw [if_neg (by simp [bn])])
    have e10 : loop (f_soft_run.s4 (n : Int) (a : Int) (b : Int) L (last : Int) t (i : Int) (s : Int) (k : Int)) (A, th, 0) = some (A2, th2) := (loop_step a1).trans ((loop_step b1).trans e9)
    rw [e10]
    simp only [Option.bind_some]
    exact ⟨A2, th2, e2, rfl, b2.congr fun m => Cs.next m⟩
theorem run_state (hc : CodeOK n a b) (hL : L.length ≤ 16384) (hco : HC L U V) (hi : i < L.length) (hla : last ≤ 16384) (G : Gen n a b L U V last i A0 t e0) {s : Nat} (hs : s < 2 ^ (n - 1))
    (h : Pt n a b L U V i A0 A (Ent n a b L U V A0 t) th e (Cs n L.length last i e0 s 0 0)) :
    ∃ A' th' e', f_soft_run.s2 (n : Int) (a : Int) (b : Int) L (last : Int) (((2 ^ (n - 1) : Nat) : Int), 0) t (i : Int) (A, th, (s : Int)) = some (.inl (A', th', ((s + 1 : Nat) : Int))) ∧ Pt n a b L U V i A0 A' (Ent n a b L U V A0 t) th' e' (Cs n L.length last i e0 (s + 1) 0 0) := by
  obtain ⟨q, p1, _, q1, q2, _⟩ := hc.pq
  obtain ⟨A1, th1, e1, a1, a2⟩ := run_slot hc hL hco hi hla G hs (k := 0) (by decide) h
  obtain ⟨A2, th2, e2, b1, b2⟩ := run_slot hc hL hco hi hla G hs (k := 1) (by decide) a2
  have e9 : loop (f_soft_run.s3 (n : Int) (a : Int) (b : Int) L (last : Int) t (i : Int) (s : Int)) (A2, th2, ((1 + 1 : Nat) : Int)) = some (A2, th2) := loop_done (by
    simp only [f_soft_run.s3, f_soft_run.s3c]
    rw [if_neg (by simp)])
  have e10 : loop (f_soft_run.s3 (n : Int) (a : Int) (b : Int) L (last : Int) t (i : Int) (s : Int)) (A, th, 0) = some (A2, th2) := (loop_step a1).trans ((loop_step b1).trans e9)
  simp only [f_soft_run.s2, f_soft_run.s2c]
  rw [if_pos (by rw [decide_eq_true_eq]; omega), if_pos (by omega), e10]
  simp only [Option.bind_some]
  rw [w64 (by omega) (by omega)]
  exact ⟨A2, th2, e2, rfl, b2.congr fun m => Cs.row m⟩
theorem Gen.start_pt (hc : CodeOK n a b) (G : Gen n a b L U V last i A t e0) : Pt n a b L U V i A A (Ent n a b L U V A t) (List.replicate 64 ((none : Option Nat), (none : Option Nat))) (fun _ => (none, none)) (Cs n L.length last i e0 0 0 0) := by
  obtain ⟨q, p1, _, q1, q2, _⟩ := hc.pq
  have no : ∀ m, ¬ Cs n L.length last i e0 0 0 0 m := by
    rintro m ⟨s0, k0, c0, l0, _, _, _, _, _, h6⟩; omega
  refine ⟨by simp, fun s hs => ?_, fun s hs => fun m hm => no m hm.1, G.ok1, fun j l hp => ?_, Ext.refl A, fun j l hp => ?_, fun m hm => absurd hm (no m)⟩
  · rw [gt_rep (by omega)]; exact ⟨trivial, trivial⟩
  · obtain ⟨s, k, hs, hk, hj, hr⟩ := hp; exact hr.lt
  · obtain ⟨s, k, hs, hk, hj, hr⟩ := hp; exact G.rk0 s k j hs hk hj
theorem Pt.he (hc : CodeOK n a b) {P : Nat → List Bool → Prop} {D : List Bool → Prop} (h : Pt n a b L U V i A0 A P th e D) :
    HE A th (2 ^ (n - 1)) ∧ ∀ s k j, s < 2 ^ (n - 1) → k < 2 → slp th s k = some j → ∃ m, sle e s k = some m ∧ NR (cst n a b L U V) A P j m ∧ D m ∧ st n m (i + 1) = s := by
  have key : ∀ s k j, s < 2 ^ (n - 1) → k < 2 → slp th s k = some j → ∃ m, sle e s k = some m ∧ NR (cst n a b L U V) A P j m ∧ D m ∧ st n m (i + 1) = s := by
    intro s k j hs hk hj
    have ro := RO.sl hk (h.ro s hs)
    rw [hj] at ro
    obtain ⟨m, h1, h2⟩ := ro.of_some
    have := Best2.sl hk (h.best s hs) h1
    exact ⟨m, h1, h2, this.1, this.2⟩
  refine ⟨⟨fun s k j hs hk hj => ?_, fun s k j s' k' j' hs hk hj hs' hk' hj' hq => ?_⟩, key⟩
  · obtain ⟨m, _, ⟨i0, l, c, _, h3, _, h5, _, h7⟩, _⟩ := key s k j hs hk hj
    exact ⟨h3, i0, h5, h.rk0 i0 l h7⟩
  · obtain ⟨m, a1, ⟨i0, l, c, rfl, a3, a4, a5, a6, a7⟩, a8, a9⟩ := key s k j hs hk hj
    obtain ⟨m', b1, ⟨i1, l', c', rfl, b3, b4, b5, b6, b7⟩, b8, b9⟩ := key s' k' j' hs' hk' hj'
    have hkq : kq A j = 2 * ((nth A i0).2.2.2).toNat + bn c := by unfold kq; rw [a5, a4]; rfl
    have hkq' : kq A j' = 2 * ((nth A i1).2.2.2).toNat + bn c' := by unfold kq; rw [b5, b4]; rfl
    have h1 := bn_lt c; have h2 := bn_lt c'
    have r1 := h.rk0 i0 l a7; have r2 := h.rk0 i1 l' b7
    have k1 := h.ok.rk _ _ _ _ a7 b7
    have k2 := h.ok.rk _ _ _ _ b7 a7
    have hbv : bv l = bv l' := by omega
    have hl := bv_inj _ l l' rfl ((h.ok.len _ _ b7).trans (h.ok.len _ _ a7).symm) hbv
    have hcc := bn_inj (show bn c = bn c' by omega)
    subst hl hcc
    have : s = s' := a9.symm.trans b9
    subst this
    have := Best2.one hk hk' (h.best s hs) a1 b1
    subst this
    rw [hj] at hj'
    exact Option.some.inj hj'
theorem run_gen (hc : CodeOK n a b) (hL : L.length ≤ 16384) (hco : HC L U V) (hi : i < L.length) (hla : last ≤ 16384) (G : Gen n a b L U V last i A t e0) :
    ∃ A' th' e', f_soft_run.s1 (n : Int) (a : Int) (b : Int) L (last : Int) (((2 ^ (n - 1) : Nat) : Int), 0) (A, t, (i : Int)) = some (.inl (A', th', ((i + 1 : Nat) : Int))) ∧ Gen n a b L U V last (i + 1) A' th' e' := by
  obtain ⟨q, p1, _, q1, q2, _⟩ := hc.pq
  have main : ∀ c s : Nat, s + c = 2 ^ (n - 1) → ∀ A1 th1 e1, Pt n a b L U V i A A1 (Ent n a b L U V A t) th1 e1 (Cs n L.length last i e0 s 0 0) →
      ∃ A' th' e', loop (f_soft_run.s2 (n : Int) (a : Int) (b : Int) L (last : Int) (((2 ^ (n - 1) : Nat) : Int), 0) t (i : Int)) (A1, th1, (s : Int)) = some (A', th') ∧ Pt n a b L U V i A A' (Ent n a b L U V A t) th' e' (Cs n L.length last i e0 (2 ^ (n - 1)) 0 0) := by
    intro c
    induction c with
    | zero =>
      intro s hs A1 th1 e1 h
      have : s = 2 ^ (n - 1) := by omega
      subst this
      refine ⟨A1, th1, e1, loop_done ?_, h⟩
      simp only [f_soft_run.s2, f_soft_run.s2c]
      rw [if_neg (by rw [decide_eq_true_eq]; omega)]
    | succ c ih =>
      intro s hs A1 th1 e1 h
      obtain ⟨A2, th2, e2, a1, a2⟩ := run_state hc hL hco hi hla G (by omega) h
      obtain ⟨A3, th3, e3, b1, b2⟩ := ih (s + 1) (by omega) A2 th2 e2 a2
      exact ⟨A3, th3, e3, (loop_step a1).trans b1, b2⟩
  obtain ⟨A1, th1, e1, a1, a2⟩ := main (2 ^ (n - 1)) 0 (by omega) A _ _ (G.start_pt hc)
  obtain ⟨he, hen⟩ := a2.he hc
  obtain ⟨A2, b1, b2, b3, b4, b5⟩ := ranked_ok he (by omega) a2.len
  have hrep : ∀ j m, NR (cst n a b L U V) A1 (Ent n a b L U V A t) j m → Rep (cst n a b L U V) A2 j m := by
    rintro j m ⟨i0, l, c, rfl, h2, h3, h4, h5, ⟨s, k, hs, hk, hj, hr⟩⟩
    obtain ⟨x1, x2, x3⟩ := b3.2 j h2
    exact .step (by omega) (hr.ext (a2.ext.trans b3)) (x1.trans h3) (x2.trans h4) (by rw [x3]; exact h5)
  refine ⟨A2, th1, e1, ?_, a2.len, fun s hs => ⟨(a2.ro s hs).1.mono hrep, (a2.ro s hs).2.mono hrep⟩, fun s hs => ?_, fun s k j hs hk hj => ?_, fun s k j l s' k' j' l' hs hk hj hr hs' hk' hj' hr' => ?_⟩
  · simp only [f_soft_run.s1, f_soft_run.s1c]
    rw [if_pos (by rw [decide_eq_true_eq]; omega), if_pos (by omega)]
    have a1' : loop (f_soft_run.s2 (n : Int) (a : Int) (b : Int) L (last : Int) (((2 ^ (n - 1) : Nat) : Int), 0) t (i : Int)) (A, List.replicate 64 ((none : Option Nat), (none : Option Nat)), 0) = some (A1, th1) := a1
    rw [a1']
    simp only [Option.bind_some]
    rw [b1]
    simp only [Option.bind_some]
    rw [w64 (by omega) (by omega)]; rfl
  · -- what was not put is worse than two that were
    refine (a2.best s hs).up (fun m hm => ?_) (fun m hm => ?_)
    · obtain ⟨⟨s0, k0, c0, l0, h1, h2, h3, h4, h5, _⟩, h7⟩ := hm
      have hM := Best2.sl h2 (G.best s0 h1) h3
      subst h4
      exact ⟨hM.1.snoc h5, h7⟩
    · obtain ⟨l, c, rfl, hl⟩ := snoc_of hm.1.1
      obtain ⟨hA, hall⟩ := hm.1.of_snoc
      have hs0 := st_lt hc l i
      have hput : ∀ {k : Nat} {l1 : List Bool}, k < 2 → sle e0 (st n l i) k = some l1 → Cs n L.length last i e0 (2 ^ (n - 1)) 0 0 (l1 ++ [c]) ∧ st n (l1 ++ [c]) (i + 1) = s ∧ l1.length = l.length ∧ st n l1 l1.length = st n l l.length := by
        intro k l1 hk h1
        have hM := Best2.sl hk (G.best _ hs0) h1
        have e1 : l1.length = i := hM.1.1
        refine ⟨⟨_, k, c, l1, hs0, hk, h1, rfl, hall, .inl hs0⟩, ?_, by omega, by rw [e1, hl]; exact hM.2⟩
        have q1 := st_snoc (n := n) l1 c
        have q2 := st_snoc (n := n) l c
        rw [e1] at q1; rw [hl] at q2
        rw [q1, hM.2, ← q2]; exact hm.2
      have B := G.best _ hs0
      have hMl : Mem n L.length last i (st n l i) l := ⟨hA, rfl⟩
      cases h1 : (e0 (st n l i)).1 with
      | none => rw [h1] at B; exact absurd hMl (B.none1.2 l)
      | some l1 =>
        obtain ⟨c1, c2, c3, c4⟩ := hput (k := 0) (by decide) h1
        cases h2 : (e0 (st n l i)).2 with
        | none =>
          rw [h1, h2] at B
          have : l = l1 := B.2 l hMl
          subst this
          exact .inl ⟨c1, c2⟩
        | some l2 =>
          obtain ⟨d1, d2, d3, d4⟩ := hput (k := 1) (by decide) h2
          rw [h1, h2] at B
          rcases B.2.2.2 l hMl with h | h | h
          · subst h; exact .inl ⟨c1, c2⟩
          · subst h; exact .inl ⟨d1, d2⟩
          · refine .inr ⟨_, _, ⟨c1, c2⟩, ⟨d1, d2⟩, fun h9 => ?_, Lt_snoc c c3 c4 (B.2.2.1.trans h), Lt_snoc c d3 d4 h⟩
            have := List.append_cancel_right h9
            rw [this] at B
            exact B.2.2.1.irrefl
  · obtain ⟨x1, x2⟩ := b4 s k j hs hk hj
    exact ⟨x1, by omega⟩
  · rw [b5 s k j s' k' j' hs hk hj hs' hk' hj']
    obtain ⟨m, _, hn1, _⟩ := hen s k j hs hk hj
    obtain ⟨m', _, hn2, _⟩ := hen s' k' j' hs' hk' hj'
    have e1 := (hrep _ _ hn1).fun hr
    have e2 := (hrep _ _ hn2).fun hr'
    subst e1 e2
    obtain ⟨i0, l, c, rfl, a3, a4, a5, a6, a7⟩ := hn1
    obtain ⟨i1, l', c', rfl, b3', b4', b5', b6, b7⟩ := hn2
    have hkq : kq A1 j = 2 * ((nth A1 i0).2.2.2).toNat + bn c := by unfold kq; rw [a5, a4]; rfl
    have hkq' : kq A1 j' = 2 * ((nth A1 i1).2.2.2).toNat + bn c' := by unfold kq; rw [b5', b4']; rfl
    have h1 := bn_lt c; have h2 := bn_lt c'
    have r1 := a2.rk0 i0 l a7; have r2 := a2.rk0 i1 l' b7
    have k1 := a2.ok.rk _ _ _ _ a7 b7
    have k2 := a2.ok.rk _ _ _ _ b7 a7
    rw [bv_snoc, bv_snoc, hkq, hkq']
    omega
theorem gen_start (hc : CodeOK n a b) : Gen n a b L U V last 0 (([] : List WayC) ++ [(false, none, Fl.bits 0, 0)]) ((List.replicate 64 ((none : Option Nat), (none : Option Nat))).set 0 (some 0, none)) (fun s => if s = 0 then (some [], none) else (none, none)) := by
  obtain ⟨q, p1, _, q1, q2, _⟩ := hc.pq
  have hn : nth (([] : List WayC) ++ [(false, none, Fl.bits 0, 0)]) 0 = (false, none, Fl.bits 0, 0) := rfl
  have hsl : ∀ s k j, s < 2 ^ (n - 1) → k < 2 → slp ((List.replicate 64 ((none : Option Nat), (none : Option Nat))).set 0 (some 0, none)) s k = some j → j = 0 := by
    intro s k j hs hk hj
    unfold slp at hj
    by_cases h0 : s = 0
    · subst h0
      rw [gt_setw (by simp)] at hj
      rcases (show k = 0 ∨ k = 1 by omega) with rfl | rfl
      · exact (Option.some.inj hj).symm
      · cases hj
    · rw [gt_set_ne (fun h => h0 h.symm), gt_rep (by omega)] at hj
      rcases (show k = 0 ∨ k = 1 by omega) with rfl | rfl <;> cases hj
  have hroot : Rep (cst n a b L U V) (([] : List WayC) ++ [(false, none, Fl.bits 0, 0)]) 0 [] := .root (by simp) (by rw [hn]) (by rw [hn]; exact zero_val 12)
  refine ⟨by simp, fun s hs => ?_, fun s hs => ?_, fun s k j hs hk hj => ?_, fun s k j l s' k' j' l' hs hk hj hr hs' hk' hj' hr' => ?_⟩
  · by_cases h0 : s = 0
    · subst h0
      rw [gt_setw (by simp)]
      simp only [if_true]
      exact ⟨hroot, trivial⟩
    · rw [gt_set_ne (fun h => h0 h.symm), gt_rep (by omega)]
      simp only [if_neg h0]
      exact ⟨trivial, trivial⟩
  · by_cases h0 : s = 0
    · subst h0
      simp only [if_true]
      exact ⟨⟨⟨rfl, fun t ht => by omega⟩, rfl⟩, fun l hl => List.length_eq_zero_iff.1 hl.1.1⟩
    · simp only [if_neg h0]
      intro l hl
      exact h0 hl.2.symm
  · rw [hsl s k j hs hk hj, hn]
    simp only
    omega
  · have e1 := hsl s k j hs hk hj
    have e2 := hsl s' k' j' hs' hk' hj'
    subst e1 e2
    rw [← hroot.fun hr, ← hroot.fun hr']
    omega
theorem run_ok (hc : CodeOK n a b) (hL : L.length ≤ 16384) (hco : HC L U V) (hla : last ≤ 16384) : ∃ t A e, f_soft_run (n : Int) (a : Int) (b : Int) L (last : Int) = some (t, A) ∧ Gen n a b L U V last L.length A t e := by
  have main : ∀ c i : Nat, i + c = L.length → ∀ A t e, Gen n a b L U V last i A t e →
      ∃ A' t' e', loop (f_soft_run.s1 (n : Int) (a : Int) (b : Int) L (last : Int) (((2 ^ (n - 1) : Nat) : Int), 0)) (A, t, (i : Int)) = some (A', t') ∧ Gen n a b L U V last L.length A' t' e' := by
    intro c
    induction c with
    | zero =>
      intro i hi A t e h
      have : i = L.length := by omega
      subst this
      refine ⟨A, t, e, loop_done ?_, h⟩
      simp only [f_soft_run.s1, f_soft_run.s1c]
      rw [if_neg (by rw [decide_eq_true_eq]; omega)]
    | succ c ih =>
      intro i hi A t e h
      obtain ⟨A1, t1, e1, a1, a2⟩ := run_gen hc hL hco (by omega) hla h
      obtain ⟨A2, t2, e2, b1, b2⟩ := ih (i + 1) (by omega) A1 t1 e1 a2
      exact ⟨A2, t2, e2, (loop_step a1).trans b1, b2⟩
  obtain ⟨A, t, e, a1, a2⟩ := main L.length 0 (by omega) _ _ _ (gen_start (n := n) (a := a) (b := b) (L := L) (U := U) (V := V) (last := last) hc)
  refine ⟨t, A, e, ?_, a2⟩
  unfold f_soft_run
  rw [states_ok hc]
  simp only [Option.bind_some]
  have e9 : (List.replicate 64 ((none : Option Nat), (none : Option Nat))).set ((0 : Int)).toNat ((some (([] : List WayC)).length), (gt (List.replicate 64 ((none : Option Nat), (none : Option Nat))) (0 : Int)).2) = (List.replicate 64 ((none : Option Nat), (none : Option Nat))).set 0 (some 0, none) := rfl
  rw [e9]
  have a1' : loop (f_soft_run.s1 (n : Int) (a : Int) (b : Int) L (last : Int) (((2 ^ (n - 1) : Nat) : Int), 0)) (([] : List WayC) ++ [(false, none, Fl.bits 0, 0)], (List.replicate 64 ((none : Option Nat), (none : Option Nat))).set 0 (some 0, none), 0) = some (A, t) := a1
  rw [a1']; rfl
end
theorem bnd_eq {α β : Type} {o : Option α} {x : α} {f : α → Option β} {r : Option β} (h : o = some x) (h2 : f x = r) : o.bind f = r := by subst h; exact h2
section
variable {n a b : Nat} {L : List ((Fl × Fl) × Bool)} {U V : Nat → Int}
theorem scheck_ok (hc : CodeOK n a b) (h : SR L U V) (hL : L.length ≤ 16384) (ha : gal (mf L U V) L.length = true) (least : Int) : f_soft_check (n : Int) (a : Int) (b : Int) L least = some (if (L.length : Int) < least then 1 else 0) := by
  unfold f_soft_check
  rw [check_ok hc]
  simp only [Option.bind_some]
  by_cases hl : (L.length : Int) < least
  · rw [if_pos (by simp [hl]), if_pos hl]
  · rw [if_neg (by simp only [bne_self_eq_false, Bool.false_or, Bool.or_eq_true, decide_eq_true_eq]; omega), if_neg hl]
    obtain ⟨x, hx⟩ := grid_c h hL
    rw [hx, if_pos ha]; rfl
theorem dec_loop {C : List Bool → Int} {A : List WayC} {t : List PW} {j : Nat} {l : List Bool} (h : Rep C A j l) : ∀ bits : List Bool, l.length ≤ bits.length → l.length ≤ 100000 → loop (f_soft_Decode.s1 (t, A)) (bits, (l.length : Int) - 1, some j) = some (l ++ bits.drop l.length) := by
  induction h with
  | root h h1 h2 =>
    intro bits hb _
    refine loop_done ?_
    simp only [f_soft_Decode.s1, f_soft_Decode.s1c]
    rw [if_neg (by simp)]; rfl
  | @step j i l c hj h h1 h2 h3 ih =>
    intro bits hb hl
    simp only [List.length_append, List.length_singleton] at hb hl
    have hs : f_soft_Decode.s1 (t, A) (bits, ((l ++ [c]).length : Int) - 1, some j) = some (.inl (bits.set l.length c, (l.length : Int) - 1, some i)) := by
      simp only [f_soft_Decode.s1, f_soft_Decode.s1c, List.length_append, List.length_singleton]
      have e : (((l.length + 1 : Nat) : Int) - 1) = (l.length : Int) := by omega
      rw [e, if_pos (by rw [decide_eq_true_eq]; omega)]
      simp only [Option.bind_some]
      rw [if_pos (by omega), Int.toNat_natCast, h1, h2, w64 (by omega) (by omega)]
    rw [loop_step hs, ih (bits.set l.length c) (by rw [List.length_set]; omega) (by omega)]
    congr 1
    rw [List.append_assoc]
    congr 1
    refine List.ext_getElem (by simp; omega) fun k k1 k2 => ?_
    rw [List.getElem_drop, List.getElem_set]
    cases k with
    | zero => simp
    | succ k =>
      rw [if_neg (by omega)]
      simp only [List.singleton_append, List.getElem_cons_succ, List.getElem_drop, List.length_append, List.length_singleton]
      congr 1; omega
def mc (n a b : Nat) (L : List ((Fl × Fl) × Bool)) (U V : Nat → Int) (m : List Bool) : Int := pc n a b m L U V L.length
def ext (n : Nat) (m : List Bool) : List Bool := m ++ List.replicate (n - 1) false
theorem ext_bit (m : List Bool) (t : Nat) : bitAt (ext n m) t = bitAt m t := by
  unfold ext
  by_cases h : t < m.length
  · unfold bitAt
    rw [if_pos h, if_pos (by simp; omega), gt_nat h, gt_nat (by simp; omega), List.getElem_append_left h]
  · rw [bitAt_big (l := m) (by omega)]
    by_cases h2 : t < (m ++ List.replicate (n - 1) false).length
    · rw [bitAt_lt h2, gt_nat h2, List.getElem_append_right (by omega)]; simp
    · rw [bitAt_big (by omega)]
theorem ext_len (m : List Bool) : (ext n m).length = m.length + (n - 1) := by simp [ext]
theorem ext_cst {m : List Bool} (h : m.length + (n - 1) = L.length) : cst n a b L U V (ext n m) = mc n a b L U V m := by
  unfold cst mc
  rw [ext_len, h]
  exact pc_congr _ fun t _ => ext_bit m t
theorem ext_mem (hc : CodeOK n a b) {m : List Bool} {T : Nat} (h : m.length + (n - 1) = T) : Mem n T (n - 1) T 0 (ext n m) := by
  refine ⟨⟨by rw [ext_len]; exact h, fun t ht hT => ?_⟩, ?_⟩
  · rw [ext_bit, bitAt_big (by omega)]
  · rw [st_congr T fun t _ => ext_bit (n := n) m t, ← h]
    exact st_end hc m
theorem mem_ext {T : Nat} (hT : n - 1 ≤ T) {l : List Bool} (h : Mem n T (n - 1) T 0 l) : l = ext n (l.take (T - (n - 1))) ∧ (l.take (T - (n - 1))).length + (n - 1) = T := by
  have hl := h.1.1
  have h2 : (l.take (T - (n - 1))).length = T - (n - 1) := by rw [List.length_take]; omega
  refine ⟨?_, by omega⟩
  show l = l.take (T - (n - 1)) ++ List.replicate (n - 1) false
  refine List.ext_getElem (by rw [List.length_append, List.length_replicate]; omega) fun t t1 t2 => ?_
  by_cases ht : t < T - (n - 1)
  · rw [List.getElem_append_left (by omega)]; simp
  · have e1 := h.1.2 t (by omega) (by omega)
    rw [bitAt_lt t1, gt_nat t1] at e1
    rw [e1, List.getElem_append_right (by omega)]; simp
theorem ext_bv (m : List Bool) : bv (ext n m) = bv m * 2 ^ (n - 1) := by
  unfold ext
  have : ∀ k, bv (m ++ List.replicate k false) = bv m * 2 ^ k := by
    intro k
    induction k with
    | zero => simp
    | succ k ih =>
      rw [List.replicate_succ', ← List.append_assoc, bv_snoc, ih, Nat.pow_succ]
      show 2 * (bv m * 2 ^ k) + 0 = _
      rw [Nat.add_zero, Nat.mul_left_comm, Nat.mul_comm 2]
  exact this _
def MLt (n a b : Nat) (L : List ((Fl × Fl) × Bool)) (U V : Nat → Int) (m m' : List Bool) : Prop := mc n a b L U V m < mc n a b L U V m' ∨ mc n a b L U V m = mc n a b L U V m' ∧ bv m < bv m'
theorem MLt_ext {m m' : List Bool} (h : m.length + (n - 1) = L.length) (h' : m'.length + (n - 1) = L.length) : Lt (cst n a b L U V) (ext n m) (ext n m') ↔ MLt n a b L U V m m' := by
  unfold Lt MLt
  rw [ext_cst h, ext_cst h', ext_bv, ext_bv, Nat.mul_lt_mul_right (Nat.two_pow_pos (n - 1))]
theorem soft_dec (hc : CodeOK n a b) (h : SR L U V) (hL : L.length ≤ 16384) (ha : gal (mf L U V) L.length = true) {M : Nat} (hM : M + (n - 1) = L.length) :
    ∃ m x, f_soft_Decode (n : Int) (a : Int) (b : Int) L = some (m, x, 0) ∧ m.length = M ∧ Val 12 x (mc n a b L U V m) ∧ (∀ m', m'.length = M → m' = m ∨ MLt n a b L U V m m') := by
  have n2 := hc.n2; have n7 := hc.n7
  obtain ⟨q, p1, _, q1, q2, _⟩ := hc.pq
  obtain ⟨t, A, e, r1, G⟩ := run_ok (last := n - 1) hc hL (HC_of h ha) (by omega)
  have hn1 : IntKind.i64.wrap ((n : Int) - 1) = ((n - 1 : Nat) : Int) := by rw [w64 (by omega) (by omega)]; omega
  have hck : f_soft_check (n : Int) (a : Int) (b : Int) L ((n - 1 : Nat) : Int) = some 0 := by rw [scheck_ok hc h hL ha, if_neg (by omega)]
  have B := G.best 0 (by omega)
  have R := G.ro 0 (by omega)
  have hz : (List.replicate M false).length + (n - 1) = L.length := by simp; exact hM
  cases he1 : (e 0).1 with
  | none => rw [he1] at B; exact absurd (ext_mem hc hz) (B.none1.2 _)
  | some l =>
    rw [he1] at B R
    obtain ⟨j, g1, rep⟩ := R.1.some1
    have hB := B.fst
    obtain ⟨x1, x2⟩ := mem_ext (by omega) hB.1
    have hll : l.length = L.length := hB.1.1.1
    obtain ⟨m, hm⟩ : ∃ m, m = l.take (L.length - (n - 1)) := ⟨_, rfl⟩
    rw [← hm] at x1 x2
    have hml : m.length = M := by omega
    have hval := rep.val
    rw [x1, ext_cst x2] at hval
    have hall : ∀ m', m'.length = M → m' = m ∨ MLt n a b L U V m m' := by
      intro m' hm'
      have h1 : m'.length + (n - 1) = L.length := by omega
      rcases hB.2 _ (ext_mem hc h1) with h2 | h2
      · left
        rw [x1] at h2
        exact List.append_cancel_right h2
      · right
        rw [x1] at h2
        exact (MLt_ext x2 h1).1 h2
    have g1' : (gt t (0 : Int)).1 = some j := g1
    refine ⟨m, (nth A j).2.2.1, ?_, hml, hval, hall⟩
    · unfold f_soft_Decode
      rw [hn1, hck]
      simp only [Option.bind_some]
      rw [if_neg (by simp), r1]
      simp only [Option.bind_some]
      rw [if_pos (by omega), g1', Int.toNat_natCast, w64 (x := (L.length : Int) - 1) (by omega) (by omega), ← hll, dec_loop rep _ (by simp) (by omega)]
      simp only [Option.bind_some]
      have e1 : l ++ (List.replicate l.length false).drop l.length = l := by rw [List.drop_eq_nil_of_le (by simp), List.append_nil]
      have e2 : IntKind.i64.wrap (IntKind.i64.wrap ((l.length : Int) - (n : Int)) + 1) = (M : Int) := by
        rw [w64 (x := (l.length : Int) - n) (by omega) (by omega), w64 (by omega) (by omega)]; omega
      rw [e1, e2, if_pos (by omega), if_pos (by simp only [List.length_take, List.length_drop, List.length_nil]; omega), Int.toNat_natCast]
      have e3 : ([] : List Bool) ++ (l.drop 0).take (M - 0) = m := by rw [hm]; simp; congr 1; omega
      rw [e3]
theorem path_ok (hc : CodeOK n a b) (h : SR L U V) (hL : L.length ≤ 16384) (ha : gal (mf L U V) L.length = true) {m : List Bool} (hM : m.length + (n - 1) = L.length) :
    ∃ x, f_soft_Path (n : Int) (a : Int) (b : Int) m L = some (x, 0) ∧ Val 12 x (mc n a b L U V m) ∧ (mc n a b L U V m).natAbs ≤ L.length * 33554432 := by
  have hco := HC_of h ha
  have n2 := hc.n2
  have key : ∀ k i : Nat, i + k = L.length → ∀ x : Fl, Val 12 x (pc n a b m L U V i) → (pc n a b m L U V i).natAbs ≤ i * 33554432 →
      ∃ y, loop (f_soft_Path.s1 (n : Int) (a : Int) (b : Int) m L) (x, ((st n m i : Nat) : Int), (i : Int)) = some y ∧ Val 12 y (pc n a b m L U V L.length) ∧ (pc n a b m L U V L.length).natAbs ≤ L.length * 33554432 := by
    intro k
    induction k with
    | zero =>
      intro i hi x hx hb
      obtain rfl : i = L.length := by omega
      refine ⟨x, loop_done ?_, hx, hb⟩
      simp only [f_soft_Path.s1, f_soft_Path.s1c]
      rw [if_neg (by simp)]
    | succ k ih =>
      intro i hi x hx hb
      have hs := st_lt hc m i
      obtain ⟨c, c1, c2, c3⟩ := hco i (by omega) (ob n a (st n m i) (bitAt m i)) (ob n b (st n m i) (bitAt m i))
      have hb2 : (pc n a b m L U V (i + 1)).natAbs ≤ (i + 1) * 33554432 := by simp only [pc]; omega
      have hx2 : Val 12 (fadd x c) (pc n a b m L U V (i + 1)) := fadd_val hx c2 (by decide) (by simp only [pc] at hb2; omega)
      obtain ⟨y, y1, y2⟩ := ih (i + 1) (by omega) (fadd x c) hx2 hb2
      refine ⟨y, (loop_step ?_).trans y1, y2⟩
      simp only [f_soft_Path.s1, f_soft_Path.s1c]
      rw [if_pos (by rw [decide_eq_true_eq]; omega), if_pos (by omega), bit_read]
      simp only [Option.bind_some]
      rw [Step_ok hc hs]
      simp only [Option.bind_some]
      rw [c1]
      simp only [Option.bind_some]
      rw [w64 (by omega) (by omega)]; rfl
  obtain ⟨x, x1, x2, x3⟩ := key L.length 0 (by omega) (Fl.bits 0) (zero_val 12) (by simp [pc])
  refine ⟨x, ?_, x2, x3⟩
  unfold f_soft_Path
  obtain ⟨g, hg⟩ := grid_c h hL
  rw [check_ok hc]
  simp only [Option.bind_some]
  rw [w64 (x := (m.length : Int) + n) (by omega) (by omega), w64 (by omega) (by omega), if_neg (by simp only [bne_self_eq_false, Bool.false_or, Bool.or_eq_true, decide_eq_true_eq, bne_iff_ne]; omega), hg, if_pos ha]
  simp only [Option.bind_some]
  rw [if_neg (by simp)]
  exact bnd_eq x1 rfl
end
def enc (n a b : Nat) (l : List Bool) : Nat → List Bool
  | 0 => []
  | i + 1 => enc n a b l i ++ [ob n a (st n l i) (bitAt l i), ob n b (st n l i) (bitAt l i)]
theorem enc_len (n a b : Nat) (l : List Bool) : ∀ i, (enc n a b l i).length = 2 * i
  | 0 => rfl
  | i + 1 => by simp only [enc, List.length_append, enc_len n a b l i, List.length_cons, List.length_nil]; omega
theorem through_enc {n a b : Nat} (h : CodeOK n a b) (l : List Bool) (hl : l.length + n - 1 ≤ 16384) :
    f_trellis_Code_through (n : Int) (a : Int) (b : Int) l (n : Int) (a : Int) (b : Int) [] = some (0, enc n a b l (l.length + n - 1)) := by
  have h1 := h.n2; have h2 := h.n7
  have key : ∀ k i : Nat, i + k = l.length + n - 1 → loop (f_trellis_Code_through.s1 (n : Int) l (n : Int) (a : Int) (b : Int)) (enc n a b l i, ((st n l i : Nat) : Int), (i : Int)) = some (enc n a b l (l.length + n - 1)) := by
    intro k
    induction k with
    | zero =>
      intro i hi
      obtain rfl : i = l.length + n - 1 := by omega
      apply loop_done
      simp only [f_trellis_Code_through.s1, f_trellis_Code_through.s1c]
      rw [w64 (x := (l.length : Int) + (n : Int)) (by omega) (by omega), w64 (by omega) (by omega), if_neg (by simp; omega)]
    | succ k ih =>
      intro i hi
      rw [← ih (i + 1) (by omega)]
      apply loop_step
      simp only [f_trellis_Code_through.s1, f_trellis_Code_through.s1c]
      rw [w64 (x := (l.length : Int) + (n : Int)) (by omega) (by omega), w64 (x := (l.length : Int) + (n : Int) - 1) (by omega) (by omega), if_pos (by simp; omega), bit_read]
      simp only [Option.bind_some]
      rw [step_ok h (st_lt h l i)]
      simp only [Option.bind_some, f_trellis_Code_Encode_1]
      rw [if_pos (by rw [enc_len]; simp; omega), w64 (by omega) (by omega)]
      rfl
  unfold f_trellis_Code_through
  rw [check_ok h]
  simp only [Option.bind_some]
  rw [if_neg (by simp), w64 (x := (l.length : Int) + (n : Int)) (by omega) (by omega), w64 (x := (l.length : Int) + (n : Int) - 1) (by omega) (by omega), if_neg (by simp; omega)]
  have := key (l.length + n - 1) 0 (by omega)
  rw [show enc n a b l 0 = [] from rfl, show ((st n l 0 : Nat) : Int) = 0 from rfl, show ((0 : Nat) : Int) = 0 from rfl] at this
  rw [this]
  rfl
theorem encode_ok {n a b : Nat} (h : CodeOK n a b) (l : List Bool) (hl : l.length + n - 1 ≤ 16384) :
    f_trellis_Code_Encode (n : Int) (a : Int) (b : Int) l = some (enc n a b l (l.length + n - 1), 0) := by
  unfold f_trellis_Code_Encode
  rw [through_enc h l hl]
  rfl
theorem gal_all {f : Nat → Bool} : ∀ {i : Nat}, (∀ j, j < i → f j = true) → gal f i = true
  | 0, _ => rfl
  | i + 1, h => by simp only [gal]; rw [gal_all (fun j hj => h j (by omega)), h i (by omega)]; rfl
theorem short_ok : CodeOK 3 7 5 := ⟨by decide, by decide, by decide, by decide, by decide, by decide, by decide⟩
theorem long_ok : CodeOK 7 121 91 := ⟨by decide, by decide, by decide, by decide, by decide, by decide, by decide⟩

end SF
end Go.Proofs.YtgdhjjdgghilhaaGreat
