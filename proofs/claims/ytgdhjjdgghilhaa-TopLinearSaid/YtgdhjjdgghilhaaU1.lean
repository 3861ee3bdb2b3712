/- TopLinear: the plain law: the plain definition of the law answers some true for all arguments. -/
import Derived.Test.YtgdhjjdgghilhaaG1
import Derived.Test.YtgdhjjdgghilhaaGlW
set_option linter.unusedVariables false
set_option linter.unusedSimpArgs false
set_option maxRecDepth 8000
set_option exponentiation.threshold 3000
namespace Go.Proofs.Ytgdhjjdgghilhaa
open GL Go

/-! ### What a float stands for -/
theorem log2_mul_pow {m : Nat} (hm : m ≠ 0) (a : Nat) : (m * 2 ^ a).log2 = m.log2 + a := by
  have h0 : m * 2 ^ a ≠ 0 := Nat.mul_ne_zero hm (Nat.ne_of_gt (Nat.two_pow_pos a))
  rw [Nat.log2_eq_iff h0]
  have l1 := Nat.log2_self_le hm
  have l2 : m < 2 ^ (m.log2 + 1) := Nat.lt_log2_self
  constructor
  · rw [Nat.pow_add]; exact Nat.mul_le_mul_right _ l1
  · rw [show m.log2 + a + 1 = m.log2 + 1 + a by omega, Nat.pow_add _ _ a]; exact Nat.mul_lt_mul_of_pos_right l2 (Nat.two_pow_pos a)
theorem cut_exact (neg : Bool) {m : Nat} (hm : m ≠ 0) (d : Nat) : Ieee.Toward.even.cut neg (m * 2 ^ d) d = m := by
  unfold Ieee.Toward.cut
  rw [log2_mul_pow hm, Nat.min_eq_left (by omega)]
  have hp := Nat.two_pow_pos d
  simp only [Nat.one_shiftLeft, Nat.mul_div_cancel _ hp, Nat.mul_mod_left]
  have e1 : decide (2 ^ d < 2 * 0) = false := by rw [decide_eq_false_iff_not]; omega
  have e2 : (2 ^ d == 2 * 0) = false := by rw [beq_eq_false_iff_ne]; omega
  rw [e1, e2]; simp
theorem nearest_eq (neg : Bool) {mag : Nat} (place : Int) (h : mag ≠ 0) : Ieee.double.nearest neg mag place = Ieee.double.word neg (min ((max (place + mag.log2 - 52) (-1074) - (-1074)).toNat * 4503599627370496 + Ieee.Toward.even.cut neg (mag <<< (place - max (place + mag.log2 - 52) (-1074)).toNat) (max (place + mag.log2 - 52) (-1074) - place).toNat) 9218868437227405312) := by
  unfold Ieee.Format.nearest
  rw [if_neg h]
  have e1 : (Ieee.double.fractionBits : Nat) = 52 := rfl
  have e2 : Ieee.double.leastPlace = -1074 := by decide
  have e3 : Ieee.double.binade = 4503599627370496 := by decide
  have e4 : Ieee.double.infRung = 9218868437227405312 := by decide
  simp only [e1, e2, e3, e4]
  rfl
theorem read_eq (w : Nat) : Ieee.double.read w = (if w % 9223372036854775808 < 4503599627370496 then .number (w / 9223372036854775808 % 2 == 1) (w % 9223372036854775808) (-1074)
    else if w % 9223372036854775808 < 9218868437227405312 then .number (w / 9223372036854775808 % 2 == 1) (4503599627370496 + w % 9223372036854775808 % 4503599627370496) (-1074 + ((w % 9223372036854775808 / 4503599627370496 - 1 : Nat) : Int))
    else if w % 9223372036854775808 = 9218868437227405312 then .infinity (w / 9223372036854775808 % 2 == 1) else .nan (w / 9223372036854775808 % 2 == 1) (w % 9223372036854775808 - 9218868437227405312)) := by
  have e1 : Ieee.double.signWeight = 9223372036854775808 := by decide
  have e2 : Ieee.double.leastPlace = -1074 := by decide
  have e3 : Ieee.double.binade = 4503599627370496 := by decide
  have e4 : Ieee.double.infRung = 9218868437227405312 := by decide
  simp only [Ieee.Format.read, e1, e2, e3, e4]
theorem word_eq (neg : Bool) (r : Nat) : Ieee.double.word neg r = if neg then 9223372036854775808 + r else r := by
  have e1 : Ieee.double.signWeight = 9223372036854775808 := by decide
  simp only [Ieee.Format.word, e1]
theorem read_word (neg : Bool) {t kept : Nat} (h : kept < 9007199254740992) (h2 : t = 0 ∨ 4503599627370496 ≤ kept) (ht : t < 2000) :
    ∃ m e, Ieee.double.read (Ieee.double.word neg (min (t * 4503599627370496 + kept) 9218868437227405312)) = .number neg m e ∧ -1074 ≤ e ∧ m * 2 ^ (e + 1074).toNat = kept * 2 ^ t := by
  rw [Nat.min_eq_left (by omega), word_eq, read_eq]
  generalize hr : t * 4503599627370496 + kept = r
  have hlt : r < 9218868437227405312 := by omega
  generalize hw : (if neg then 9223372036854775808 + r else r) = w
  have w1 : w % 9223372036854775808 = r := by
    cases neg
    · simp at hw; omega
    · simp at hw; omega
  have w2 : (w / 9223372036854775808 % 2 == 1) = neg := by
    cases neg
    · simp only [Bool.false_eq_true, if_false] at hw
      rw [beq_eq_false_iff_ne]; omega
    · simp only [if_true] at hw
      rw [beq_iff_eq]; omega
  rw [w1, w2]
  by_cases hc : r < 4503599627370496
  · rw [if_pos hc]
    have : t = 0 := by omega
    subst this
    refine ⟨_, _, rfl, by omega, ?_⟩
    have : r = kept := by omega
    subst this
    rfl
  · rw [if_neg hc, if_pos hlt]
    refine ⟨_, _, rfl, by omega, ?_⟩
    have e1 : 4503599627370496 + r % 4503599627370496 = kept := by omega
    have e2 : (-1074 + ((r / 4503599627370496 - 1 : Nat) : Int) + 1074).toNat = t := by omega
    rw [e1, e2]
/-- a number that the format has is written as it is -/
theorem near (neg : Bool) {z p K mag : Nat} {place : Int} (hm : mag ≠ 0) (hK : K < 9007199254740992) (hp : p ≤ 800) (hz : p ≤ z) (hpl : 0 ≤ place + z) (h : mag * 2 ^ (place + z).toNat = K * 2 ^ (z - p)) :
    ∃ m e, Ieee.double.read (Ieee.double.nearest neg mag place) = .number neg m e ∧ -1074 ≤ e ∧ m * 2 ^ (e + 1074).toNat = K * 2 ^ (1074 - p) := by
  have hK0 : K ≠ 0 := by
    intro e
    subst e
    rw [Nat.zero_mul] at h
    exact Nat.mul_ne_zero hm (Nat.ne_of_gt (Nat.two_pow_pos _)) h
  have hL : K.log2 ≤ 52 := by
    have := (Nat.log2_lt hK0 (k := 53)).2 (by simpa using hK)
    omega
  have hlog : place + (mag.log2 : Int) = K.log2 - p := by
    have a1 := log2_mul_pow hm (place + z).toNat
    have a2 := log2_mul_pow hK0 (z - p)
    rw [h] at a1
    omega
  rw [nearest_eq neg place hm]
  have hlast : max (place + mag.log2 - 52) (-1074) = max ((K.log2 : Int) - p - 52) (-1074) := by rw [hlog]
  rw [hlast]
  generalize hl : max ((K.log2 : Int) - p - 52) (-1074) = last
  -- the digits that are kept
  have hlp : last ≤ -p := by omega
  have key : mag * 2 ^ (place - last).toNat = (K * 2 ^ (-p - last).toNat) * 2 ^ (last - place).toNat := by
    have hP := Nat.two_pow_pos (place + z).toNat
    apply Nat.eq_of_mul_eq_mul_right hP
    have s1 : mag * 2 ^ (place - last).toNat * 2 ^ (place + z).toNat = (mag * 2 ^ (place + z).toNat) * 2 ^ (place - last).toNat := by
      rw [Nat.mul_assoc, Nat.mul_comm (2 ^ (place - last).toNat), ← Nat.mul_assoc]
    rw [s1, h, Nat.mul_assoc, ← Nat.pow_add, Nat.mul_assoc K, ← Nat.pow_add, Nat.mul_assoc K, ← Nat.pow_add]
    congr 2
    omega
  have hk0 : K * 2 ^ (-p - last).toNat ≠ 0 := Nat.mul_ne_zero hK0 (Nat.ne_of_gt (Nat.two_pow_pos _))
  rw [Nat.shiftLeft_eq, key, cut_exact neg hk0]
  have hkl := log2_mul_pow hK0 (-p - last).toNat
  have hk53 : K * 2 ^ (-p - last).toNat < 9007199254740992 := by
    have l2 : K * 2 ^ (-p - last).toNat < 2 ^ ((K * 2 ^ (-p - last).toNat).log2 + 1) := Nat.lt_log2_self
    have l3 : 2 ^ ((K * 2 ^ (-p - last).toNat).log2 + 1) ≤ 2 ^ 53 := Nat.pow_le_pow_right (by decide) (by omega)
    have l4 : (2 : Nat) ^ 53 = 9007199254740992 := by decide
    omega
  have hk52 : (last - (-1074)).toNat = 0 ∨ 4503599627370496 ≤ K * 2 ^ (-p - last).toNat := by
    by_cases hc : last = -1074
    · left; omega
    · right
      have l1 := Nat.log2_self_le hk0
      have l3 : 2 ^ 52 ≤ 2 ^ (K * 2 ^ (-p - last).toNat).log2 := Nat.pow_le_pow_right (by decide) (by omega)
      have l4 : (2 : Nat) ^ 52 = 4503599627370496 := by decide
      omega
  obtain ⟨m, e, r1, r2, r3⟩ := read_word neg hk53 hk52 (by omega)
  refine ⟨m, e, r1, r2, r3.trans ?_⟩
  rw [Nat.mul_assoc, ← Nat.pow_add]
  congr 2
  omega
def sg (s : Bool) (m : Nat) : Int := if s then -(m : Int) else (m : Int)
theorem sg_mul (s : Bool) (m n : Nat) : sg s (m * n) = sg s m * (n : Int) := by
  cases s <;> simp [sg, Int.neg_mul]
theorem signed_eq (s : Bool) (m u : Nat) : Ieee.signed s m u = sg s (m * 2 ^ u) := by
  unfold Ieee.signed sg
  rw [Nat.shiftLeft_eq]
/-- 'x' stands for 'k / 2 ^ p' -/
def Val (p : Nat) (x : Fl) (k : Int) : Prop := ∃ b s m e, x = .bits b ∧ Ieee.double.read b = .number s m e ∧ -1074 ≤ e ∧ sg s (m * 2 ^ (e + 1074).toNat) = k * ((2 ^ (1074 - p) : Nat) : Int)
theorem pow_pos_i (a : Nat) : (0 : Int) < ((2 ^ a : Nat) : Int) := by have := Nat.two_pow_pos a; omega
theorem val_near (neg : Bool) {z p : Nat} {k total : Int} {place : Int} (hp : p ≤ 800) (hz : p ≤ z) (hpl : 0 ≤ place + z) (hk : k.natAbs < 9007199254740992)
    (h : total * ((2 ^ (place + z).toNat : Nat) : Int) = k * ((2 ^ (z - p) : Nat) : Int)) (hs : total ≠ 0 → neg = decide (total < 0)) : Val p (.bits (Ieee.double.nearest neg total.natAbs place)) k := by
  have p1 := pow_pos_i (place + z).toNat
  have p2 := pow_pos_i (z - p)
  by_cases h0 : total = 0
  · subst h0
    rw [Int.zero_mul] at h
    have hk0 : k = 0 := by
      rcases Int.mul_eq_zero.1 h.symm with h | h
      · exact h
      · omega
    subst hk0
    refine ⟨_, neg, 0, -1074, rfl, ?_, by decide, ?_⟩
    · have : Ieee.double.nearest neg (0 : Int).natAbs place = Ieee.double.word neg 0 := rfl
      rw [this]
      cases neg <;> decide
    · rw [Nat.zero_mul, Int.zero_mul]; cases neg <;> rfl
  · obtain ⟨m, e, r1, r2, r3⟩ := near neg (mag := total.natAbs) (K := k.natAbs) (place := place) (z := z) (p := p) (by omega) hk hp hz hpl (by
      have := congrArg Int.natAbs h
      rw [Int.natAbs_mul, Int.natAbs_mul, Int.natAbs_natCast, Int.natAbs_natCast] at this
      exact this)
    refine ⟨_, neg, m, e, rfl, r1, r2, ?_⟩
    rw [r3, sg_mul, hs h0]
    congr 1
    by_cases ht : total < 0
    · have : k < 0 := by
        apply Int.not_le.mp
        intro hk
        have a1 : 0 ≤ k * ((2 ^ (z - p) : Nat) : Int) := Int.mul_nonneg hk (by omega)
        have a2 : total * ((2 ^ (place + z).toNat : Nat) : Int) < 0 := Int.mul_neg_of_neg_of_pos ht p1
        omega
      rw [decide_eq_true ht]; simp only [sg, if_true]; omega
    · have : 0 ≤ k := by
        apply Int.not_lt.mp
        intro hk
        have a1 : k * ((2 ^ (z - p) : Nat) : Int) < 0 := Int.mul_neg_of_neg_of_pos hk p2
        have a2 : 0 ≤ total * ((2 ^ (place + z).toNat : Nat) : Int) := Int.mul_nonneg (by omega) (by omega)
        omega
      rw [decide_eq_false ht]; simp only [sg, Bool.false_eq_true, if_false]; omega
theorem fofi_val {k : Int} (hk : k.natAbs < 9007199254740992) : Val 0 (fofi k) k := by
  have := val_near (decide (k < 0)) (z := 0) (p := 0) (k := k) (total := k) (place := 0) (by decide) (by decide) (by decide) hk rfl (fun _ => rfl)
  exact this
theorem zero_val (p : Nat) : Val p (.bits 0) 0 := by
  refine ⟨0, false, 0, -1074, rfl, by decide, by decide, ?_⟩
  rw [Nat.zero_mul, Int.zero_mul]; rfl
theorem sum_read {a b : Nat} {s t : Bool} {m n : Nat} {i j : Int} {p : Nat} {k l : Int} (hp : p ≤ 800) (hi : -1074 ≤ i) (hj : -1074 ≤ j)
    (h1 : sg s (m * 2 ^ (i + 1074).toNat) = k * ((2 ^ (1074 - p) : Nat) : Int)) (h2 : sg t (n * 2 ^ (j + 1074).toNat) = l * ((2 ^ (1074 - p) : Nat) : Int)) (hk : (k + l).natAbs < 9007199254740992) :
    ∃ d, (Ieee.Datum.number s m i).sum (.number t n j) = some d ∧ Val p (.bits (Ieee.double.write d)) (k + l) := by
  refine ⟨_, rfl, ?_⟩
  refine val_near (z := 1074) (p := p) (k := k + l) _ hp (by omega) (by omega) hk ?_ (fun h => by rw [if_neg h])
  rw [signed_eq, signed_eq, Int.add_mul, Int.add_mul, ← h1, ← h2, ← sg_mul, ← sg_mul, Nat.mul_assoc, ← Nat.pow_add, Nat.mul_assoc, ← Nat.pow_add]
  congr 4 <;> omega
theorem fadd_val {p : Nat} {x y : Fl} {k l : Int} (h1 : Val p x k) (h2 : Val p y l) (hp : p ≤ 800) (hk : (k + l).natAbs < 9007199254740992) : Val p (fadd x y) (k + l) := by
  obtain ⟨a, s, m, i, rfl, r1, hi, v1⟩ := h1
  obtain ⟨b, t, n, j, rfl, r2, hj, v2⟩ := h2
  obtain ⟨d, e1, e2⟩ := sum_read (a := a) (b := b) hp hi hj v1 v2 hk
  have : fadd (.bits a) (.bits b) = .bits (Ieee.double.write d) := by
    show farith .add _ _ = _
    have : floatBits .add .f64 a b = some (Ieee.double.write d) := by
      show Ieee.double.add a b = _
      unfold Ieee.Format.add
      rw [r1, r2, e1]; rfl
    simp only [farith, this]
  rw [this]; exact e2
theorem sg_not (s : Bool) (m : Nat) : sg (!s) m = - sg s m := by cases s <;> simp [sg]
theorem fsub_val {p : Nat} {x y : Fl} {k l : Int} (h1 : Val p x k) (h2 : Val p y l) (hp : p ≤ 800) (hk : (k - l).natAbs < 9007199254740992) : Val p (fsub x y) (k - l) := by
  obtain ⟨a, s, m, i, rfl, r1, hi, v1⟩ := h1
  obtain ⟨b, t, n, j, rfl, r2, hj, v2⟩ := h2
  obtain ⟨d, e1, e2⟩ := sum_read (a := a) (b := b) (t := !t) (n := n) (l := -l) hp hi hj v1 (by rw [sg_not, v2, Int.neg_mul]) (by rw [← Int.sub_eq_add_neg]; exact hk)
  have : fsub (.bits a) (.bits b) = .bits (Ieee.double.write d) := by
    show farith .sub _ _ = _
    have : floatBits .sub .f64 a b = some (Ieee.double.write d) := by
      show Ieee.double.sub a b = _
      unfold Ieee.Format.sub
      rw [r1, r2]
      show (Ieee.Datum.sum _ (Ieee.Datum.number (!t) n j)).map _ = _
      rw [e1]; rfl
    simp only [farith, this]
  rw [this, Int.sub_eq_add_neg]; exact e2
theorem sg_prod (s t : Bool) (m n : Nat) : sg (s ^^ t) (m * n) = sg s m * sg t n := by
  cases s <;> cases t <;> simp [sg, Int.neg_mul, Int.mul_neg]
theorem fmul_val {p q : Nat} {x y : Fl} {k l : Int} (h1 : Val p x k) (h2 : Val q y l) (hp : p + q ≤ 800) (hk : (k * l).natAbs < 9007199254740992) : Val (p + q) (fmul x y) (k * l) := by
  obtain ⟨a, s, m, i, rfl, r1, hi, v1⟩ := h1
  obtain ⟨b, t, n, j, rfl, r2, hj, v2⟩ := h2
  have hw : floatBits .mul .f64 a b = some (Ieee.double.nearest (s ^^ t) (m * n) (i + j)) := by
    show Ieee.double.mul a b = _
    unfold Ieee.Format.mul
    rw [r1, r2]; rfl
  have hf : fmul (.bits a) (.bits b) = .bits (Ieee.double.nearest (s ^^ t) (m * n) (i + j)) := by
    show farith .mul _ _ = _
    simp only [farith, hw]
  rw [hf]
  have hab : (sg (s ^^ t) (m * n)).natAbs = m * n := by unfold sg; split <;> omega
  rw [← hab]
  refine val_near (z := 2148) (p := p + q) (k := k * l) (total := sg (s ^^ t) (m * n)) _ hp (by omega) (by omega) hk ?_ (fun h => ?_)
  · rw [← sg_mul]
    have e : m * n * 2 ^ (i + j + ((2148 : Nat) : Int)).toNat = (m * 2 ^ (i + 1074).toNat) * (n * 2 ^ (j + 1074).toNat) := by
      rw [show (i + j + ((2148 : Nat) : Int)).toNat = (i + 1074).toNat + (j + 1074).toNat by omega, Nat.pow_add]
      rw [Nat.mul_assoc, Nat.mul_assoc]
      congr 1
      rw [← Nat.mul_assoc, ← Nat.mul_assoc, Nat.mul_comm n]
    rw [e, sg_prod, v1, v2, show 2148 - (p + q) = (1074 - p) + (1074 - q) by omega, Nat.pow_add, Int.natCast_mul]
    generalize ((2 ^ (1074 - p) : Nat) : Int) = P
    generalize ((2 ^ (1074 - q) : Nat) : Int) = Q
    grind
  · unfold sg at h ⊢
    cases hst : (s ^^ t)
    · rw [hst] at h
      simp only [Bool.false_eq_true, if_false] at h ⊢
      symm; rw [decide_eq_false_iff_not]; omega
    · rw [hst] at h
      simp only [if_true] at h ⊢
      symm; rw [decide_eq_true_eq]; omega
theorem feq_val {p : Nat} {x y : Fl} {k : Int} (h1 : Val p x k) (h2 : Val p y k) : feq x y = true := by
  obtain ⟨a, s, m, i, rfl, r1, hi, v1⟩ := h1
  obtain ⟨b, t, n, j, rfl, r2, hj, v2⟩ := h2
  have : fcmp (.bits a) (.bits b) = some .eq := by
    show (Ieee.double.read a).order (Ieee.double.read b) = _
    rw [r1, r2]
    unfold Ieee.Datum.order
    simp only [signed_eq]
    have hP := pow_pos_i (min i j + 1074).toNat
    have e : sg s (m * 2 ^ (i - min i j).toNat) = sg t (n * 2 ^ (j - min i j).toNat) := by
      apply Int.eq_of_mul_eq_mul_right (a := ((2 ^ (min i j + 1074).toNat : Nat) : Int)) (by omega)
      rw [← sg_mul, ← sg_mul, Nat.mul_assoc, ← Nat.pow_add, Nat.mul_assoc, ← Nat.pow_add, show (i - min i j).toNat + (min i j + 1074).toNat = (i + 1074).toNat by omega, show (j - min i j).toNat + (min i j + 1074).toNat = (j + 1074).toNat by omega, v1, v2]
    rw [e]
    congr 1
    simp
  unfold feq
  rw [this]; rfl
theorem fneg_val {p : Nat} {x : Fl} {k : Int} (h : Val p x k) : Val p (fneg x) (-k) := by
  obtain ⟨a, s, m, i, rfl, r1, hi, v1⟩ := h
  have hr := rung_neg a
  have hs : ((a ^^^ 2 ^ 63) / 9223372036854775808 % 2 == 1) = !(a / 9223372036854775808 % 2 == 1) := by
    have t1 : (a ^^^ 2 ^ 63).testBit 63 = !a.testBit 63 := by rw [Nat.testBit_xor, Nat.testBit_two_pow]; simp
    rw [Nat.testBit_eq_decide_div_mod_eq, Nat.testBit_eq_decide_div_mod_eq] at t1
    exact t1
  rw [show (2 : Nat) ^ 63 = 9223372036854775808 from rfl] at hr hs
  have rd : Ieee.double.read (a ^^^ 9223372036854775808) = (Ieee.double.read a).opposite := by
    rw [read_eq, read_eq, hr, hs]
    split
    · rfl
    · split
      · rfl
      · split <;> rfl
  refine ⟨a ^^^ 9223372036854775808, !s, m, i, rfl, by rw [rd, r1]; rfl, hi, ?_⟩
  rw [sg_not, v1, Int.neg_mul]
/-! ### Order, scale, quotients by 4096 -/
theorem fcmp_val {p : Nat} {x y : Fl} {k l : Int} (h1 : Val p x k) (h2 : Val p y l) : fcmp x y = some (compare k l) := by
  obtain ⟨a, s, m, i, rfl, r1, hi, v1⟩ := h1
  obtain ⟨b, t, n, j, rfl, r2, hj, v2⟩ := h2
  show (Ieee.double.read a).order (Ieee.double.read b) = _
  rw [r1, r2]
  unfold Ieee.Datum.order
  simp only [signed_eq]
  have hP := pow_pos_i (min i j + 1074).toNat
  have hQ := pow_pos_i (1074 - p)
  have e1 : sg s (m * 2 ^ (i - min i j).toNat) * ((2 ^ (min i j + 1074).toNat : Nat) : Int) = k * ((2 ^ (1074 - p) : Nat) : Int) := by
    rw [← sg_mul, Nat.mul_assoc, ← Nat.pow_add, show (i - min i j).toNat + (min i j + 1074).toNat = (i + 1074).toNat by omega, v1]
  have e2 : sg t (n * 2 ^ (j - min i j).toNat) * ((2 ^ (min i j + 1074).toNat : Nat) : Int) = l * ((2 ^ (1074 - p) : Nat) : Int) := by
    rw [← sg_mul, Nat.mul_assoc, ← Nat.pow_add, show (j - min i j).toNat + (min i j + 1074).toNat = (j + 1074).toNat by omega, v2]
  generalize sg s (m * 2 ^ (i - min i j).toNat) = A at *
  generalize sg t (n * 2 ^ (j - min i j).toNat) = B at *
  generalize ((2 ^ (min i j + 1074).toNat : Nat) : Int) = P at *
  generalize ((2 ^ (1074 - p) : Nat) : Int) = K at *
  congr 1
  have lt1 : A < B ↔ k < l := by
    rw [← Int.mul_lt_mul_right hP, e1, e2, Int.mul_lt_mul_right hQ]
  have eq1 : A = B ↔ k = l := by
    constructor
    · intro h
      subst h
      exact Int.eq_of_mul_eq_mul_right (by omega) (e1.symm.trans e2)
    · intro h
      subst h
      exact Int.eq_of_mul_eq_mul_right (by omega) (e1.trans e2.symm)
  show compareOfLessAndEq A B = compareOfLessAndEq k l
  unfold compareOfLessAndEq
  simp only [lt1, eq1]
theorem fgt_val {p : Nat} {x y : Fl} {k l : Int} (h1 : Val p x k) (h2 : Val p y l) : fgt x y = decide (l < k) := by
  unfold fgt
  rw [fcmp_val h1 h2]
  show (some (compareOfLessAndEq k l) == some Ordering.gt) = _
  unfold compareOfLessAndEq
  by_cases h : k < l
  · rw [if_pos h, decide_eq_false (by omega)]; rfl
  · rw [if_neg h]
    by_cases h' : k = l
    · rw [if_pos h', decide_eq_false (by omega)]; rfl
    · rw [if_neg h', decide_eq_true (by omega)]; rfl
theorem feq_ne {p : Nat} {x y : Fl} {k l : Int} (h1 : Val p x k) (h2 : Val p y l) (h : k ≠ l) : feq x y = false := by
  unfold feq
  rw [fcmp_val h1 h2]
  show (some (compareOfLessAndEq k l) == some Ordering.eq) = _
  unfold compareOfLessAndEq
  by_cases h' : k < l
  · rw [if_pos h']; rfl
  · rw [if_neg h', if_neg h]; rfl
theorem val_scale {p d : Nat} {x : Fl} {k : Int} (h : Val p x k) (hd : p + d ≤ 1074) : Val (p + d) x (k * ((2 ^ d : Nat) : Int)) := by
  obtain ⟨b, s, m, e, rfl, r, he, v⟩ := h
  refine ⟨b, s, m, e, rfl, r, he, v.trans ?_⟩
  rw [Int.mul_assoc, ← Int.natCast_mul, ← Nat.pow_add]
  congr 4
  omega
theorem read_lt {b : Nat} {s : Bool} {m : Nat} {e : Int} (h : Ieee.double.read b = .number s m e) : m < 9007199254740992 := by
  rw [read_eq] at h
  split at h
  · cases h; omega
  · split at h
    · cases h; omega
    · split at h <;> cases h
theorem fadd_s {p : Nat} {x y : Fl} {k l : Int} (h1 : Val p x k) (h2 : Val p y l) (hp : p ≤ 800) (hk : (k + l).natAbs < 9007199254740992) : ∃ r, farithS .add x y = some r ∧ Val p r (k + l) := by
  obtain ⟨a, s, m, i, rfl, r1, hi, v1⟩ := h1
  obtain ⟨b, t, n, j, rfl, r2, hj, v2⟩ := h2
  obtain ⟨d, e1, e2⟩ := sum_read (a := a) (b := b) hp hi hj v1 v2 hk
  refine ⟨_, ?_, e2⟩
  have : floatBits .add .f64 a b = some (Ieee.double.write d) := by
    show Ieee.double.add a b = _
    unfold Ieee.Format.add
    rw [r1, r2, e1]; rfl
  simp only [farithS, this]; rfl
theorem quo_s {x : Fl} {k : Int} (h : Val 0 x k) (hk : k.natAbs < 9007199254740992) : ∃ r, farithS .quo x (Fl.bits 4661225614328463360) = some r ∧ Val 12 r k := by
  obtain ⟨a, s, m, i, rfl, r1, hi, v1⟩ := h
  have hm := read_lt r1
  have r2 : Ieee.double.read 4661225614328463360 = .number false 4503599627370496 (-40) := by decide
  have hl : m.log2 ≤ 52 := by
    by_cases h0 : m = 0
    · subst h0; decide
    · have := (Nat.log2_lt h0 (k := 53)).2 (by simpa using hm); omega
  have l52 : (4503599627370496 : Nat).log2 = 52 := by decide
  generalize hmo : 106 - m.log2 = more
  have hq : (m <<< more) / 4503599627370496 = m * 2 ^ (more - 52) := by
    rw [Nat.shiftLeft_eq, show more = (more - 52) + 52 by omega, Nat.pow_add, ← Nat.mul_assoc, show (4503599627370496 : Nat) = 2 ^ 52 by decide, Nat.mul_div_cancel _ (by decide)]
    congr 1
  have hr : (m <<< more) % 4503599627370496 = 0 := by
    rw [Nat.shiftLeft_eq, show more = (more - 52) + 52 by omega, Nat.pow_add, ← Nat.mul_assoc, show (4503599627370496 : Nat) = 2 ^ 52 by decide, Nat.mul_mod_left]
  have hw : floatBits .quo .f64 a 4661225614328463360 = some (Ieee.double.nearest s (2 * (m * 2 ^ (more - 52))) (i + 40 - more - 1)) := by
    show Ieee.double.div a 4661225614328463360 = _
    unfold Ieee.Format.div
    rw [r1, r2]
    unfold Ieee.Datum.quotient
    simp only [l52]
    rw [if_neg (by decide)]
    have e54 : Ieee.double.fractionBits + 2 + 52 - m.log2 = more := by
      show 52 + 2 + 52 - m.log2 = more
      omega
    rw [e54, hq, hr]
    show some (Ieee.double.nearest (s ^^ false) (2 * (m * 2 ^ (more - 52)) + 0) (i - -40 - more - 1)) = _
    rw [Bool.xor_false, Nat.add_zero, Int.sub_neg]
  refine ⟨_, by simp only [farithS, hw]; rfl, ?_⟩
  have hab : (sg s (2 * (m * 2 ^ (more - 52)))).natAbs = 2 * (m * 2 ^ (more - 52)) := by unfold sg; split <;> omega
  rw [← hab]
  refine val_near (z := 1374) (p := 12) (k := k) (total := sg s (2 * (m * 2 ^ (more - 52)))) s (by decide) (by decide) (by omega) hk ?_ (fun h => ?_)
  · rw [← sg_mul]
    have e : 2 * (m * 2 ^ (more - 52)) * 2 ^ (i + 40 - more - 1 + ((1374 : Nat) : Int)).toNat = m * 2 ^ (i + 1074).toNat * 2 ^ (1374 - 12 - 1074) := by
      rw [show 2 * (m * 2 ^ (more - 52)) = m * 2 ^ (more - 51) by rw [show more - 51 = more - 52 + 1 by omega, Nat.pow_succ]; generalize 2 ^ (more - 52) = X; rw [Nat.mul_comm X 2, ← Nat.mul_assoc, ← Nat.mul_assoc, Nat.mul_comm 2 m]]
      rw [Nat.mul_assoc, ← Nat.pow_add, Nat.mul_assoc, ← Nat.pow_add]
      congr 2
      omega
    rw [e, sg_mul, v1, Int.mul_assoc, ← Int.natCast_mul, ← Nat.pow_add]
  · unfold sg at h ⊢
    cases s
    · simp only [Bool.false_eq_true, if_false] at h ⊢
      symm; rw [decide_eq_false_iff_not]; omega
    · simp only [if_true] at h ⊢
      symm; rw [decide_eq_true_eq]; omega
/-! ### Floats made whole -/
theorem cut_zero (s : Bool) (n drop : Nat) : Ieee.Toward.zero.cut s n drop = n / 2 ^ drop := by
  unfold Ieee.Toward.cut
  simp only [Nat.one_shiftLeft, Bool.toNat_false, Nat.add_zero]
  by_cases h : drop ≤ n.log2 + 2
  · rw [Nat.min_eq_left h]
  · rw [Nat.min_eq_right (by omega)]
    have h1 : n < 2 ^ (n.log2 + 1) := Nat.lt_log2_self
    have h2 : 2 ^ (n.log2 + 1) ≤ 2 ^ (n.log2 + 2) := Nat.pow_le_pow_right (by decide) (by omega)
    have h3 : 2 ^ (n.log2 + 1) ≤ 2 ^ drop := Nat.pow_le_pow_right (by decide) (by omega)
    rw [Nat.div_eq_of_lt (by omega), Nat.div_eq_of_lt (by omega)]
theorem cut_down (s : Bool) (n drop : Nat) : Ieee.Toward.down.cut s n drop = n / 2 ^ drop + (if s = true ∧ n % 2 ^ drop ≠ 0 then 1 else 0) := by
  unfold Ieee.Toward.cut
  simp only [Nat.one_shiftLeft]
  have key : ∀ r : Nat, (s && r != 0).toNat = if s = true ∧ r ≠ 0 then 1 else 0 := by
    intro r
    cases s
    · simp
    · by_cases h : r = 0
      · subst h; rfl
      · rw [if_pos ⟨rfl, h⟩, bne_iff_ne.2 h]; rfl
  rw [key]
  by_cases h : drop ≤ n.log2 + 2
  · rw [Nat.min_eq_left h]
  · rw [Nat.min_eq_right (by omega)]
    have h1 : n < 2 ^ (n.log2 + 1) := Nat.lt_log2_self
    have h2 : 2 ^ (n.log2 + 1) ≤ 2 ^ (n.log2 + 2) := Nat.pow_le_pow_right (by decide) (by omega)
    have h3 : 2 ^ (n.log2 + 1) ≤ 2 ^ drop := Nat.pow_le_pow_right (by decide) (by omega)
    rw [Nat.div_eq_of_lt (by omega), Nat.div_eq_of_lt (by omega), Nat.mod_eq_of_lt (by omega), Nat.mod_eq_of_lt (by omega)]
theorem sg_natAbs (s : Bool) (m : Nat) : (sg s m).natAbs = m := by unfold sg; split <;> omega
theorem whole_val (s : Bool) {K : Nat} (hK : K < 9007199254740992) : Val 0 (.bits (Ieee.double.nearest s K 0)) (sg s K) := by
  have := val_near s (z := 0) (p := 0) (k := sg s K) (total := sg s K) (place := 0) (by decide) (by decide) (by decide) (by rw [sg_natAbs]; exact hK) rfl (fun h => by
    unfold sg at h ⊢
    cases s
    · simp only [Bool.false_eq_true, if_false] at h ⊢
      symm; rw [decide_eq_false_iff_not]; omega
    · simp only [if_true] at h ⊢
      symm; rw [decide_eq_true_eq]; omega)
  rw [sg_natAbs] at this
  exact this
theorem fint_num (way : Ieee.Toward) {a : Nat} {s : Bool} {m : Nat} {e : Int} (h : Ieee.double.read a = .number s m e) : fint way (.bits a) = .bits (Ieee.double.nearest s (way.cut s (m * 2 ^ e.toNat) (-e).toNat) 0) := by
  have h' : FloatKind.f64.decode a = .number s m e := h
  simp only [fint, h']
  show Fl.bits (Ieee.double.nearest s (way.cut s (m <<< e.toNat) (-e).toNat) 0) = _
  rw [Nat.shiftLeft_eq]
theorem feq_dec {p : Nat} {x y : Fl} {k l : Int} (h1 : Val p x k) (h2 : Val p y l) : feq x y = decide (k = l) := by
  by_cases h : k = l
  · subst h; rw [feq_val h1 h2, decide_eq_true rfl]
  · rw [feq_ne h1 h2 h, decide_eq_false h]
theorem fle_dec {p : Nat} {x y : Fl} {k l : Int} (h1 : Val p x k) (h2 : Val p y l) : fle x y = decide (k ≤ l) := by
  unfold fle
  rw [fcmp_val h1 h2]
  show (some (compareOfLessAndEq k l) == some Ordering.lt || some (compareOfLessAndEq k l) == some Ordering.eq) = _
  unfold compareOfLessAndEq
  by_cases h : k < l
  · rw [if_pos h, decide_eq_true (by omega)]; rfl
  · rw [if_neg h]
    by_cases h' : k = l
    · rw [if_pos h', decide_eq_true (by omega)]; rfl
    · rw [if_neg h', decide_eq_false (by omega)]; rfl
theorem fge_dec {p : Nat} {x y : Fl} {k l : Int} (h1 : Val p x k) (h2 : Val p y l) : fge x y = decide (l ≤ k) := by
  unfold fge
  rw [fcmp_val h1 h2]
  show (some (compareOfLessAndEq k l) == some Ordering.gt || some (compareOfLessAndEq k l) == some Ordering.eq) = _
  unfold compareOfLessAndEq
  by_cases h : k < l
  · rw [if_pos h, decide_eq_false (by omega)]; rfl
  · rw [if_neg h]
    by_cases h' : k = l
    · rw [if_pos h', decide_eq_true (by omega)]; rfl
    · rw [if_neg h', decide_eq_true (by omega)]; rfl
/-! ### Floats that are written as the format writes them; tables -/
theorem bnd_eq {α β : Type} {o : Option α} {a : α} {f : α → Option β} {r : Option β} (h : o = some a) (h2 : f a = r) : o.bind f = r := by subst h; exact h2
theorem ite_eq {α : Type} {c : Prop} [Decidable c] {x y r : α} (h : c) (k : x = r) : ite c x y = r := by rw [if_pos h]; exact k
theorem ite_eqN {α : Type} {c : Prop} [Decidable c] {x y r : α} (h : ¬ c) (k : y = r) : ite c x y = r := by rw [if_neg h]; exact k
/-- bits that a word has room for -/
def Cn (x : Fl) : Prop := ∃ b, x = .bits b ∧ b < 18446744073709551616
/-- bits of a number that isn't nought are told by what it stands for -/
theorem val_inj {p : Nat} {x y : Fl} {k : Int} (h1 : Val p x k) (h2 : Val p y k) (c1 : Cn x) (c2 : Cn y) (hk : k ≠ 0) : x = y := by
  obtain ⟨a, s, m, i, rfl, r1, hi, v1⟩ := h1
  obtain ⟨b, t, n, j, rfl, r2, hj, v2⟩ := h2
  obtain ⟨a', ea, ha⟩ := c1
  obtain ⟨b', eb, hb⟩ := c2
  cases ea; cases eb
  have hP := pow_pos_i (1074 - p)
  have hv : sg s (m * 2 ^ (i + 1074).toNat) = sg t (n * 2 ^ (j + 1074).toNat) := v1.trans v2.symm
  have hv0 : sg s (m * 2 ^ (i + 1074).toNat) ≠ 0 := by
    rw [v1]; intro h
    rcases Int.mul_eq_zero.1 h with h | h
    · exact hk h
    · omega
  have hm : m * 2 ^ (i + 1074).toNat = n * 2 ^ (j + 1074).toNat := by
    have := congrArg Int.natAbs hv
    unfold sg at this
    split at this <;> split at this <;> omega
  have hs : s = t := by
    have q1 : (0 : Int) ≤ ((m * 2 ^ (i + 1074).toNat : Nat) : Int) := Int.natCast_nonneg _
    rw [hm] at hv hv0 q1
    unfold sg at hv hv0
    generalize hX : ((n * 2 ^ (j + 1074).toNat : Nat) : Int) = X at *
    cases s <;> cases t <;> simp only [Bool.false_eq_true, if_false, if_true] at hv hv0 <;> first | rfl | (exfalso; omega)
  rw [read_eq] at r1 r2
  have two : ∀ A B : Nat, A < B → ∀ u v : Nat, v * 2 ^ B = (2 * (v * 2 ^ (B - A - 1))) * 2 ^ A := by
    intro A B h u v
    rw [Nat.mul_comm 2, Nat.mul_assoc v, ← Nat.pow_succ, Nat.mul_assoc, ← Nat.pow_add]
    congr 2; omega
  have fin : ∀ A B u v : Nat, u < 9007199254740992 → (A < B → 4503599627370496 ≤ v) → A < B → u * 2 ^ A = v * 2 ^ B → False := by
    intro A B u v h1 h2 h e
    rw [two A B h u v] at e
    have e' := Nat.eq_of_mul_eq_mul_right (Nat.two_pow_pos A) e
    have h3 := h2 h
    have h4 : v * 1 ≤ v * 2 ^ (B - A - 1) := Nat.mul_le_mul_left _ (Nat.two_pow_pos _)
    omega
  have key : ∀ w : Nat, ∀ z q e, (if w % 9223372036854775808 < 4503599627370496 then Ieee.Datum.number (w / 9223372036854775808 % 2 == 1) (w % 9223372036854775808) (-1074)
    else if w % 9223372036854775808 < 9218868437227405312 then .number (w / 9223372036854775808 % 2 == 1) (4503599627370496 + w % 9223372036854775808 % 4503599627370496) (-1074 + ((w % 9223372036854775808 / 4503599627370496 - 1 : Nat) : Int))
    else if w % 9223372036854775808 = 9218868437227405312 then .infinity (w / 9223372036854775808 % 2 == 1) else .nan (w / 9223372036854775808 % 2 == 1) (w % 9223372036854775808 - 9218868437227405312)) = .number z q e →
      z = (w / 9223372036854775808 % 2 == 1) ∧ q < 9007199254740992 ∧ (0 < (e + 1074).toNat → 4503599627370496 ≤ q) ∧ w % 9223372036854775808 = (if q < 4503599627370496 then q else (e + 1074).toNat * 4503599627370496 + q) := by
    intro w z q e h
    split at h
    · cases h
      exact ⟨rfl, by omega, by omega, by rw [if_pos (by omega)]⟩
    · split at h
      · cases h
        refine ⟨rfl, by omega, by omega, ?_⟩
        rw [if_neg (by omega)]
        omega
      · split at h <;> cases h
  obtain ⟨z1, q1, n1, w1⟩ := key _ _ _ _ r1
  obtain ⟨z2, q2, n2, w2⟩ := key _ _ _ _ r2
  have hA : (i + 1074).toNat = (j + 1074).toNat := by
    rcases Nat.lt_trichotomy (i + 1074).toNat (j + 1074).toNat with h | h | h
    · exact (fin _ _ m n q1 (fun h => n2 (by omega)) h hm).elim
    · exact h
    · exact (fin _ _ n m q2 (fun h => n1 (by omega)) h hm.symm).elim
  rw [hA] at hm w1
  have hmn := Nat.eq_of_mul_eq_mul_right (Nat.two_pow_pos _) hm
  subst hmn
  have hw : a % 9223372036854775808 = b % 9223372036854775808 := w1.trans w2.symm
  have hz : (a / 9223372036854775808 % 2 == 1) = (b / 9223372036854775808 % 2 == 1) := by rw [← z1, ← z2, hs]
  have hz' : a / 9223372036854775808 % 2 = b / 9223372036854775808 % 2 := by
    rcases Nat.mod_two_eq_zero_or_one (a / 9223372036854775808) with h | h <;> rcases Nat.mod_two_eq_zero_or_one (b / 9223372036854775808) with h' | h' <;> rw [h, h'] at hz <;> first | omega | exact absurd hz (by decide)
  congr 1
  omega
theorem val_zero {p : Nat} {x : Fl} (h : Val p x 0) (c : Cn x) : x = .bits 0 ∨ x = .bits 9223372036854775808 := by
  obtain ⟨a, s, m, i, rfl, r1, hi, v1⟩ := h
  obtain ⟨a', ea, ha⟩ := c
  cases ea
  have hm : m = 0 := by
    rw [Int.zero_mul] at v1
    have : m * 2 ^ (i + 1074).toNat = 0 := by
      unfold sg at v1; split at v1 <;> omega
    rcases Nat.mul_eq_zero.1 this with h | h
    · exact h
    · have := Nat.two_pow_pos (i + 1074).toNat; omega
  subst hm
  rw [read_eq] at r1
  split at r1
  · injection r1 with _ r2 _
    have : a = 0 ∨ a = 9223372036854775808 := by omega
    rcases this with rfl | rfl
    · exact .inl rfl
    · exact .inr rfl
  · split at r1
    · injection r1 with _ r2 _
      omega
    · split at r1 <;> cases r1
/-- what writes a number has room -/
theorem nearest_lt (neg : Bool) (mag : Nat) (place : Int) : Ieee.double.nearest neg mag place < 18446744073709551616 := by
  by_cases h : mag = 0
  · subst h
    have : Ieee.double.nearest neg 0 place = Ieee.double.word neg 0 := rfl
    rw [this, word_eq]; split <;> omega
  · rw [nearest_eq neg place h, word_eq]
    have := Nat.min_le_right ((max (place + mag.log2 - 52) (-1074) - (-1074)).toNat * 4503599627370496 + Ieee.Toward.even.cut neg (mag <<< (place - max (place + mag.log2 - 52) (-1074)).toNat) (max (place + mag.log2 - 52) (-1074) - place).toNat) 9218868437227405312
    split <;> omega
theorem fofi_cn (k : Int) : Cn (fofi k) := ⟨_, rfl, nearest_lt _ _ _⟩
theorem fadd_cn {p q : Nat} {x y : Fl} {k l : Int} (h1 : Val p x k) (h2 : Val q y l) : Cn (fadd x y) := by
  obtain ⟨a, s, m, i, rfl, r1, hi, v1⟩ := h1
  obtain ⟨b, t, n, j, rfl, r2, hj, v2⟩ := h2
  have hd : ∃ d, (Ieee.Datum.number s m i).sum (.number t n j) = some d ∧ Ieee.double.write d < 18446744073709551616 := ⟨_, rfl, nearest_lt _ _ _⟩
  obtain ⟨d, e1, e2⟩ := hd
  have : fadd (.bits a) (.bits b) = .bits (Ieee.double.write d) := by
    show farith .add _ _ = _
    have : floatBits .add .f64 a b = some (Ieee.double.write d) := by
      show Ieee.double.add a b = _
      unfold Ieee.Format.add
      rw [r1, r2, e1]; rfl
    simp only [farith, this]
  rw [this]; exact ⟨_, rfl, e2⟩
theorem fneg_cn {x : Fl} (h : Cn x) : Cn (fneg x) := by
  obtain ⟨a, rfl, ha⟩ := h
  refine ⟨a ^^^ 2 ^ 63, rfl, ?_⟩
  exact Nat.xor_lt_two_pow (n := 64) ha (by decide)
/-! ### math.Abs, math.Ldexp, math.Trunc on numbers that are not rounded -/
theorem wu64 {x : Int} (h0 : 0 ≤ x) (h1 : x < 18446744073709551616) : IntKind.u64.wrap x = x := by
  simp [IntKind.wrap, IntKind.bits, IntKind.signed, IntKind.min, IntKind.max]
  omega
theorem iandn_u64 {b c : Nat} (hb : b < 18446744073709551616) (hc : c < 18446744073709551616) : iandn .u64 (b : Int) (c : Int) = ((b &&& (18446744073709551615 - c) : Nat) : Int) := by
  unfold iandn
  have hle : b &&& (18446744073709551615 - c) ≤ b := Nat.and_le_left
  rw [BitVec.toNat_and, BitVec.toNat_not, show IntKind.u64.bits = 64 from rfl, ofInt_toNat, ofInt_toNat, Nat.mod_eq_of_lt (by omega), Nat.mod_eq_of_lt (by omega)]
  show IntKind.u64.wrap ((b &&& (18446744073709551615 - c) : Nat) : Int) = _
  rw [wu64 (by omega) (by omega)]
theorem ior_u64 {b c : Nat} (hb : b < 18446744073709551616) (hc : c < 18446744073709551616) : ior .u64 (b : Int) (c : Int) = ((b ||| c : Nat) : Int) := by
  unfold ior
  have hle : b ||| c < 2 ^ 64 := Nat.or_lt_two_pow (by omega) (by omega)
  rw [BitVec.toNat_or, show IntKind.u64.bits = 64 from rfl, ofInt_toNat, ofInt_toNat, Nat.mod_eq_of_lt (by omega), Nat.mod_eq_of_lt (by omega), wu64 (by omega) (by omega)]
theorem and_low63 (b : Nat) : b &&& 9223372036854775807 = b % 9223372036854775808 := Nat.and_two_pow_sub_one_eq_mod b 63
theorem mask_exp {b : Nat} (hb : b < 18446744073709551616) : b &&& 9227875636482146303 = b / 9223372036854775808 * 9223372036854775808 + b % 4503599627370496 := by
  have e : 9227875636482146303 = 2 ^ 63 * 1 + (2 ^ 52 - 1) := by decide
  have h2 : b % 2 ^ 52 < 2 ^ 63 := by omega
  rw [e, show b / 9223372036854775808 * 9223372036854775808 + b % 4503599627370496 = 2 ^ 63 * (b / 2 ^ 63) + b % 2 ^ 52 by omega]
  apply Nat.eq_of_testBit_eq
  intro j
  rw [Nat.testBit_and, Nat.testBit_two_pow_mul_add _ h2, Nat.testBit_two_pow_mul_add _ (show 2 ^ 52 - 1 < 2 ^ 63 by decide)]
  by_cases hj : j < 63
  · rw [if_pos hj, if_pos hj, Nat.testBit_two_pow_sub_one, Nat.testBit_mod_two_pow, Bool.and_comm]
  · rw [if_neg hj, if_neg hj, Nat.testBit_div_two_pow, show j - 63 + 63 = j by omega]
    by_cases hz : j = 63
    · subst hz; simp
    · rw [Nat.testBit_lt_two_pow (Nat.lt_of_lt_of_le (show b < 2 ^ 64 by omega) (Nat.pow_le_pow_right (by decide) (by omega)))]; rfl
theorem or_exp (S F E : Nat) (hF : F < 4503599627370496) (hE : E < 2048) : (S * 9223372036854775808 + F) ||| (E * 4503599627370496) = S * 9223372036854775808 + E * 4503599627370496 + F := by
  have p52 : (2 : Nat) ^ 52 = 4503599627370496 := by decide
  have p63 : (2 : Nat) ^ 63 = 9223372036854775808 := by decide
  have l1 := Nat.shiftLeft_add_eq_or_of_lt (i := 63) (b := F) (by omega) S
  have l2 := Nat.shiftLeft_add_eq_or_of_lt (i := 52) (b := F) (by omega) (S * 2048 + E)
  have l3 := Nat.shiftLeft_add_eq_or_of_lt (i := 63) (b := E * 4503599627370496) (by omega) S
  rw [Nat.shiftLeft_eq] at l1 l2 l3
  rw [p63] at l1 l3
  rw [p52] at l2
  have he : S * 9223372036854775808 + E * 4503599627370496 = (S * 2048 + E) * 4503599627370496 := by rw [Nat.add_mul, Nat.mul_assoc]
  rw [l1, Nat.or_assoc, Nat.or_comm F, ← Nat.or_assoc, ← l3, he]
  exact l2.symm
theorem fbits_bits (b : Nat) : fbits (.bits b) = some (b : Int) := rfl
theorem abs_bits {b : Nat} (hb : b < 18446744073709551616) : f_math_Abs (.bits b) = some (.bits (b % 9223372036854775808)) := by
  unfold f_math_Abs
  rw [fbits_bits, Option.bind_some, show (9223372036854775808 : Int) = ((9223372036854775808 : Nat) : Int) from rfl, iandn_u64 hb (by decide), Int.toNat_natCast]
  rw [show 18446744073709551615 - 9223372036854775808 = 9223372036854775807 from rfl, and_low63]
theorem abs_val {p : Nat} {x : Fl} {k : Int} (h : Val p x k) (c : Cn x) : ∃ y, f_math_Abs x = some y ∧ Val p y (k.natAbs : Int) ∧ Cn y := by
  obtain ⟨b, s, m, e, rfl, r1, he, v⟩ := h
  obtain ⟨b', eb, hb⟩ := c
  cases eb
  refine ⟨_, abs_bits hb, ⟨b % 9223372036854775808, false, m, e, rfl, ?_, he, ?_⟩, _, rfl, by omega⟩
  · rw [read_eq] at r1 ⊢
    have w1 : b % 9223372036854775808 % 9223372036854775808 = b % 9223372036854775808 := by omega
    have w2 : (b % 9223372036854775808 / 9223372036854775808 % 2 == 1) = false := by rw [show b % 9223372036854775808 / 9223372036854775808 = 0 by omega]; rfl
    rw [w1, w2]
    split at r1
    · rename_i hc; rw [if_pos hc]; cases r1; rfl
    · rename_i hc
      split at r1
      · rename_i hc2; rw [if_neg hc, if_pos hc2]; cases r1; rfl
      · split at r1 <;> cases r1
  · have hP := pow_pos_i (1074 - p)
    have := congrArg Int.natAbs v
    rw [Int.natAbs_mul, Int.natAbs_natCast, sg_natAbs] at this
    simp only [sg, Bool.false_eq_true, if_false]
    rw [this, Int.natCast_mul]
theorem val_le {p q : Nat} {x : Fl} {k : Int} (h : Val p x k) (hpq : p ≤ q) (hq : q ≤ 1074) : Val q x (k * ((2 ^ (q - p) : Nat) : Int)) := by
  have := val_scale (d := q - p) h (by omega)
  rwa [show p + (q - p) = q by omega] at this
theorem least_val : Val 1022 (Fl.bits 4503599627370496) 1 := ⟨_, false, 4503599627370496, -1074, rfl, by decide, by decide, by decide⟩
theorem most_val : Val 0 (Fl.bits 9218868437227405311) (9007199254740991 * 2 ^ 971) := ⟨_, false, 9007199254740991, 971, rfl, by decide +kernel, by decide, by decide +kernel⟩
theorem one_val : Val 0 (Fl.bits 4607182418800017408) 1 := ⟨_, false, 4503599627370496, -52, rfl, by decide, by decide, by decide +kernel⟩
theorem isnan_val {p : Nat} {x : Fl} {k : Int} (h : Val p x k) : f_math_IsNaN x = some false := by
  unfold f_math_IsNaN fne
  rw [fcmp_val h h]
  congr 1
  show (some (compareOfLessAndEq k k) != some Ordering.eq) = false
  unfold compareOfLessAndEq
  rw [if_neg (by omega), if_pos rfl]; rfl
theorem isinf_val {p : Nat} {x : Fl} {k : Int} (h : Val p x k) (c : Cn x) (hp : p ≤ 800) (hk : k.natAbs < 9007199254740992) : f_math_IsInf x 0 = some false := by
  unfold f_math_IsInf
  rw [if_pos (by decide)]
  obtain ⟨y, e1, v1, _⟩ := abs_val h c
  rw [e1, Option.bind_some]
  congr 1
  rw [fgt_val v1 (val_le most_val (Nat.zero_le p) (by omega))]
  rw [decide_eq_false_iff_not]
  have p1 := pow_pos_i (p - 0)
  have : (9007199254740991 : Int) * 2 ^ 971 * 1 ≤ 9007199254740991 * 2 ^ 971 * ((2 ^ (p - 0) : Nat) : Int) := Int.mul_le_mul_of_nonneg_left (by omega) (by decide +kernel)
  have h2 : (9007199254740992 : Int) ≤ 9007199254740991 * 2 ^ 971 := by decide +kernel
  generalize (9007199254740991 : Int) * 2 ^ 971 = X at *
  generalize X * ((2 ^ (p - 0) : Nat) : Int) = Y at *
  omega
theorem norm_val {p : Nat} {x : Fl} {k : Int} (h : Val p x k) (c : Cn x) (hp : p ≤ 800) (hk0 : k ≠ 0) : f_math_normalize x = some (x, 0) := by
  unfold f_math_normalize
  obtain ⟨y, e1, v1, _⟩ := abs_val h c
  rw [e1, Option.bind_some, if_neg]
  rw [show flt y (Fl.bits 4503599627370496) = false from ?_]
  · decide
  · unfold flt
    rw [fcmp_val (val_le v1 (show p ≤ 1022 by omega) (by decide)) least_val]
    have p1 := pow_pos_i (1022 - p)
    have : (1 : Int) * ((2 ^ (1022 - p) : Nat) : Int) ≤ (k.natAbs : Int) * ((2 ^ (1022 - p) : Nat) : Int) := Int.mul_le_mul_of_nonneg_right (by omega) (by omega)
    generalize (k.natAbs : Int) * ((2 ^ (1022 - p) : Nat) : Int) = X at *
    show (some (compareOfLessAndEq X 1) == some Ordering.lt) = false
    unfold compareOfLessAndEq
    rw [if_neg (by omega)]
    split <;> rfl
theorem ldexp_val {p : Nat} {x : Fl} {k : Int} (h : Val p x k) (c : Cn x) (hp : p ≤ 20) (hk : k.natAbs < 1099511627776) : ∃ y, f_math_Ldexp x 6 = some y ∧ Val p y (k * 64) := by
  unfold f_math_Ldexp f_math_ldexp
  by_cases h0 : k = 0
  · subst h0
    rw [if_pos (feq_val h (zero_val p)), Option.bind_some]
    exact ⟨_, rfl, h⟩
  rw [if_neg (by rw [feq_ne h (zero_val p) h0]; decide), isinf_val h c (by omega) (by omega), Option.bind_some, if_neg (by decide), isnan_val h, Option.bind_some, Option.bind_some, if_neg (by decide), norm_val h c (by omega) h0, Option.bind_some]
  obtain ⟨b, s, m, e, rfl, r1, he, v⟩ := h
  obtain ⟨b', eb, hb⟩ := c
  cases eb
  rw [fbits_bits, Option.bind_some]
  have hm0 : m * 2 ^ (e + 1074).toNat = k.natAbs * 2 ^ (1074 - p) := by
    have := congrArg Int.natAbs v
    rwa [Int.natAbs_mul, Int.natAbs_natCast, sg_natAbs] at this
  have r0 := r1
  rw [read_eq] at r1
  have big : ¬ b % 9223372036854775808 < 4503599627370496 := by
    intro hc
    rw [if_pos hc] at r1
    cases r1
    have : 1 * 2 ^ 1054 ≤ k.natAbs * 2 ^ (1074 - p) := Nat.mul_le_mul (by omega) (Nat.pow_le_pow_right (by decide) (by omega))
    rw [← hm0] at this
    have h52 : (4503599627370496 : Nat) < 1 * 2 ^ 1054 := by decide +kernel
    simp only [show (-1074 + 1074 : Int).toNat = 0 from rfl, Nat.pow_zero, Nat.mul_one] at this
    generalize (1 * 2 ^ 1054 : Nat) = X at *
    omega
  rw [if_neg big] at r1
  have fin : b % 9223372036854775808 < 9218868437227405312 := by
    apply Decidable.byContradiction
    intro hc
    rw [if_neg hc] at r1
    split at r1 <;> cases r1
  rw [if_pos fin] at r1
  injection r1 with hs hm hee
  generalize hE : b % 9223372036854775808 / 4503599627370496 = E at *
  have hE1 : 1 ≤ E := by omega
  have hE2 : E ≤ 2040 := by
    apply Decidable.byContradiction
    intro hc
    have hx : (e + 1074).toNat = E - 1 := by omega
    rw [hx] at hm0
    have a1 : 2 ^ 52 * 2 ^ 2039 ≤ m * 2 ^ (E - 1) := Nat.mul_le_mul (by omega) (Nat.pow_le_pow_right (by decide) (by omega))
    have a2 : k.natAbs * 2 ^ (1074 - p) ≤ 2 ^ 40 * 2 ^ 1074 := Nat.mul_le_mul (by omega) (Nat.pow_le_pow_right (by decide) (by omega))
    rw [hm0] at a1
    have a3 : (2 : Nat) ^ 40 * 2 ^ 1074 < 2 ^ 52 * 2 ^ 2039 := by decide +kernel
    omega
  have hexp : (iand .i64 (IntKind.i64.wrap (ishr .u64 (b : Int) 52)) 2047) = (E : Int) := by
    rw [show (52 : Int) = ((52 : Nat) : Int) from rfl, ishr_nat (by decide), w64 (by omega) (by omega), show (2047 : Int) = ((2047 : Nat) : Int) from rfl, iand64 (by omega) (by decide)]
    rw [show (2047 : Nat) = 2 ^ 11 - 1 from rfl, Nat.and_two_pow_sub_one_eq_mod]
    congr 1
    omega
  simp only [hexp]
  have e1 : IntKind.i64.wrap ((E : Int) - 1023) = (E : Int) - 1023 := w64 (by omega) (by omega)
  have e2 : IntKind.i64.wrap ((6 : Int) + 0) = 6 := by decide
  have e3 : IntKind.i64.wrap (6 + ((E : Int) - 1023)) = (E : Int) - 1017 := by rw [w64 (by omega) (by omega)]; omega
  simp only [e1, e2, e3]
  rw [if_neg (by rw [decide_eq_true_eq]; omega), if_neg (by rw [decide_eq_true_eq]; omega), if_neg (by rw [decide_eq_true_eq]; omega)]
  unfold f_math_ldexp.j1
  refine ⟨_, rfl, ?_⟩
  have e4 : IntKind.u64.wrap (IntKind.i64.wrap ((E : Int) - 1017 + 1023)) = ((E + 6 : Nat) : Int) := by rw [w64 (by omega) (by omega), wu64 (by omega) (by omega)]; omega
  have e5 : ishl .u64 ((E + 6 : Nat) : Int) 52 = (((E + 6) * 4503599627370496 : Nat) : Int) := by
    unfold ishl
    rw [show min (52 : Int).toNat IntKind.u64.bits = 52 from rfl, show (2 : Int) ^ 52 = 4503599627370496 from rfl, wu64 (by omega) (by omega)]; omega
  have hS : b / 9223372036854775808 ≤ 1 := by omega
  rw [e4, e5, show (9218868437227405312 : Int) = ((9218868437227405312 : Nat) : Int) from rfl, iandn_u64 hb (by decide), show 18446744073709551615 - 9218868437227405312 = 9227875636482146303 from rfl, mask_exp hb, ior_u64 (by omega) (by omega), or_exp _ _ _ (by omega) (by omega), Int.toNat_natCast]
  generalize hb2 : b / 9223372036854775808 * 9223372036854775808 + (E + 6) * 4503599627370496 + b % 4503599627370496 = b2
  have rd : Ieee.double.read b2 = .number s m (e + 6) := by
    rw [read_eq, if_neg (by omega), if_pos (by omega)]
    congr 1
    · rw [← hs]; congr 2; omega
    · omega
    · omega
  have v2 : Val p (.bits b2) (k * 64) := ⟨b2, s, m, e + 6, rfl, rd, by omega, by
    rw [show (e + 6 + 1074).toNat = (e + 1074).toNat + 6 by omega, Nat.pow_add, ← Nat.mul_assoc, sg_mul, v]
    generalize ((2 ^ (1074 - p) : Nat) : Int) = X
    rw [show ((2 ^ 6 : Nat) : Int) = 64 from rfl, Int.mul_assoc, Int.mul_comm X, Int.mul_assoc]⟩
  have := fmul_val one_val v2 (by omega) (by omega)
  rwa [Int.one_mul, Nat.zero_add] at this
/-- a whole number, cut -/
theorem trunc_val {p : Nat} {x : Fl} {K : Int} (hp : p ≤ 800) (h : Val p x (K * ((2 ^ p : Nat) : Int))) (hK : K.natAbs < 9007199254740992) : Val 0 (fint .zero x) K := by
  obtain ⟨b, s, m, e, rfl, r1, he, v⟩ := h
  rw [fint_num _ r1]
  have v' : sg s (m * 2 ^ (e + 1074).toNat) = K * ((2 ^ 1074 : Nat) : Int) := by
    rw [v, Int.mul_assoc, ← Int.natCast_mul, ← Nat.pow_add]
    congr 4; omega
  have hm : m * 2 ^ (e + 1074).toNat = K.natAbs * 2 ^ 1074 := by
    have := congrArg Int.natAbs v'
    rwa [Int.natAbs_mul, Int.natAbs_natCast, sg_natAbs] at this
  rw [cut_zero]
  have hc : m * 2 ^ e.toNat / 2 ^ (-e).toNat = K.natAbs := by
    apply Nat.div_eq_of_eq_mul_left (Nat.two_pow_pos _)
    apply Nat.eq_of_mul_eq_mul_right (Nat.two_pow_pos (1074 - (-e).toNat))
    rw [Nat.mul_assoc, ← Nat.pow_add, Nat.mul_assoc, ← Nat.pow_add, show e.toNat + (1074 - (-e).toNat) = (e + 1074).toNat by omega, show (-e).toNat + (1074 - (-e).toNat) = 1074 by omega, hm]
  rw [hc]
  have := whole_val s hK
  have hsg : K = 0 ∨ sg s K.natAbs = K := by
    have hP := Nat.two_pow_pos 1074
    rw [hm, sg_mul] at v'
    right
    exact Int.eq_of_mul_eq_mul_right (a := ((2 ^ 1074 : Nat) : Int)) (by omega) v'
  rcases hsg with h0 | h0
  · subst h0
    have h2 : sg s (0 : Int).natAbs = 0 := by cases s <;> rfl
    rwa [h2] at this
  · rwa [h0] at this
/-- strait.of: a number of 2^-p at most so large -/
theorem of_ok {p : Nat} {x most : Fl} {k M : Int} (h : Val p x k) (c : Cn x) (hp : p ≤ 6) (hk : k.natAbs < 1099511627776) (hm : Val p most M) (hkM : (k.natAbs : Int) ≤ M) : f_strait_of x 6 most = some true := by
  unfold f_strait_of
  obtain ⟨y, e1, v1⟩ := ldexp_val h c (by omega) hk
  obtain ⟨a, e2, v2, _⟩ := abs_val h c
  rw [e1, Option.bind_some, e2, Option.bind_some, fle_dec v2 hm, if_pos (by rw [decide_eq_true_eq]; exact hkM)]
  unfold f_math_Trunc
  rw [Option.bind_some, Option.bind_some]
  have hr : k * 64 = k * ((2 ^ (6 - p) : Nat) : Int) * ((2 ^ p : Nat) : Int) := by
    rw [Int.mul_assoc, ← Int.natCast_mul, ← Nat.pow_add, show 6 - p + p = 6 by omega]; rfl
  rw [hr] at v1
  have hP : (2 ^ (6 - p) : Nat) ≤ 2 ^ 6 := Nat.pow_le_pow_right (by decide) (by omega)
  have hb : (k * ((2 ^ (6 - p) : Nat) : Int)).natAbs < 9007199254740992 := by
    rw [Int.natAbs_mul, Int.natAbs_natCast]
    have : k.natAbs * 2 ^ (6 - p) ≤ k.natAbs * 2 ^ 6 := Nat.mul_le_mul_left _ hP
    omega
  have t := trunc_val (by omega) v1 hb
  have t' := val_le t (Nat.zero_le p) (by omega)
  rw [Nat.sub_zero] at t'
  rw [feq_val t' v1]
/-- pulse.plain: the same by a product -/
theorem plain_ok {p : Nat} {x most : Fl} {k M : Int} (h : Val p x k) (c : Cn x) (hp : p ≤ 6) (hk : k.natAbs < 1099511627776) (hm : Val p most M) (hkM : (k.natAbs : Int) ≤ M) : f_pulse_plain x most = some true := by
  unfold f_pulse_plain
  obtain ⟨a, e2, v2, _⟩ := abs_val h c
  rw [e2, Option.bind_some, fle_dec v2 hm, if_pos (by rw [decide_eq_true_eq]; exact hkM)]
  unfold f_math_Trunc
  rw [Option.bind_some, Option.bind_some]
  have v64 : Val 0 (Fl.bits 4634204016564240384) 64 := ⟨_, false, 4503599627370496, -46, rfl, by decide, by decide, by decide +kernel⟩
  have v1 := fmul_val h v64 (by omega) (by omega)
  rw [Nat.add_zero] at v1
  have hr : k * 64 = k * ((2 ^ (6 - p) : Nat) : Int) * ((2 ^ p : Nat) : Int) := by
    rw [Int.mul_assoc, ← Int.natCast_mul, ← Nat.pow_add, show 6 - p + p = 6 by omega]; rfl
  rw [hr] at v1
  have hP : (2 ^ (6 - p) : Nat) ≤ 2 ^ 6 := Nat.pow_le_pow_right (by decide) (by omega)
  have hb : (k * ((2 ^ (6 - p) : Nat) : Int)).natAbs < 9007199254740992 := by
    rw [Int.natAbs_mul, Int.natAbs_natCast]
    have : k.natAbs * 2 ^ (6 - p) ≤ k.natAbs * 2 ^ 6 := Nat.mul_le_mul_left _ hP
    omega
  have t := trunc_val (by omega) v1 hb
  have t' := val_le t (Nat.zero_le p) (by omega)
  rw [Nat.sub_zero] at t'
  rw [feq_val t' v1]
/-! ### Pairs of whole numbers, their sums -/
def Bn (C u : Int) : Prop := -C ≤ u ∧ u ≤ C
abbrev Z2 := Int × Int
def cm (a b : Z2) : Z2 := (a.1 * b.1 - a.2 * b.2, a.1 * b.2 + a.2 * b.1)
def ca (a b : Z2) : Z2 := (a.1 + b.1, a.2 + b.2)
def sc (t : Int) (z : Z2) : Z2 := (t * z.1, t * z.2)
def zs (f : Nat → Z2) : Nat → Z2
  | 0 => (0, 0)
  | k + 1 => ca (zs f k) (f k)
def sN (a : Nat → Nat) : Nat → Nat
  | 0 => 0
  | k + 1 => sN a k + a k
theorem z_ext {a b : Z2} (h1 : a.1 = b.1) (h2 : a.2 = b.2) : a = b := Prod.ext h1 h2
theorem ca_zero (a : Z2) : ca a (0, 0) = a := z_ext (Int.add_zero _) (Int.add_zero _)
theorem ca_four (a b c d : Z2) : ca (ca a b) (ca c d) = ca (ca a c) (ca b d) := z_ext (by simp only [ca]; omega) (by simp only [ca]; omega)
theorem ca_swap (a b c : Z2) : ca (ca a b) c = ca (ca a c) b := z_ext (by simp only [ca]; omega) (by simp only [ca]; omega)
theorem cm_ca (c a b : Z2) : cm c (ca a b) = ca (cm c a) (cm c b) := z_ext (by simp only [ca, cm]; grind) (by simp only [ca, cm]; grind)
theorem sc_ca (t : Int) (a b : Z2) : sc t (ca a b) = ca (sc t a) (sc t b) := z_ext (by simp only [ca, sc]; grind) (by simp only [ca, sc]; grind)
theorem zs_congr {f g : Nat → Z2} : ∀ {k}, (∀ i, i < k → f i = g i) → zs f k = zs g k
  | 0, _ => rfl
  | k + 1, h => by simp only [zs]; rw [zs_congr fun i hi => h i (by omega), h k (by omega)]
theorem zs_zero : ∀ k, zs (fun _ => (0, 0)) k = (0, 0)
  | 0 => rfl
  | k + 1 => by simp only [zs]; rw [zs_zero k]; rfl
theorem zs_ca (f g : Nat → Z2) : ∀ k, zs (fun i => ca (f i) (g i)) k = ca (zs f k) (zs g k)
  | 0 => rfl
  | k + 1 => by simp only [zs]; rw [zs_ca f g k, ca_four]
/-- one term more -/
theorem zs_upd {f g : Nat → Z2} {a : Nat} {v : Z2} (hf : f a = (0, 0)) (hg : g a = v) (he : ∀ i, i ≠ a → g i = f i) : ∀ {L}, a < L → zs g L = ca (zs f L) v
  | 0, h => by omega
  | L + 1, h => by
    simp only [zs]
    by_cases hL : L = a
    · subst hL
      rw [hf, hg, ca_zero, zs_congr fun i hi => he i (by omega)]
    · rw [zs_upd hf hg he (show a < L by omega), he L hL, ca_swap]
theorem zs_bd {f : Nat → Z2} {a : Nat → Nat} {B : Nat} : ∀ {L}, (∀ i, i < L → (f i).1.natAbs ≤ B * a i ∧ (f i).2.natAbs ≤ B * a i) → (zs f L).1.natAbs ≤ B * sN a L ∧ (zs f L).2.natAbs ≤ B * sN a L
  | 0, _ => ⟨Nat.zero_le _, Nat.zero_le _⟩
  | L + 1, h => by
    have i1 := zs_bd (L := L) fun i hi => h i (by omega)
    have i2 := h L (by omega)
    simp only [zs, sN, ca, Nat.mul_add]
    omega
/-- turned to the left, so often -/
def ru (u v : Int) : Nat → Int × Int
  | 0 => (u, v)
  | i + 1 => (-(ru u v i).2, (ru u v i).1)
theorem ru_mul (u v c d : Int) : ∀ r, (ru u v r).1 * c - (ru u v r).2 * d = (ru (u * c - v * d) (u * d + v * c) r).1 ∧ (ru u v r).1 * d + (ru u v r).2 * c = (ru (u * c - v * d) (u * d + v * c) r).2
  | 0 => ⟨rfl, rfl⟩
  | i + 1 => by
    obtain ⟨h1, h2⟩ := ru_mul u v c d i
    simp only [ru]
    rw [← h1, ← h2]
    constructor <;> grind
theorem ru_add (u v c d : Int) : ∀ r, (ru u v r).1 + (ru c d r).1 = (ru (u + c) (v + d) r).1 ∧ (ru u v r).2 + (ru c d r).2 = (ru (u + c) (v + d) r).2
  | 0 => ⟨rfl, rfl⟩
  | i + 1 => by
    obtain ⟨h1, h2⟩ := ru_add u v c d i
    simp only [ru]
    rw [← h1, ← h2]
    constructor <;> grind
def rz (r : Nat) (z : Z2) : Z2 := ru z.1 z.2 r
theorem rz_ca (a b : Z2) (r : Nat) : ca (rz r a) (rz r b) = rz r (ca a b) := z_ext (ru_add a.1 a.2 b.1 b.2 r).1 (ru_add a.1 a.2 b.1 b.2 r).2
theorem rz_zero : ∀ r, rz r (0, 0) = (0, 0)
  | 0 => rfl
  | r + 1 => by
    have := rz_zero r
    unfold rz at *
    simp only [ru]; rw [this]; rfl
theorem cm_comm (a b : Z2) : cm a b = cm b a := z_ext (by simp only [cm]; grind) (by simp only [cm]; grind)
theorem rz_cm (a b : Z2) (r : Nat) : cm a (rz r b) = rz r (cm a b) := by
  rw [cm_comm, cm_comm a b]
  exact z_ext (ru_mul b.1 b.2 a.1 a.2 r).1 (ru_mul b.1 b.2 a.1 a.2 r).2
theorem rz_sc (t : Int) (b : Z2) (r : Nat) : sc t (rz r b) = rz r (sc t b) := by
  have e : ∀ z : Z2, sc t z = cm (t, 0) z := fun z => z_ext (by simp [sc, cm]) (by simp [sc, cm])
  rw [e, e, rz_cm]
theorem zs_rz (f : Nat → Z2) (r : Nat) : ∀ k, zs (fun i => rz r (f i)) k = rz r (zs f k)
  | 0 => (rz_zero r).symm
  | k + 1 => by simp only [zs]; rw [zs_rz f r k, rz_ca]
theorem rz_abs {C : Nat} {z : Z2} (h1 : z.1.natAbs ≤ C) (h2 : z.2.natAbs ≤ C) : ∀ r, (rz r z).1.natAbs ≤ C ∧ (rz r z).2.natAbs ≤ C
  | 0 => ⟨h1, h2⟩
  | r + 1 => by
    obtain ⟨i1, i2⟩ := rz_abs h1 h2 r
    unfold rz at *
    simp only [ru]
    exact ⟨by omega, i1⟩
theorem mul_nab {x y : Int} {A B : Nat} (hx : x.natAbs ≤ A) (hy : y.natAbs ≤ B) : (x * y).natAbs ≤ A * B := by
  rw [Int.natAbs_mul]; exact Nat.mul_le_mul hx hy
/-! what is shaped: at (k, i) the points ahead of k are in, and of k the taps ahead of i -/
def shp (rate L : Nat) (T : Nat → Int) (Z : Nat → Z2) (k i j : Nat) : Z2 := zs (fun i' => if i' ≤ j ∧ (j - i') % rate = 0 ∧ ((j - i') / rate < k ∨ ((j - i') / rate = k ∧ i' < i)) then sc (T i') (Z ((j - i') / rate)) else (0, 0)) L
theorem shp_zero (rate L : Nat) (T : Nat → Int) (Z : Nat → Z2) (j : Nat) : shp rate L T Z 0 0 j = (0, 0) := by
  unfold shp
  rw [zs_congr (g := fun _ => (0, 0)) fun i hi => if_neg (by rintro ⟨_, _, h | h⟩; exact Nat.not_lt_zero _ h; exact Nat.not_lt_zero _ h.2), zs_zero]
theorem shp_here {rate L : Nat} (T : Nat → Int) (Z : Nat → Z2) {k i : Nat} (hr : 0 < rate) (hi : i < L) : shp rate L T Z k (i + 1) (k * rate + i) = ca (shp rate L T Z k i (k * rate + i)) (sc (T i) (Z k)) := by
  unfold shp
  refine zs_upd (a := i) ?_ ?_ (fun i' hi' => ?_) hi
  · rw [if_neg]
    rw [show k * rate + i - i = k * rate by omega, Nat.mul_div_cancel _ hr]
    omega
  · rw [show k * rate + i - i = k * rate by omega, Nat.mul_div_cancel _ hr, Nat.mul_mod_left, if_pos (by omega)]
  · congr 1
    apply propext
    constructor
    · rintro ⟨h1, h2, h3⟩; exact ⟨h1, h2, by omega⟩
    · rintro ⟨h1, h2, h3⟩; exact ⟨h1, h2, by omega⟩
theorem shp_other {rate L : Nat} (T : Nat → Int) (Z : Nat → Z2) {k i j : Nat} (hr : 0 < rate) (hj : j ≠ k * rate + i) : shp rate L T Z k (i + 1) j = shp rate L T Z k i j := by
  unfold shp
  refine zs_congr fun i' hi' => ?_
  congr 1
  apply propext
  constructor
  · rintro ⟨h1, h2, h3⟩
    refine ⟨h1, h2, ?_⟩
    rcases h3 with h3 | ⟨h3, h4⟩
    · exact .inl h3
    · right
      refine ⟨h3, ?_⟩
      have : i' ≠ i := by
        rintro rfl
        have := Nat.div_add_mod (j - i') rate
        rw [h3, h2, Nat.mul_comm] at this
        omega
      omega
  · rintro ⟨h1, h2, h3⟩; exact ⟨h1, h2, by omega⟩
theorem shp_row {rate L : Nat} (T : Nat → Int) (Z : Nat → Z2) (k j : Nat) : shp rate L T Z k L j = shp rate L T Z (k + 1) 0 j := by
  unfold shp
  refine zs_congr fun i' hi' => ?_
  congr 1
  apply propext
  constructor
  · rintro ⟨h1, h2, h3⟩; exact ⟨h1, h2, by omega⟩
  · rintro ⟨h1, h2, h3⟩; exact ⟨h1, h2, by omega⟩
theorem shp_bd {rate L : Nat} {T : Nat → Int} {Z : Nat → Z2} {n B : Nat} (hZ : ∀ k, k < n → (Z k).1.natAbs ≤ B ∧ (Z k).2.natAbs ≤ B) {k i : Nat} (hk : k < n ∨ (k = n ∧ i = 0)) (j : Nat) :
    (shp rate L T Z k i j).1.natAbs ≤ B * sN (fun i => (T i).natAbs) L ∧ (shp rate L T Z k i j).2.natAbs ≤ B * sN (fun i => (T i).natAbs) L := by
  unfold shp
  refine zs_bd fun i' hi' => ?_
  split
  · rename_i h
    have := hZ ((j - i') / rate) (by omega)
    exact ⟨by have := mul_nab (Nat.le_refl (T i').natAbs) this.1; rw [Nat.mul_comm B]; exact this, by have := mul_nab (Nat.le_refl (T i').natAbs) this.2; rw [Nat.mul_comm B]; exact this⟩
  · exact ⟨Nat.zero_le _, Nat.zero_le _⟩
theorem shp_ca (rate L : Nat) (T : Nat → Int) (X Y : Nat → Z2) (k i j : Nat) : shp rate L T (fun a => ca (X a) (Y a)) k i j = ca (shp rate L T X k i j) (shp rate L T Y k i j) := by
  unfold shp
  rw [← zs_ca]
  refine zs_congr fun i' hi' => ?_
  split
  · exact sc_ca _ _ _
  · rfl
theorem shp_rz (rate L : Nat) (T : Nat → Int) (X : Nat → Z2) (r k i j : Nat) : shp rate L T (fun a => rz r (X a)) k i j = rz r (shp rate L T X k i j) := by
  unfold shp
  rw [← zs_rz]
  refine zs_congr fun i' hi' => ?_
  split
  · exact rz_sc _ _ _
  · exact (rz_zero r).symm
/-! what comes through: at (k, i) the taps ahead of k are through with the row, k with its first i -/
def lim (nx k i k' : Nat) : Nat := if k' < k then nx else if k' = k then i else 0
def lyp (late apart nx L : Nat) (H X : Nat → Z2) (k i j : Nat) : Z2 := zs (fun k' => if late + k' * apart ≤ j ∧ j - (late + k' * apart) < lim nx k i k' then cm (H k') (X (j - (late + k' * apart))) else (0, 0)) L
theorem lyp_zero (late apart nx L : Nat) (H X : Nat → Z2) (j : Nat) : lyp late apart nx L H X 0 0 j = (0, 0) := by
  unfold lyp
  rw [zs_congr (g := fun _ => (0, 0)) fun i hi => if_neg (by unfold lim; rw [if_neg (by omega)]; split <;> omega), zs_zero]
theorem lyp_here {late apart nx L : Nat} (H X : Nat → Z2) {k i : Nat} (hk : k < L) : lyp late apart nx L H X k (i + 1) (late + k * apart + i) = ca (lyp late apart nx L H X k i (late + k * apart + i)) (cm (H k) (X i)) := by
  unfold lyp
  refine zs_upd (a := k) ?_ ?_ (fun k' hk' => ?_) hk
  · rw [if_neg]
    unfold lim
    rw [if_neg (by omega), if_pos rfl]; omega
  · rw [show late + k * apart + i - (late + k * apart) = i by omega, if_pos (by unfold lim; rw [if_neg (by omega), if_pos rfl]; omega)]
  · simp only [lim, hk', if_false]
theorem lyp_other {late apart nx L : Nat} (H X : Nat → Z2) {k i j : Nat} (hj : j ≠ late + k * apart + i) : lyp late apart nx L H X k (i + 1) j = lyp late apart nx L H X k i j := by
  unfold lyp
  refine zs_congr fun k' hk' => ?_
  by_cases h : k' = k
  · subst h
    simp only [lim, if_neg (show ¬ k' < k' by omega), if_true]
    congr 1
    apply propext
    omega
  · simp only [lim, h, if_false]
theorem lyp_row {late apart nx L : Nat} (H X : Nat → Z2) (k j : Nat) : lyp late apart nx L H X k nx j = lyp late apart nx L H X (k + 1) 0 j := by
  unfold lyp
  refine zs_congr fun k' hk' => ?_
  congr 2
  have : lim nx k nx k' = lim nx (k + 1) 0 k' := by
    unfold lim
    by_cases h1 : k' < k
    · rw [if_pos h1, if_pos (by omega)]
    · rw [if_neg h1]
      by_cases h2 : k' = k
      · rw [if_pos h2, if_pos (by omega)]
      · rw [if_neg h2, if_neg (by omega)]; split <;> rfl
  rw [this]
theorem cm_bd {a b : Z2} {A B : Nat} (h1 : a.1.natAbs ≤ A) (h2 : a.2.natAbs ≤ A) (h3 : b.1.natAbs ≤ B) (h4 : b.2.natAbs ≤ B) : (cm a b).1.natAbs ≤ 2 * (A * B) ∧ (cm a b).2.natAbs ≤ 2 * (A * B) := by
  have m1 := mul_nab h1 h3
  have m2 := mul_nab h2 h4
  have m3 := mul_nab h1 h4
  have m4 := mul_nab h2 h3
  simp only [cm]
  omega
theorem sN_one : ∀ L, sN (fun _ => 1) L = L
  | 0 => rfl
  | L + 1 => by simp only [sN]; rw [sN_one L]
theorem lyp_bd {late apart nx L : Nat} {H X : Nat → Z2} {A B : Nat} (hH : ∀ k, k < L → (H k).1.natAbs ≤ A ∧ (H k).2.natAbs ≤ A) (hX : ∀ i, i < nx → (X i).1.natAbs ≤ B ∧ (X i).2.natAbs ≤ B) {k i : Nat} (hi : i ≤ nx) (j : Nat) :
    (lyp late apart nx L H X k i j).1.natAbs ≤ 2 * (A * B) * L ∧ (lyp late apart nx L H X k i j).2.natAbs ≤ 2 * (A * B) * L := by
  unfold lyp
  have := zs_bd (f := fun k' => if late + k' * apart ≤ j ∧ j - (late + k' * apart) < lim nx k i k' then cm (H k') (X (j - (late + k' * apart))) else (0, 0)) (a := fun _ => 1) (B := 2 * (A * B)) (L := L) fun k' hk' => by
    split
    · rename_i h
      have hx := hX (j - (late + k' * apart)) (by
        have := h.2
        unfold lim at this
        split at this
        · exact this
        · split at this
          · omega
          · omega)
      have hh := hH k' hk'
      rw [Nat.mul_one]
      exact cm_bd hh.1 hh.2 hx.1 hx.2
    · exact ⟨Nat.zero_le _, Nat.zero_le _⟩
  rw [sN_one] at this
  exact this
theorem lyp_ca (late apart nx L : Nat) (H X Y : Nat → Z2) (k i j : Nat) : lyp late apart nx L H (fun a => ca (X a) (Y a)) k i j = ca (lyp late apart nx L H X k i j) (lyp late apart nx L H Y k i j) := by
  unfold lyp
  rw [← zs_ca]
  refine zs_congr fun i' hi' => ?_
  split
  · exact cm_ca _ _ _
  · rfl
theorem lyp_rz (late apart nx L : Nat) (H X : Nat → Z2) (r k i j : Nat) : lyp late apart nx L H (fun a => rz r (X a)) k i j = rz r (lyp late apart nx L H X k i j) := by
  unfold lyp
  rw [← zs_rz]
  refine zs_congr fun i' hi' => ?_
  split
  · exact rz_cm _ _ _
  · exact (rz_zero r).symm
/-! ### What the lists stand for -/
theorem gt_setG {α : Type} [Inhabited α] {L : List α} {i j : Nat} (hi : i < L.length) (hj : j < L.length) (v : α) : gt (L.set i v) (j : Int) = if i = j then v else gt L (j : Int) := by
  rw [gt_nat (by simpa using hj), gt_nat hj, List.getElem_set]
theorem gt_repl {α : Type} [Inhabited α] {n j : Nat} (h : j < n) (x : α) : gt (List.replicate n x) (j : Int) = x := by rw [gt_nat (by simpa using h)]; simp
theorem loop_ex {S R : Type} {f : S → Option (S ⊕ R)} (n : Nat) (I : Nat → S → Prop) (O : R → Prop) {s : S} (h0 : I 0 s)
    (h1 : ∀ i, i < n → ∀ s, I i s → ∃ s', f s = some (.inl s') ∧ I (i + 1) s') (h2 : ∀ s, I n s → ∃ r, f s = some (.inr r) ∧ O r) : ∃ r, loop f s = some r ∧ O r := by
  have : ∀ k i, i + k = n → ∀ s, I i s → ∃ r, loop f s = some r ∧ O r := by
    intro k
    induction k with
    | zero =>
      intro i hi s hs
      obtain rfl : i = n := by omega
      obtain ⟨r, e, o⟩ := h2 s hs
      exact ⟨r, loop_done e, o⟩
    | succ k ih =>
      intro i hi s hs
      obtain ⟨s', e, hs'⟩ := h1 i (by omega) s hs
      rw [loop_step e]
      exact ih (i + 1) (by omega) s' hs'
  exact this n 0 (by omega) s h0
structure CC (p : Nat) (z : Fl × Fl) (q : Z2) : Prop where
  v1 : Val p z.1 q.1
  v2 : Val p z.2 q.2
  c1 : Cn z.1
  c2 : Cn z.2
theorem cn_zero : Cn (Fl.bits 0) := ⟨0, rfl, by decide⟩
theorem cc_zero (p : Nat) : CC p (Fl.bits 0, Fl.bits 0) (0, 0) := ⟨zero_val p, zero_val p, cn_zero, cn_zero⟩
theorem cadd_eq (x y : Fl × Fl) : cadd x y = (fadd x.1 y.1, fadd x.2 y.2) := rfl
theorem cc_add {p : Nat} {x y : Fl × Fl} {a b : Z2} (hp : p ≤ 800) (hx1 : Val p x.1 a.1) (hx2 : Val p x.2 a.2) (hy1 : Val p y.1 b.1) (hy2 : Val p y.2 b.2) {C : Nat} (h1 : (ca a b).1.natAbs ≤ C) (h2 : (ca a b).2.natAbs ≤ C) (hC : C < 9007199254740992) : CC p (cadd x y) (ca a b) :=
  ⟨fadd_val hx1 hy1 hp (Nat.lt_of_le_of_lt h1 hC), fadd_val hx2 hy2 hp (Nat.lt_of_le_of_lt h2 hC), fadd_cn hx1 hy1, fadd_cn hx2 hy2⟩
/-! ### pulse.Shape -/
theorem v128 : Val 0 (Fl.bits 4638707616191610880) 128 := ⟨_, false, 4503599627370496, -45, rfl, by decide, by decide, by decide +kernel⟩
def slen (n rate L : Nat) : Nat := if n = 0 then 0 else (n - 1) * rate + L
theorem shape_ok {rate : Nat} {fore : Int} {P : List Fl} {l : List (Fl × Fl)} {T : Nat → Int} {Z : Nat → Z2} (hr1 : 1 ≤ rate) (hr8 : rate ≤ 8) (hP1 : 1 ≤ P.length) (hP : P.length ≤ 64) (hc : f_pulse_Check (rate : Int) fore P = some 0)
    (hT : ∀ i : Nat, i < P.length → Val 4 (gt P (i : Int)) (T i)) (hs : sN (fun i => (T i).natAbs) P.length ≤ 64) (hl : l.length ≤ 200)
    (hZ : ∀ k : Nat, k < l.length → CC 0 (gt l (k : Int)) (Z k)) (hZ1 : ∀ k, k < l.length → (Z k).1.natAbs ≤ 30 ∧ (Z k).2.natAbs ≤ 30) :
    ∃ out, f_pulse_Shape (rate : Int) fore P l = some (out, 0) ∧ out.length = slen l.length rate P.length ∧ ∀ j : Nat, j < out.length → CC 4 (gt out (j : Int)) (shp rate P.length T Z l.length 0 j) := by
  have hmul : ∀ k : Nat, k ≤ 200 → k * rate ≤ 1600 := fun k hk => Nat.le_trans (Nat.mul_le_mul hk hr8) (by decide)
  have hbd : ∀ {k i : Nat} (j : Nat), (k < l.length ∨ (k = l.length ∧ i = 0)) → (shp rate P.length T Z k i j).1.natAbs ≤ 1920 ∧ (shp rate P.length T Z k i j).2.natAbs ≤ 1920 := by
    intro k i j h
    have := shp_bd (rate := rate) (L := P.length) (T := T) (B := 30) hZ1 h j
    omega
  have hlen : f_pulse_Length (rate : Int) fore P (l.length : Int) = some (((slen l.length rate P.length : Nat) : Int), 0) := by
    unfold f_pulse_Length
    rw [hc, Option.bind_some, if_neg (by decide), if_neg (by simp only [Bool.or_eq_true, decide_eq_true_eq]; omega)]
    by_cases h0 : l.length = 0
    · rw [h0, if_pos (by rfl)]; rfl
    · rw [if_neg (by rw [beq_iff_eq]; omega)]
      have hm := hmul (l.length - 1) (by omega)
      have e1 : IntKind.i64.wrap ((l.length : Int) - 1) = ((l.length - 1 : Nat) : Int) := by rw [w64 (by omega) (by omega)]; omega
      have e2 : IntKind.i64.wrap (((l.length - 1 : Nat) : Int) * (rate : Int)) = (((l.length - 1) * rate : Nat) : Int) := by rw [← Int.natCast_mul, w64 (by omega) (by omega)]
      have e3 : IntKind.i64.wrap ((((l.length - 1) * rate : Nat) : Int) + (P.length : Int)) = ((slen l.length rate P.length : Nat) : Int) := by rw [w64 (by omega) (by omega)]; unfold slen; rw [if_neg h0]; omega
      rw [e1, e2, e3, if_pos]
      unfold slen
      rw [if_neg h0, decide_eq_true_eq]; omega
  have hslen : slen l.length rate P.length ≤ 1664 := by
    unfold slen
    split
    · omega
    · have := hmul (l.length - 1) (by omega); omega
  have hfit : ∀ k, k < l.length → ∀ i, i < P.length → k * rate + i < slen l.length rate P.length := by
    intro k hk i hi
    unfold slen
    rw [if_neg (by omega)]
    have : k * rate ≤ (l.length - 1) * rate := Nat.mul_le_mul_right _ (by omega)
    omega
  unfold f_pulse_Shape
  rw [hlen, Option.bind_some]
  dsimp only
  rw [if_neg (by decide)]
  rw [if_pos (by omega), Int.toNat_natCast]
  obtain ⟨r, er, out, rfl, o1, o2⟩ := loop_ex (f := f_pulse_Shape.s1 (rate : Int) P l) l.length
    (fun k s => s.2 = (k : Int) ∧ s.1.length = slen l.length rate P.length ∧ ∀ j : Nat, j < s.1.length → CC 4 (gt s.1 (j : Int)) (shp rate P.length T Z k 0 j))
    (fun r => ∃ out, r = Sum.inl out ∧ out.length = slen l.length rate P.length ∧ ∀ j : Nat, j < out.length → CC 4 (gt out (j : Int)) (shp rate P.length T Z l.length 0 j))
    (s := (List.replicate (slen l.length rate P.length) (Fl.bits 0, Fl.bits 0), 0))
    ⟨rfl, List.length_replicate, fun j hj => by
      rw [List.length_replicate] at hj
      rw [gt_repl hj, shp_zero]; exact cc_zero 4⟩
    (fun k hk s hs => by
      obtain ⟨out, t⟩ := s
      obtain ⟨rfl, h1, h2⟩ := hs
      simp only at h1 h2
      obtain ⟨r2, er2, p1, p2⟩ := loop_ex (f := f_pulse_Shape.s2 (rate : Int) P l (k : Int)) P.length
        (fun i s => s.2 = (i : Int) ∧ s.1.length = slen l.length rate P.length ∧ ∀ j : Nat, j < s.1.length → CC 4 (gt s.1 (j : Int)) (shp rate P.length T Z k i j))
        (fun r => r.length = slen l.length rate P.length ∧ ∀ j : Nat, j < r.length → CC 4 (gt r (j : Int)) (shp rate P.length T Z k P.length j))
        (s := (out, 0)) ⟨rfl, h1, h2⟩
        (fun i hi s hs => by
          obtain ⟨o, t⟩ := s
          obtain ⟨rfl, g1, g2⟩ := hs
          simp only at g1 g2
          have hf := hfit k hk i hi
          have hm := hmul k (by omega)
          simp only [f_pulse_Shape.s2, f_pulse_Shape.s2c]
          have e1 : IntKind.i64.wrap (IntKind.i64.wrap ((k : Int) * (rate : Int)) + (i : Int)) = ((k * rate + i : Nat) : Int) := by
            rw [← Int.natCast_mul, w64 (x := ((k * rate : Nat) : Int)) (by omega) (by omega), w64 (by omega) (by omega)]; omega
          rw [e1, if_pos (by rw [decide_eq_true_eq]; omega), if_pos (by omega), if_pos (by omega), if_pos (by omega)]
          have e2 : IntKind.i64.wrap ((i : Int) + 1) = ((i + 1 : Nat) : Int) := by rw [w64 (by omega) (by omega)]; rfl
          refine ⟨_, rfl, e2, by rw [List.length_set]; exact g1, ?_⟩
          intro j hj
          rw [List.length_set] at hj
          rw [Int.toNat_natCast, gt_setG (by omega) hj]
          split
          · rename_i hji
            subst hji
            rw [shp_here T Z (by omega) hi]
            have q := g2 _ hj
            have z := hZ k hk
            have t := hT i hi
            have zb := hZ1 k hk
            have b := hbd (k := k) (i := i + 1) (k * rate + i) (.inl hk)
            rw [shp_here T Z (by omega) hi] at b
            have tb : (T i).natAbs ≤ 64 := by
              have : ∀ L, i < L → (T i).natAbs ≤ sN (fun i => (T i).natAbs) L := by
                intro L
                induction L with
                | zero => intro h; omega
                | succ L ih =>
                  intro h
                  simp only [sN]
                  by_cases hL : i = L
                  · subst hL; omega
                  · have := ih (by omega); omega
              exact Nat.le_trans (this _ hi) hs
            have m1 := fmul_val z.v1 t (by omega) (by have := mul_nab zb.1 tb; omega)
            have m2 := fmul_val z.v2 t (by omega) (by have := mul_nab zb.2 tb; omega)
            rw [Nat.zero_add, Int.mul_comm] at m1 m2
            exact cc_add (by omega) q.v1 q.v2 m1 m2 b.1 b.2 (by omega)
          · rename_i hji
            rw [shp_other T Z (by omega) (fun h => hji h.symm)]
            exact g2 j hj)
        (fun s hs => by
          obtain ⟨o, t⟩ := s
          obtain ⟨rfl, g1, g2⟩ := hs
          simp only [f_pulse_Shape.s2, f_pulse_Shape.s2c]
          rw [if_neg (by rw [decide_eq_true_eq]; omega)]
          exact ⟨_, rfl, g1, g2⟩)
      simp only [f_pulse_Shape.s1, f_pulse_Shape.s1c]
      have z := hZ k hk
      have zb := hZ1 k hk
      rw [if_pos (by rw [decide_eq_true_eq]; omega), if_pos (by omega), plain_ok z.v1 z.c1 (by omega) (by omega) v128 (by omega), Option.bind_some, if_neg (by decide), plain_ok z.v2 z.c2 (by omega) (by omega) v128 (by omega), Option.bind_some, Option.bind_some, if_neg (by decide), er2, Option.bind_some]
      have e2 : IntKind.i64.wrap ((k : Int) + 1) = ((k + 1 : Nat) : Int) := by rw [w64 (by omega) (by omega)]; rfl
      refine ⟨_, rfl, e2, p1, fun j hj => ?_⟩
      rw [← shp_row]
      exact p2 j hj)
    (fun s hs => by
      obtain ⟨o, t⟩ := s
      obtain ⟨rfl, g1, g2⟩ := hs
      simp only [f_pulse_Shape.s1, f_pulse_Shape.s1c]
      rw [if_neg (by rw [decide_eq_true_eq]; omega)]
      exact ⟨_, rfl, _, rfl, g1, g2⟩)
  rw [er]
  exact ⟨_, rfl, o1, o2⟩
/-! ### strait.Pass -/
theorem v64_1 : Val 6 (Fl.bits 4607182418800017408) 64 := ⟨_, false, 4503599627370496, -52, rfl, by decide, by decide, by decide +kernel⟩
theorem v64_4 : Val 6 (Fl.bits 4616189618054758400) 256 := ⟨_, false, 4503599627370496, -50, rfl, by decide, by decide, by decide +kernel⟩
theorem v16_128 : Val 4 (Fl.bits 4638707616191610880) 2048 := ⟨_, false, 4503599627370496, -45, rfl, by decide, by decide, by decide +kernel⟩
/-- taps: parts in 64ths -/
structure Tp (h : List (Fl × Fl)) (H : Nat → Z2) : Prop where
  l0 : 1 ≤ h.length
  l1 : h.length ≤ 12
  cc : ∀ i : Nat, i < h.length → CC 6 (gt h (i : Int)) (H i)
  b : ∀ i, i < h.length → (H i).1.natAbs ≤ 64 ∧ (H i).2.natAbs ≤ 64
  s : sN (fun i => (H i).1.natAbs + (H i).2.natAbs) h.length ≤ 256
theorem sN_mono (a : Nat → Nat) : ∀ {L k : Nat}, k ≤ L → sN a k ≤ sN a L
  | 0, k, h => by obtain rfl : k = 0 := by omega
                  exact Nat.le_refl _
  | L + 1, k, h => by
    by_cases e : k = L + 1
    · subst e; exact Nat.le_refl _
    · have := sN_mono a (show k ≤ L by omega)
      simp only [sN]; omega
theorem taps_ok {h : List (Fl × Fl)} {H : Nat → Z2} (t : Tp h H) : f_strait_taps h = some true := by
  unfold f_strait_taps
  have h0 := t.l0
  have h1 := t.l1
  obtain ⟨r, er, sum, rfl, hv⟩ := loop_ex (f := f_strait_taps.s1 h) h.length
    (fun k s => s.2 = (k : Int) ∧ Val 6 s.1 ((sN (fun i => (H i).1.natAbs + (H i).2.natAbs) k : Nat) : Int))
    (fun r => ∃ sum, r = Sum.inl sum ∧ Val 6 sum ((sN (fun i => (H i).1.natAbs + (H i).2.natAbs) h.length : Nat) : Int)) (s := (Fl.bits 0, 0))
    ⟨rfl, zero_val 6⟩
    (fun k hk s hs => by
      obtain ⟨sum, i⟩ := s
      obtain ⟨rfl, hv⟩ := hs
      simp only at hv
      have c := t.cc k hk
      have b := t.b k hk
      obtain ⟨y1, e1, w1, _⟩ := abs_val c.v1 c.c1
      obtain ⟨y2, e2, w2, _⟩ := abs_val c.v2 c.c2
      simp only [f_strait_taps.s1, f_strait_taps.s1c]
      rw [if_pos (by rw [decide_eq_true_eq]; omega), if_pos (by omega), of_ok c.v1 c.c1 (by omega) (by omega) v64_1 (by omega), Option.bind_some, if_neg (by decide), of_ok c.v2 c.c2 (by omega) (by omega) v64_1 (by omega), Option.bind_some, Option.bind_some, if_neg (by decide), e1, Option.bind_some, e2, Option.bind_some]
      have e3 : IntKind.i64.wrap ((k : Int) + 1) = ((k + 1 : Nat) : Int) := by rw [w64 (by omega) (by omega)]; rfl
      have hm := sN_mono (fun i => (H i).1.natAbs + (H i).2.natAbs) (show k + 1 ≤ h.length by omega)
      have hs := t.s
      refine ⟨_, rfl, e3, ?_⟩
      simp only [sN] at hm ⊢
      have := fadd_val hv (fadd_val w1 w2 (by omega) (by omega)) (by omega) (by omega)
      rw [show ((sN (fun i => (H i).1.natAbs + (H i).2.natAbs) k + ((H k).1.natAbs + (H k).2.natAbs) : Nat) : Int) = ((sN (fun i => (H i).1.natAbs + (H i).2.natAbs) k : Nat) : Int) + (((H k).1.natAbs : Int) + ((H k).2.natAbs : Int)) by omega]
      exact this)
    (fun s hs => by
      obtain ⟨sum, i⟩ := s
      obtain ⟨rfl, hv⟩ := hs
      simp only [f_strait_taps.s1, f_strait_taps.s1c]
      rw [if_neg (by rw [decide_eq_true_eq]; omega)]
      exact ⟨_, rfl, _, rfl, hv⟩)
  rw [er, Option.bind_some]
  have hs := t.s
  simp only [sm]
  rw [fle_dec hv v64_4, decide_eq_true (by omega), decide_eq_true (by omega), decide_eq_true (by omega)]; rfl
theorem check_ok {h : List (Fl × Fl)} {H : Nat → Z2} (t : Tp h H) {rate late : Nat} (hr1 : 1 ≤ rate) (hr8 : rate ≤ 8) (hd : late < 200) : f_strait_Check (rate : Int) (late : Int) h [] = some 0 := by
  unfold f_strait_Check
  rw [if_neg (by simp only [Bool.or_eq_true, decide_eq_true_eq]; omega), taps_ok t, Option.bind_some, if_neg (by decide), if_neg (by decide)]
  rfl
theorem plain_row {x : List (Fl × Fl)} {X : Nat → Z2} (hx : x.length ≤ 65536) (hX : ∀ i : Nat, i < x.length → CC 4 (gt x (i : Int)) (X i)) (hb : ∀ i, i < x.length → (X i).1.natAbs ≤ 1920 ∧ (X i).2.natAbs ≤ 1920) : f_strait_plain x = some true := by
  unfold f_strait_plain f_slices_ContainsFunc_complex128_complex128 f_slices_IndexFunc_complex128_complex128
  have key : loop (f_slices_IndexFunc_complex128_complex128.s1 x) 0 = some (Sum.inl ()) := by
    refine loop_for1 x.length (Sum.inl ()) (fun i hi => ?_) ?_
    · simp only [f_slices_IndexFunc_complex128_complex128.s1, f_slices_IndexFunc_complex128_complex128.s1c, f_strait_plain_1]
      have c := hX i hi
      have b := hb i hi
      rw [if_pos (by rw [decide_eq_true_eq]; omega), if_pos (by omega), of_ok c.v1 c.c1 (by omega) (by omega) v16_128 (by omega), Option.bind_some, if_neg (by decide), of_ok c.v2 c.c2 (by omega) (by omega) v16_128 (by omega), Option.bind_some, Option.bind_some, Option.bind_some, if_neg (by decide), w64 (by omega) (by omega)]; rfl
    · simp only [f_slices_IndexFunc_complex128_complex128.s1, f_slices_IndexFunc_complex128_complex128.s1c]
      rw [if_neg (by rw [decide_eq_true_eq]; omega)]
  rw [key]; rfl
theorem lay_ok {h x out : List (Fl × Fl)} {H X : Nat → Z2} (t : Tp h H) {rate late : Nat} (hr8 : rate ≤ 8) (hd : late < 200) (hx : x.length ≤ 1664)
    (hX : ∀ i : Nat, i < x.length → CC 4 (gt x (i : Int)) (X i)) (hb : ∀ i, i < x.length → (X i).1.natAbs ≤ 1920 ∧ (X i).2.natAbs ≤ 1920)
    (ho : late + h.length * rate + x.length ≤ out.length) (ho2 : out.length ≤ 65536) (h0 : ∀ j : Nat, j < out.length → gt out (j : Int) = (Fl.bits 0, Fl.bits 0)) :
    ∃ r, f_strait_lay out x h (rate : Int) (late : Int) = some r ∧ r.length = out.length ∧ ∀ j : Nat, j < out.length → CC 10 (gt r (j : Int)) (lyp late rate x.length h.length H X h.length 0 j) := by
  have hl0 := t.l0
  have hl1 := t.l1
  have hmul : ∀ k : Nat, k ≤ 12 → k * rate ≤ 96 := fun k hk => Nat.le_trans (Nat.mul_le_mul hk hr8) (by decide)
  unfold f_strait_lay
  obtain ⟨r, er, o1, o2⟩ := loop_ex (f := f_strait_lay.s1 x h (rate : Int) (late : Int)) h.length
    (fun k s => s.2 = (k : Int) ∧ s.1.length = out.length ∧ ∀ j : Nat, j < out.length → CC 10 (gt s.1 (j : Int)) (lyp late rate x.length h.length H X k 0 j))
    (fun r => r.length = out.length ∧ ∀ j : Nat, j < out.length → CC 10 (gt r (j : Int)) (lyp late rate x.length h.length H X h.length 0 j)) (s := (out, 0))
    ⟨rfl, rfl, fun j hj => by
      show CC 10 (gt out (j : Int)) _
      rw [h0 j hj, lyp_zero]; exact cc_zero 10⟩
    (fun k hk s hs => by
      obtain ⟨o, i⟩ := s
      obtain ⟨rfl, h1, h2⟩ := hs
      simp only at h1 h2
      have hkm := hmul k (by omega)
      have hfit : k * rate ≤ (h.length - 1) * rate := Nat.mul_le_mul_right _ (by omega)
      have hlen : h.length * rate = (h.length - 1) * rate + rate := by
        rw [← Nat.succ_mul]; congr 1; omega
      obtain ⟨r2, er2, p1, p2⟩ := loop_ex (f := f_strait_lay.s2 x h (rate : Int) (late : Int) (k : Int)) x.length
        (fun i s => s.2 = (i : Int) ∧ s.1.length = out.length ∧ ∀ j : Nat, j < out.length → CC 10 (gt s.1 (j : Int)) (lyp late rate x.length h.length H X k i j))
        (fun r => r.length = out.length ∧ ∀ j : Nat, j < out.length → CC 10 (gt r (j : Int)) (lyp late rate x.length h.length H X k x.length j))
        (s := (o, 0)) ⟨rfl, h1, h2⟩
        (fun i hi s hs => by
          obtain ⟨o, t'⟩ := s
          obtain ⟨rfl, g1, g2⟩ := hs
          simp only at g1 g2
          simp only [f_strait_lay.s2, f_strait_lay.s2c]
          have e1 : IntKind.i64.wrap (IntKind.i64.wrap ((late : Int) + IntKind.i64.wrap ((k : Int) * (rate : Int))) + (i : Int)) = ((late + k * rate + i : Nat) : Int) := by
            rw [← Int.natCast_mul, w64 (x := ((k * rate : Nat) : Int)) (by omega) (by omega), w64 (x := (late : Int) + ((k * rate : Nat) : Int)) (by omega) (by omega), w64 (by omega) (by omega)]; omega
          rw [e1, if_pos (by rw [decide_eq_true_eq]; omega), if_pos (by omega), if_neg (by rw [decide_eq_true_eq]; omega), if_pos (by omega), if_pos (by omega)]
          have e2 : IntKind.i64.wrap ((i : Int) + 1) = ((i + 1 : Nat) : Int) := by rw [w64 (by omega) (by omega)]; rfl
          refine ⟨_, rfl, e2, by rw [List.length_set]; exact g1, ?_⟩
          intro j hj
          rw [Int.toNat_natCast, gt_setG (by omega) (by omega)]
          split
          · rename_i hji
            subst hji
            rw [lyp_here H X hk]
            have q := g2 _ hj
            have z := hX i hi
            have c := t.cc k hk
            have zb := hb i hi
            have cb := t.b k hk
            have b := lyp_bd (late := late) (apart := rate) (L := h.length) (H := H) (X := X) t.b hb (k := k) (i := i + 1) (by omega) (late + k * rate + i)
            rw [lyp_here H X hk] at b
            have m1 := mul_nab cb.1 zb.1
            have m2 := mul_nab cb.2 zb.2
            have m3 := mul_nab cb.1 zb.2
            have m4 := mul_nab cb.2 zb.1
            have p1 := fmul_val c.v1 z.v1 (by omega) (by omega)
            have p2 := fmul_val c.v2 z.v2 (by omega) (by omega)
            have p3 := fmul_val c.v1 z.v2 (by omega) (by omega)
            have p4 := fmul_val c.v2 z.v1 (by omega) (by omega)
            have b1 : (2 * (64 * 1920) * h.length) ≤ 2949120 := by omega
            exact cc_add (b := cm (H k) (X i)) (by omega) q.v1 q.v2 (fsub_val p1 p2 (by omega) (by omega)) (fadd_val p3 p4 (by omega) (by omega)) (Nat.le_trans b.1 b1) (Nat.le_trans b.2 b1) (by omega)
          · rename_i hji
            rw [lyp_other H X (fun h => hji h.symm)]
            exact g2 j hj)
        (fun s hs => by
          obtain ⟨o, t'⟩ := s
          obtain ⟨rfl, g1, g2⟩ := hs
          simp only [f_strait_lay.s2, f_strait_lay.s2c]
          rw [if_neg (by rw [decide_eq_true_eq]; omega)]
          exact ⟨_, rfl, g1, g2⟩)
      simp only [f_strait_lay.s1, f_strait_lay.s1c]
      rw [if_pos (by rw [decide_eq_true_eq]; omega), if_pos (by omega), er2, Option.bind_some]
      have e2 : IntKind.i64.wrap ((k : Int) + 1) = ((k + 1 : Nat) : Int) := by rw [w64 (by omega) (by omega)]; rfl
      refine ⟨_, rfl, e2, p1, fun j hj => ?_⟩
      rw [← lyp_row]
      exact p2 j hj)
    (fun s hs => by
      obtain ⟨o, t'⟩ := s
      obtain ⟨rfl, g1, g2⟩ := hs
      simp only [f_strait_lay.s1, f_strait_lay.s1c]
      rw [if_neg (by rw [decide_eq_true_eq]; omega)]
      exact ⟨_, rfl, g1, g2⟩)
  rw [er]
  exact ⟨_, rfl, o1, o2⟩
theorem lay_none (out : List (Fl × Fl)) : f_strait_lay out [] [] 1 0 = some out := by
  unfold f_strait_lay
  rw [loop_done (r := out)]
  · rfl
  · simp only [f_strait_lay.s1, f_strait_lay.s1c]
    rw [if_neg (by simp)]
theorem pass_ok {h x : List (Fl × Fl)} {H X : Nat → Z2} (t : Tp h H) {rate late : Nat} (hr1 : 1 ≤ rate) (hr8 : rate ≤ 8) (hd : late < 200) (hx : x.length ≤ 1664)
    (hX : ∀ i : Nat, i < x.length → CC 4 (gt x (i : Int)) (X i)) (hb : ∀ i, i < x.length → (X i).1.natAbs ≤ 1920 ∧ (X i).2.natAbs ≤ 1920) :
    ∃ r, f_strait_Pass (rate : Int) (late : Int) h [] x [] ((x.length + late + h.length * rate : Nat) : Int) = some (r, 0) ∧ r.length = x.length + late + h.length * rate ∧ ∀ j : Nat, j < r.length → CC 10 (gt r (j : Int)) (lyp late rate x.length h.length H X h.length 0 j) := by
  have hl1 := t.l1
  have hm : h.length * rate ≤ 96 := Nat.le_trans (Nat.mul_le_mul hl1 hr8) (by decide)
  obtain ⟨r, er, l1, l2⟩ := lay_ok (out := List.replicate (x.length + late + h.length * rate) (Fl.bits 0, Fl.bits 0)) t hr8 hd hx hX hb (by rw [List.length_replicate]; omega) (by rw [List.length_replicate]; omega) (fun j hj => by rw [List.length_replicate] at hj; exact gt_repl hj _)
  rw [List.length_replicate] at l1 l2
  refine ⟨r, ?_, l1, by rw [l1]; exact l2⟩
  unfold f_strait_Pass
  rw [check_ok t hr1 hr8 hd, Option.bind_some, if_neg (by decide), if_neg (by simp only [Bool.or_eq_true, decide_eq_true_eq, List.length_nil]; omega), plain_row (by omega) hX hb, Option.bind_some, if_neg (by decide)]
  rw [plain_row (x := []) (X := fun _ => (0, 0)) (by decide) (fun i hi => absurd hi (Nat.not_lt_zero _)) (fun i hi => absurd hi (Nat.not_lt_zero _)), Option.bind_some, Option.bind_some, if_neg (by decide), if_pos (by omega), Int.toNat_natCast, er, Option.bind_some, lay_none]
  rfl
theorem through_ok {rate : Nat} {fore : Int} {P : List Fl} {l h : List (Fl × Fl)} {T : Nat → Int} {Z H : Nat → Z2} {late : Nat} (hr1 : 1 ≤ rate) (hr8 : rate ≤ 8) (hP1 : 1 ≤ P.length) (hP : P.length ≤ 64) (hc : f_pulse_Check (rate : Int) fore P = some 0)
    (hT : ∀ i : Nat, i < P.length → Val 4 (gt P (i : Int)) (T i)) (hs : sN (fun i => (T i).natAbs) P.length ≤ 64) (hl : l.length ≤ 200)
    (hZ : ∀ k : Nat, k < l.length → CC 0 (gt l (k : Int)) (Z k)) (hZ1 : ∀ k, k < l.length → (Z k).1.natAbs ≤ 30 ∧ (Z k).2.natAbs ≤ 30) (t : Tp h H) (hd : late < 200) :
    ∃ r, f_foghorntop_through (rate : Int) fore P (rate : Int) (late : Int) h [] l = some (r, true) ∧ r.length = slen l.length rate P.length + late + h.length * rate ∧
      ∀ j : Nat, j < r.length → CC 10 (gt r (j : Int)) (lyp late rate (slen l.length rate P.length) h.length H (fun j => shp rate P.length T Z l.length 0 j) h.length 0 j) := by
  obtain ⟨x, ex, x1, x2⟩ := shape_ok hr1 hr8 hP1 hP hc hT hs hl hZ hZ1
  have hl1 := t.l1
  have hm : h.length * rate ≤ 96 := Nat.le_trans (Nat.mul_le_mul hl1 hr8) (by decide)
  have hslen : slen l.length rate P.length ≤ 1664 := by
    unfold slen
    split
    · omega
    · have : (l.length - 1) * rate ≤ 200 * 8 := Nat.mul_le_mul (by omega) hr8
      omega
  obtain ⟨r, er, l1, l2⟩ := pass_ok (x := x) (X := fun j => shp rate P.length T Z l.length 0 j) t hr1 hr8 hd (by omega) x2 (fun i hi => by
    have := shp_bd (rate := rate) (L := P.length) (T := T) (B := 30) hZ1 (k := l.length) (i := 0) (.inr ⟨rfl, rfl⟩) i
    omega)
  rw [x1] at l2
  rw [x1] at l1
  refine ⟨r, ?_, l1, l2⟩
  unfold f_foghorntop_through
  rw [ex, Option.bind_some]
  have e1 : IntKind.i64.wrap (IntKind.i64.wrap ((x.length : Int) + (late : Int)) + IntKind.i64.wrap ((h.length : Int) * (rate : Int))) = ((x.length + late + h.length * rate : Nat) : Int) := by
    rw [← Int.natCast_mul, w64 (x := ((h.length * rate : Nat) : Int)) (by omega) (by omega), w64 (x := (x.length : Int) + (late : Int)) (by omega) (by omega), w64 (by omega) (by omega)]; omega
  simp only [e1]
  rw [er]
  rfl
/-! ### Twins: loops cut after 100 rounds -/
def Le {α : Type} (a b : Option α) : Prop := ∀ r, a = some r → b = some r
theorem Le.refl {α : Type} (a : Option α) : Le a a := fun _ h => h
theorem Le.bind {α β : Type} {a b : Option α} {f g : α → Option β} (h : Le a b) (k : ∀ x, Le (f x) (g x)) : Le (a.bind f) (b.bind g) := by
  intro r e
  cases ha : a with
  | none => rw [ha] at e; cases e
  | some x => rw [ha] at e; rw [h x ha]; exact k x r e
theorem Le.ite {α : Type} {c : Prop} [Decidable c] {a b a' b' : Option α} (h : Le a a') (k : Le b b') : Le (if c then a else b) (if c then a' else b') := by
  split
  · exact h
  · exact k
theorem Le.sm {α β γ : Type} {x : α ⊕ β} {f f' : α → Option γ} {g g' : β → Option γ} (h : ∀ a, Le (f a) (f' a)) (k : ∀ b, Le (g b) (g' b)) : Le (GL.sm x f g) (GL.sm x f' g') := by
  cases x with
  | inl a => exact h a
  | inr b => exact k b
def loopT {S R : Type} (f : S → Option (S ⊕ R)) (s : S) : Option R := loopN f 100 s
theorem Le.loopN {S R : Type} {f g : S → Option (S ⊕ R)} (h : ∀ s, Le (f s) (g s)) : ∀ (k : Nat) (s : S), Le (GL.loopN f k s) (GL.loopN g k s)
  | 0, s => Le.refl _
  | k + 1, s => by
    intro r e
    unfold GL.loopN at e ⊢
    cases hf : f s with
    | none => rw [hf] at e; cases e
    | some x =>
      rw [hf] at e
      rw [h s x hf]
      cases x with
      | inl s' => exact Le.loopN h k s' r e
      | inr r' => exact e
theorem Le.loop {S R : Type} {f g : S → Option (S ⊕ R)} (h : ∀ s, Le (f s) (g s)) (s : S) : Le (loopT f s) (GL.loop g s) := by
  intro r e
  exact loop_iff.2 ⟨_, Le.loopN h _ s r e⟩
noncomputable def t_slices_Repeat_float64_float64.j2 (xx0 : (List Fl)) (q1 : (Int × Int)) : Option (List Fl) := (if 0 ≤ (IntKind.i64.wrap q1.2) ∧ (IntKind.i64.wrap q1.2) ≤ (IntKind.i64.wrap q1.2) ∧ (IntKind.i64.wrap q1.2) * 8 ≤ 281474976710656 then ((loopT f_slices_Repeat_float64_float64.s1 ((xx0.take (List.replicate ((IntKind.i64.wrap q1.2)).toNat (Fl.bits 0)).length ++ (List.replicate ((IntKind.i64.wrap q1.2)).toNat (Fl.bits 0)).drop xx0.length), ((min xx0.length (List.replicate ((IntKind.i64.wrap q1.2)).toNat (Fl.bits 0)).length : Nat) : Int))).bind (fun q17 => (some q17))) else none)
theorem t_slices_Repeat_float64_float64.j2_le (xx0 : (List Fl)) (q1 : (Int × Int)) : Le (t_slices_Repeat_float64_float64.j2 xx0 q1) (f_slices_Repeat_float64_float64.j2 xx0 q1) := by
  unfold t_slices_Repeat_float64_float64.j2 f_slices_Repeat_float64_float64.j2
  repeat (first | with_reducible exact Le.refl _ | refine Le.bind ?_ (fun _ => ?_) | refine Le.ite ?_ ?_ | refine Le.sm (fun _ => ?_) (fun _ => ?_) | refine Le.loop (fun _ => ?_) _)
noncomputable def t_slices_Repeat_float64_float64.j1 (xx0 : (List Fl)) : Option (List Fl) := ((f_math_bits_Mul (IntKind.u64.wrap (xx0.length : Int)) (2 : Int)).bind fun q1 => (if ((decide ((0 : Int) < q1.1)) || (decide ((9223372036854775807 : Int) < q1.2))) = true then none else (t_slices_Repeat_float64_float64.j2 xx0 q1)))
theorem t_slices_Repeat_float64_float64.j1_le (xx0 : (List Fl)) : Le (t_slices_Repeat_float64_float64.j1 xx0) (f_slices_Repeat_float64_float64.j1 xx0) := by
  unfold t_slices_Repeat_float64_float64.j1 f_slices_Repeat_float64_float64.j1
  repeat (first | apply t_slices_Repeat_float64_float64.j2_le | with_reducible exact Le.refl _ | refine Le.bind ?_ (fun _ => ?_) | refine Le.ite ?_ ?_ | refine Le.sm (fun _ => ?_) (fun _ => ?_) | refine Le.loop (fun _ => ?_) _)
noncomputable def t_slices_Repeat_float64_float64 (xx0 : (List Fl)) : Option (List Fl) := (t_slices_Repeat_float64_float64.j1 xx0)
theorem t_slices_Repeat_float64_float64_le (xx0 : (List Fl)) : Le (t_slices_Repeat_float64_float64 xx0) (f_slices_Repeat_float64_float64 xx0) := by
  unfold t_slices_Repeat_float64_float64 f_slices_Repeat_float64_float64
  repeat (first | apply t_slices_Repeat_float64_float64.j1_le | with_reducible exact Le.refl _ | refine Le.bind ?_ (fun _ => ?_) | refine Le.ite ?_ ?_ | refine Le.sm (fun _ => ?_) (fun _ => ?_) | refine Le.loop (fun _ => ?_) _)
noncomputable def t_pulse_makers_2  : Option ((List Fl) × Int) := ((t_slices_Repeat_float64_float64 ([(Fl.bits 4607182418800017408)])).bind fun q3 => (some (q3, (0 : Int))))
theorem t_pulse_makers_2_le  : Le (t_pulse_makers_2) (f_pulse_makers_2) := by
  unfold t_pulse_makers_2 f_pulse_makers_2
  repeat (first | apply t_slices_Repeat_float64_float64_le | with_reducible exact Le.refl _ | refine Le.bind ?_ (fun _ => ?_) | refine Le.ite ?_ ?_ | refine Le.sm (fun _ => ?_) (fun _ => ?_) | refine Le.loop (fun _ => ?_) _)
noncomputable def t_pulse_Named_10_2  : Option ((Int × Int × (List Fl)) × Int) := ((f_pulse_makers).bind fun q3 => (if (false || false) = true then (some (((0 : Int), (0 : Int), []), (1 : Int))) else ((t_pulse_makers_2).bind fun q10 => (if 0 < q10.1.length then (some (((2 : Int), q10.2, q10.1), (0 : Int))) else none))))
theorem t_pulse_Named_10_2_le  : Le (t_pulse_Named_10_2) (f_pulse_Named_10_2) := by
  unfold t_pulse_Named_10_2 f_pulse_Named_10_2
  repeat (first | apply t_pulse_makers_2_le | with_reducible exact Le.refl _ | refine Le.bind ?_ (fun _ => ?_) | refine Le.ite ?_ ?_ | refine Le.sm (fun _ => ?_) (fun _ => ?_) | refine Le.loop (fun _ => ?_) _)
noncomputable def t_pulse_makers_3  : Option ((List Fl) × Int) := (if (false || false) = true then (some ([], (0 : Int))) else ((loopT f_pulse_makers_3.s1 ([], (-1 : Int))).bind (fun q14 => (some (q14, (1 : Int))))))
theorem t_pulse_makers_3_le  : Le (t_pulse_makers_3) (f_pulse_makers_3) := by
  unfold t_pulse_makers_3 f_pulse_makers_3
  repeat (first | with_reducible exact Le.refl _ | refine Le.bind ?_ (fun _ => ?_) | refine Le.ite ?_ ?_ | refine Le.sm (fun _ => ?_) (fun _ => ?_) | refine Le.loop (fun _ => ?_) _)
noncomputable def t_pulse_Named_10_3  : Option ((Int × Int × (List Fl)) × Int) := ((f_pulse_makers).bind fun q3 => (if (false || false) = true then (some (((0 : Int), (0 : Int), []), (1 : Int))) else ((t_pulse_makers_3).bind fun q10 => (if 0 < q10.1.length then (some (((2 : Int), q10.2, q10.1), (0 : Int))) else none))))
theorem t_pulse_Named_10_3_le  : Le (t_pulse_Named_10_3) (f_pulse_Named_10_3) := by
  unfold t_pulse_Named_10_3 f_pulse_Named_10_3
  repeat (first | apply t_pulse_makers_3_le | with_reducible exact Le.refl _ | refine Le.bind ?_ (fun _ => ?_) | refine Le.ite ?_ ?_ | refine Le.sm (fun _ => ?_) (fun _ => ?_) | refine Le.loop (fun _ => ?_) _)
noncomputable def t_pulse_makers_3_29  : Option ((List Fl) × Int) := (if (false || false) = true then (some ([], (0 : Int))) else ((loopT f_pulse_makers_3_29.s1 ([], (-3 : Int))).bind (fun q14 => (some (q14, (3 : Int))))))
theorem t_pulse_makers_3_29_le  : Le (t_pulse_makers_3_29) (f_pulse_makers_3_29) := by
  unfold t_pulse_makers_3_29 f_pulse_makers_3_29
  repeat (first | with_reducible exact Le.refl _ | refine Le.bind ?_ (fun _ => ?_) | refine Le.ite ?_ ?_ | refine Le.sm (fun _ => ?_) (fun _ => ?_) | refine Le.loop (fun _ => ?_) _)
noncomputable def t_pulse_Named_10_4  : Option ((Int × Int × (List Fl)) × Int) := ((f_pulse_makers).bind fun q3 => (if (false || false) = true then (some (((0 : Int), (0 : Int), []), (1 : Int))) else ((t_pulse_makers_3_29).bind fun q10 => (if 0 < q10.1.length then (some (((4 : Int), q10.2, q10.1), (0 : Int))) else none))))
theorem t_pulse_Named_10_4_le  : Le (t_pulse_Named_10_4) (f_pulse_Named_10_4) := by
  unfold t_pulse_Named_10_4 f_pulse_Named_10_4
  repeat (first | apply t_pulse_makers_3_29_le | with_reducible exact Le.refl _ | refine Le.bind ?_ (fun _ => ?_) | refine Le.ite ?_ ?_ | refine Le.sm (fun _ => ?_) (fun _ => ?_) | refine Le.loop (fun _ => ?_) _)
noncomputable def t_slices_Repeat_float64_float64_28.j2 (xx0 : (List Fl)) (q1 : (Int × Int)) : Option (List Fl) := (if 0 ≤ (IntKind.i64.wrap q1.2) ∧ (IntKind.i64.wrap q1.2) ≤ (IntKind.i64.wrap q1.2) ∧ (IntKind.i64.wrap q1.2) * 8 ≤ 281474976710656 then ((loopT f_slices_Repeat_float64_float64_28.s1 ((xx0.take (List.replicate ((IntKind.i64.wrap q1.2)).toNat (Fl.bits 0)).length ++ (List.replicate ((IntKind.i64.wrap q1.2)).toNat (Fl.bits 0)).drop xx0.length), ((min xx0.length (List.replicate ((IntKind.i64.wrap q1.2)).toNat (Fl.bits 0)).length : Nat) : Int))).bind (fun q17 => (some q17))) else none)
theorem t_slices_Repeat_float64_float64_28.j2_le (xx0 : (List Fl)) (q1 : (Int × Int)) : Le (t_slices_Repeat_float64_float64_28.j2 xx0 q1) (f_slices_Repeat_float64_float64_28.j2 xx0 q1) := by
  unfold t_slices_Repeat_float64_float64_28.j2 f_slices_Repeat_float64_float64_28.j2
  repeat (first | with_reducible exact Le.refl _ | refine Le.bind ?_ (fun _ => ?_) | refine Le.ite ?_ ?_ | refine Le.sm (fun _ => ?_) (fun _ => ?_) | refine Le.loop (fun _ => ?_) _)
noncomputable def t_slices_Repeat_float64_float64_28.j1 (xx0 : (List Fl)) : Option (List Fl) := ((f_math_bits_Mul (IntKind.u64.wrap (xx0.length : Int)) (4 : Int)).bind fun q1 => (if ((decide ((0 : Int) < q1.1)) || (decide ((9223372036854775807 : Int) < q1.2))) = true then none else (t_slices_Repeat_float64_float64_28.j2 xx0 q1)))
theorem t_slices_Repeat_float64_float64_28.j1_le (xx0 : (List Fl)) : Le (t_slices_Repeat_float64_float64_28.j1 xx0) (f_slices_Repeat_float64_float64_28.j1 xx0) := by
  unfold t_slices_Repeat_float64_float64_28.j1 f_slices_Repeat_float64_float64_28.j1
  repeat (first | apply t_slices_Repeat_float64_float64_28.j2_le | with_reducible exact Le.refl _ | refine Le.bind ?_ (fun _ => ?_) | refine Le.ite ?_ ?_ | refine Le.sm (fun _ => ?_) (fun _ => ?_) | refine Le.loop (fun _ => ?_) _)
noncomputable def t_slices_Repeat_float64_float64_28 (xx0 : (List Fl)) : Option (List Fl) := (t_slices_Repeat_float64_float64_28.j1 xx0)
theorem t_slices_Repeat_float64_float64_28_le (xx0 : (List Fl)) : Le (t_slices_Repeat_float64_float64_28 xx0) (f_slices_Repeat_float64_float64_28 xx0) := by
  unfold t_slices_Repeat_float64_float64_28 f_slices_Repeat_float64_float64_28
  repeat (first | apply t_slices_Repeat_float64_float64_28.j1_le | with_reducible exact Le.refl _ | refine Le.bind ?_ (fun _ => ?_) | refine Le.ite ?_ ?_ | refine Le.sm (fun _ => ?_) (fun _ => ?_) | refine Le.loop (fun _ => ?_) _)
noncomputable def t_pulse_makers_2_27  : Option ((List Fl) × Int) := ((t_slices_Repeat_float64_float64_28 ([(Fl.bits 4607182418800017408)])).bind fun q3 => (some (q3, (0 : Int))))
theorem t_pulse_makers_2_27_le  : Le (t_pulse_makers_2_27) (f_pulse_makers_2_27) := by
  unfold t_pulse_makers_2_27 f_pulse_makers_2_27
  repeat (first | apply t_slices_Repeat_float64_float64_28_le | with_reducible exact Le.refl _ | refine Le.bind ?_ (fun _ => ?_) | refine Le.ite ?_ ?_ | refine Le.sm (fun _ => ?_) (fun _ => ?_) | refine Le.loop (fun _ => ?_) _)
noncomputable def t_pulse_Named_10_6  : Option ((Int × Int × (List Fl)) × Int) := ((f_pulse_makers).bind fun q3 => (if (false || false) = true then (some (((0 : Int), (0 : Int), []), (1 : Int))) else ((t_pulse_makers_2_27).bind fun q10 => (if 0 < q10.1.length then (some (((4 : Int), q10.2, q10.1), (0 : Int))) else none))))
theorem t_pulse_Named_10_6_le  : Le (t_pulse_Named_10_6) (f_pulse_Named_10_6) := by
  unfold t_pulse_Named_10_6 f_pulse_Named_10_6
  repeat (first | apply t_pulse_makers_2_27_le | with_reducible exact Le.refl _ | refine Le.bind ?_ (fun _ => ?_) | refine Le.ite ?_ ?_ | refine Le.sm (fun _ => ?_) (fun _ => ?_) | refine Le.loop (fun _ => ?_) _)
noncomputable def t_feedback_taps (l0 : (List (Fl × Fl))) : Option Bool := ((loopT (f_feedback_taps.s1 l0) ((Fl.bits 0), (0 : Int))).bind (fun q29 => sm q29 (fun q30 => (some (((decide ((0 : Int) < (l0.length : Int))) && (decide ((l0.length : Int) ≤ (64 : Int)))) && (fle q30 (Fl.bits 4616189618054758400))))) (fun q31 => (some q31))))
theorem t_feedback_taps_le (l0 : (List (Fl × Fl))) : Le (t_feedback_taps l0) (f_feedback_taps l0) := by
  unfold t_feedback_taps f_feedback_taps
  repeat (first | with_reducible exact Le.refl _ | refine Le.bind ?_ (fun _ => ?_) | refine Le.ite ?_ ?_ | refine Le.sm (fun _ => ?_) (fun _ => ?_) | refine Le.loop (fun _ => ?_) _)
noncomputable def t_feedback_turned (zx0 : (Fl × Fl)) (n1 : Int) : Option (Fl × Fl) := ((loopT (f_feedback_turned.s1 n1) (zx0, (0 : Int))).bind (fun q9 => (some q9)))
theorem t_feedback_turned_le (zx0 : (Fl × Fl)) (n1 : Int) : Le (t_feedback_turned zx0 n1) (f_feedback_turned zx0 n1) := by
  unfold t_feedback_turned f_feedback_turned
  repeat (first | with_reducible exact Le.refl _ | refine Le.bind ?_ (fun _ => ?_) | refine Le.ite ?_ ?_ | refine Le.sm (fun _ => ?_) (fun _ => ?_) | refine Le.loop (fun _ => ?_) _)
noncomputable def t_feedback_first.s1c (hx0 : (Fl × Fl)) (t7 : Int) : Option (Int ⊕ (Unit ⊕ (Fl × Int × Bool))) := (if (decide (t7 < (4 : Int))) = true then ((t_feedback_turned hx0 t7).bind fun q1 => (if ((feq q1.2 (Fl.bits 0)) && (((feq q1.1 (Fl.bits 4607182418800017408)) || (feq q1.1 (Fl.bits 4602678819172646912))) || (feq q1.1 (Fl.bits 4598175219545276416)))) = true then (some (Sum.inr (Sum.inr (q1.1, t7, true)))) else (some (Sum.inl (IntKind.i64.wrap (t7 + (1 : Int))))))) else (some (Sum.inr (Sum.inl ()))))
theorem t_feedback_first.s1c_le (hx0 : (Fl × Fl)) (t7 : Int) : Le (t_feedback_first.s1c hx0 t7) (f_feedback_first.s1c hx0 t7) := by
  unfold t_feedback_first.s1c f_feedback_first.s1c
  repeat (first | apply t_feedback_turned_le | with_reducible exact Le.refl _ | refine Le.bind ?_ (fun _ => ?_) | refine Le.ite ?_ ?_ | refine Le.sm (fun _ => ?_) (fun _ => ?_) | refine Le.loop (fun _ => ?_) _)
noncomputable def t_feedback_first.s1 (hx0 : (Fl × Fl)) (s : Int) : Option (Int ⊕ (Unit ⊕ (Fl × Int × Bool))) := t_feedback_first.s1c hx0 s
theorem t_feedback_first.s1_le (hx0 : (Fl × Fl)) (s : Int) : Le (t_feedback_first.s1 hx0 s) (f_feedback_first.s1 hx0 s) := by
  unfold t_feedback_first.s1 f_feedback_first.s1
  repeat (first | apply t_feedback_first.s1c_le | with_reducible exact Le.refl _ | refine Le.bind ?_ (fun _ => ?_) | refine Le.ite ?_ ?_ | refine Le.sm (fun _ => ?_) (fun _ => ?_) | refine Le.loop (fun _ => ?_) _)
noncomputable def t_feedback_first (hx0 : (Fl × Fl)) : Option (Fl × Int × Bool) := ((loopT (t_feedback_first.s1 hx0) (0 : Int)).bind (fun q13 => sm q13 (fun q14 => (some ((Fl.bits 0), (0 : Int), false))) (fun q15 => (some (q15.1, q15.2.1, q15.2.2)))))
theorem t_feedback_first_le (hx0 : (Fl × Fl)) : Le (t_feedback_first hx0) (f_feedback_first hx0) := by
  unfold t_feedback_first f_feedback_first
  repeat (first | apply t_feedback_first.s1_le | with_reducible exact Le.refl _ | refine Le.bind ?_ (fun _ => ?_) | refine Le.ite ?_ ?_ | refine Le.sm (fun _ => ?_) (fun _ => ?_) | refine Le.loop (fun _ => ?_) _)
noncomputable def t_feedback_Check (l0 : (List (Fl × Fl))) : Option Int := ((t_feedback_taps l0).bind fun q1 => (if (!q1) = true then (some (8 : Int)) else (if 0 ≤ (0 : Int) ∧ (0 : Int) < (l0.length : Int) then ((t_feedback_first (gt l0 (0 : Int))).bind fun q8 => (if (!q8.2.2) = true then (some (110 : Int)) else (some (0 : Int)))) else none)))
theorem t_feedback_Check_le (l0 : (List (Fl × Fl))) : Le (t_feedback_Check l0) (f_feedback_Check l0) := by
  unfold t_feedback_Check f_feedback_Check
  repeat (first | apply t_feedback_taps_le | apply t_feedback_first_le | with_reducible exact Le.refl _ | refine Le.bind ?_ (fun _ => ?_) | refine Le.ite ?_ ?_ | refine Le.sm (fun _ => ?_) (fun _ => ?_) | refine Le.loop (fun _ => ?_) _)
noncomputable def t_feedback_New (hx1 : (List (Fl × Fl))) : Option ((Int × (List (Fl × Fl)) × (List (Fl × Fl)) × Int × Int × Fl × Int × Bool × Bool × (Fl × Fl)) × Int) := ((f_points_Edge).bind fun q1 => (if (q1.2 != (0 : Int)) = true then none else ((t_feedback_Check hx1).bind fun q3 => (if (q3 != (0 : Int)) = true then none else (if 0 < hx1.length then ((some (([((4 : Int), (List.replicate 64 (Fl.bits 0, Fl.bits 0)), (List.replicate 64 (Fl.bits 0, Fl.bits 0)), (hx1.length : Int), (0 : Int), (Fl.bits 0), (0 : Int), false, false, (Fl.bits 0, Fl.bits 0))]).set ((0 : Int)).toNat ((gt ([((4 : Int), (List.replicate 64 (Fl.bits 0, Fl.bits 0)), (List.replicate 64 (Fl.bits 0, Fl.bits 0)), (hx1.length : Int), (0 : Int), (Fl.bits 0), (0 : Int), false, false, (Fl.bits 0, Fl.bits 0))]) (0 : Int)).1, (cpy ((gt ([((4 : Int), (List.replicate 64 (Fl.bits 0, Fl.bits 0)), (List.replicate 64 (Fl.bits 0, Fl.bits 0)), (hx1.length : Int), (0 : Int), (Fl.bits 0), (0 : Int), false, false, (Fl.bits 0, Fl.bits 0))]) (0 : Int)).2.1) 0 hx1), (gt ([((4 : Int), (List.replicate 64 (Fl.bits 0, Fl.bits 0)), (List.replicate 64 (Fl.bits 0, Fl.bits 0)), (hx1.length : Int), (0 : Int), (Fl.bits 0), (0 : Int), false, false, (Fl.bits 0, Fl.bits 0))]) (0 : Int)).2.2.1, (gt ([((4 : Int), (List.replicate 64 (Fl.bits 0, Fl.bits 0)), (List.replicate 64 (Fl.bits 0, Fl.bits 0)), (hx1.length : Int), (0 : Int), (Fl.bits 0), (0 : Int), false, false, (Fl.bits 0, Fl.bits 0))]) (0 : Int)).2.2.2.1, (gt ([((4 : Int), (List.replicate 64 (Fl.bits 0, Fl.bits 0)), (List.replicate 64 (Fl.bits 0, Fl.bits 0)), (hx1.length : Int), (0 : Int), (Fl.bits 0), (0 : Int), false, false, (Fl.bits 0, Fl.bits 0))]) (0 : Int)).2.2.2.2.1, (gt ([((4 : Int), (List.replicate 64 (Fl.bits 0, Fl.bits 0)), (List.replicate 64 (Fl.bits 0, Fl.bits 0)), (hx1.length : Int), (0 : Int), (Fl.bits 0), (0 : Int), false, false, (Fl.bits 0, Fl.bits 0))]) (0 : Int)).2.2.2.2.2.1, (gt ([((4 : Int), (List.replicate 64 (Fl.bits 0, Fl.bits 0)), (List.replicate 64 (Fl.bits 0, Fl.bits 0)), (hx1.length : Int), (0 : Int), (Fl.bits 0), (0 : Int), false, false, (Fl.bits 0, Fl.bits 0))]) (0 : Int)).2.2.2.2.2.2.1, (gt ([((4 : Int), (List.replicate 64 (Fl.bits 0, Fl.bits 0)), (List.replicate 64 (Fl.bits 0, Fl.bits 0)), (hx1.length : Int), (0 : Int), (Fl.bits 0), (0 : Int), false, false, (Fl.bits 0, Fl.bits 0))]) (0 : Int)).2.2.2.2.2.2.2.1, (gt ([((4 : Int), (List.replicate 64 (Fl.bits 0, Fl.bits 0)), (List.replicate 64 (Fl.bits 0, Fl.bits 0)), (hx1.length : Int), (0 : Int), (Fl.bits 0), (0 : Int), false, false, (Fl.bits 0, Fl.bits 0))]) (0 : Int)).2.2.2.2.2.2.2.2.1, (gt ([((4 : Int), (List.replicate 64 (Fl.bits 0, Fl.bits 0)), (List.replicate 64 (Fl.bits 0, Fl.bits 0)), (hx1.length : Int), (0 : Int), (Fl.bits 0), (0 : Int), false, false, (Fl.bits 0, Fl.bits 0))]) (0 : Int)).2.2.2.2.2.2.2.2.2))).bind fun q8 => (if 0 ≤ (0 : Int) ∧ (0 : Int) < (hx1.length : Int) then ((t_feedback_first (gt hx1 (0 : Int))).bind fun q16 => ((some (q8.set ((0 : Int)).toNat ((gt q8 (0 : Int)).1, (gt q8 (0 : Int)).2.1, (gt q8 (0 : Int)).2.2.1, (gt q8 (0 : Int)).2.2.2.1, (gt q8 (0 : Int)).2.2.2.2.1, q16.1, (gt q8 (0 : Int)).2.2.2.2.2.2.1, (gt q8 (0 : Int)).2.2.2.2.2.2.2.1, (gt q8 (0 : Int)).2.2.2.2.2.2.2.2.1, (gt q8 (0 : Int)).2.2.2.2.2.2.2.2.2))).bind fun q20 => ((some (q20.set ((0 : Int)).toNat ((gt q20 (0 : Int)).1, (gt q20 (0 : Int)).2.1, (gt q20 (0 : Int)).2.2.1, (gt q20 (0 : Int)).2.2.2.1, (gt q20 (0 : Int)).2.2.2.2.1, (gt q20 (0 : Int)).2.2.2.2.2.1, q16.2.1, (gt q20 (0 : Int)).2.2.2.2.2.2.2.1, (gt q20 (0 : Int)).2.2.2.2.2.2.2.2.1, (gt q20 (0 : Int)).2.2.2.2.2.2.2.2.2))).bind fun q23 => (some ((gt q23 (0 : Int)), (0 : Int)))))) else none)) else none)))))
theorem t_feedback_New_le (hx1 : (List (Fl × Fl))) : Le (t_feedback_New hx1) (f_feedback_New hx1) := by
  unfold t_feedback_New f_feedback_New
  repeat (first | apply t_feedback_Check_le | apply t_feedback_first_le | with_reducible exact Le.refl _ | refine Le.bind ?_ (fun _ => ?_) | refine Le.ite ?_ ?_ | refine Le.sm (fun _ => ?_) (fun _ => ?_) | refine Le.loop (fun _ => ?_) _)
noncomputable def t_grid_Check (l0 : (List ((Fl × Fl) × Bool))) : Option (Int × Int) := (if (decide ((65536 : Int) < (l0.length : Int))) = true then (some ((0 : Int), (1 : Int))) else ((loopT (f_grid_Check.s1 l0) (0 : Int)).bind (fun q12 => sm q12 (fun q13 => (some ((0 : Int), (0 : Int)))) (fun q14 => (some (q14.1, q14.2))))))
theorem t_grid_Check_le (l0 : (List ((Fl × Fl) × Bool))) : Le (t_grid_Check l0) (f_grid_Check l0) := by
  unfold t_grid_Check f_grid_Check
  repeat (first | with_reducible exact Le.refl _ | refine Le.bind ?_ (fun _ => ?_) | refine Le.ite ?_ ?_ | refine Le.sm (fun _ => ?_) (fun _ => ?_) | refine Le.loop (fun _ => ?_) _)
noncomputable def t_bits_Ungray (n0 : Int) : Option (Int × Int) := (if ((decide (n0 < (0 : Int))) || (decide ((65536 : Int) ≤ n0))) = true then (some ((0 : Int), (1 : Int))) else ((loopT f_bits_Ungray.s1 (n0, (1 : Int))).bind (fun q4 => (some (q4, (0 : Int))))))
theorem t_bits_Ungray_le (n0 : Int) : Le (t_bits_Ungray n0) (f_bits_Ungray n0) := by
  unfold t_bits_Ungray f_bits_Ungray
  repeat (first | with_reducible exact Le.refl _ | refine Le.bind ?_ (fun _ => ?_) | refine Le.ite ?_ ?_ | refine Le.sm (fun _ => ?_) (fun _ => ?_) | refine Le.loop (fun _ => ?_) _)
noncomputable def t_points_square_1 (word0 : Int) (t1 : Int) : Option Fl := ((t_bits_Ungray word0).bind fun q1 => (some (fofi (IntKind.i64.wrap ((IntKind.i64.wrap ((2 : Int) * q1.1)) - t1)))))
theorem t_points_square_1_le (word0 : Int) (t1 : Int) : Le (t_points_square_1 word0 t1) (f_points_square_1 word0 t1) := by
  unfold t_points_square_1 f_points_square_1
  repeat (first | apply t_bits_Ungray_le | with_reducible exact Le.refl _ | refine Le.bind ?_ (fun _ => ?_) | refine Le.ite ?_ ?_ | refine Le.sm (fun _ => ?_) (fun _ => ?_) | refine Le.loop (fun _ => ?_) _)
noncomputable def t_points_square_2 (label0 : Int) (t1 : Int) (t700 : Int) : Option (Fl × Fl) := (if 0 ≤ (IntKind.i64.wrap ((t1).tdiv (2 : Int))) then ((t_points_square_1 (ishr .i64 label0 (IntKind.i64.wrap ((t1).tdiv (2 : Int)))) t700).bind fun q2 => (if 0 ≤ (IntKind.i64.wrap ((t1).tdiv (2 : Int))) then ((t_points_square_1 (iand .i64 label0 (IntKind.i64.wrap ((ishl .i64 (1 : Int) (IntKind.i64.wrap ((t1).tdiv (2 : Int)))) - (1 : Int)))) t700).bind fun q7 => (some (q2, q7))) else none)) else none)
theorem t_points_square_2_le (label0 : Int) (t1 : Int) (t700 : Int) : Le (t_points_square_2 label0 t1 t700) (f_points_square_2 label0 t1 t700) := by
  unfold t_points_square_2 f_points_square_2
  repeat (first | apply t_points_square_1_le | with_reducible exact Le.refl _ | refine Le.bind ?_ (fun _ => ?_) | refine Le.ite ?_ ?_ | refine Le.sm (fun _ => ?_) (fun _ => ?_) | refine Le.loop (fun _ => ?_) _)
noncomputable def t_points_All.s1c (out6 : (List (Fl × Fl))) (t19 : Int) : Option (((List (Fl × Fl)) × Int) ⊕ (List (Fl × Fl))) := (if (decide (t19 < ((List.replicate ((4 : Int)).toNat (Fl.bits 0, Fl.bits 0)).length : Int))) = true then ((t_points_square_2 t19 (2 : Int) (1 : Int)).bind fun q19 => (if 0 ≤ t19 ∧ t19 < (out6.length : Int) then (some (Sum.inl ((out6.set (t19).toNat q19), (IntKind.i64.wrap (t19 + (1 : Int)))))) else none)) else (some (Sum.inr out6)))
theorem t_points_All.s1c_le (out6 : (List (Fl × Fl))) (t19 : Int) : Le (t_points_All.s1c out6 t19) (f_points_All.s1c out6 t19) := by
  unfold t_points_All.s1c f_points_All.s1c
  repeat (first | apply t_points_square_2_le | with_reducible exact Le.refl _ | refine Le.bind ?_ (fun _ => ?_) | refine Le.ite ?_ ?_ | refine Le.sm (fun _ => ?_) (fun _ => ?_) | refine Le.loop (fun _ => ?_) _)
noncomputable def t_points_All.s1 (s : ((List (Fl × Fl)) × Int)) : Option (((List (Fl × Fl)) × Int) ⊕ (List (Fl × Fl))) := t_points_All.s1c s.1 s.2
theorem t_points_All.s1_le (s : ((List (Fl × Fl)) × Int)) : Le (t_points_All.s1 s) (f_points_All.s1 s) := by
  unfold t_points_All.s1 f_points_All.s1
  repeat (first | apply t_points_All.s1c_le | with_reducible exact Le.refl _ | refine Le.bind ?_ (fun _ => ?_) | refine Le.ite ?_ ?_ | refine Le.sm (fun _ => ?_) (fun _ => ?_) | refine Le.loop (fun _ => ?_) _)
noncomputable def t_points_All  : Option ((List (Fl × Fl)) × Int) := ((f_points_of).bind fun q1 => (if (!q1.2) = true then (some ([], (1 : Int))) else (if 0 ≤ (4 : Int) ∧ (4 : Int) ≤ (4 : Int) ∧ (4 : Int) * 16 ≤ 281474976710656 then ((loopT t_points_All.s1 ((List.replicate ((4 : Int)).toNat (Fl.bits 0, Fl.bits 0)), (0 : Int))).bind (fun q41 => (some (q41, (0 : Int))))) else none)))
theorem t_points_All_le  : Le (t_points_All) (f_points_All) := by
  unfold t_points_All f_points_All
  repeat (first | apply t_points_All.s1_le | with_reducible exact Le.refl _ | refine Le.bind ?_ (fun _ => ?_) | refine Le.ite ?_ ?_ | refine Le.sm (fun _ => ?_) (fun _ => ?_) | refine Le.loop (fun _ => ?_) _)
noncomputable def t_points_Label (zx1 : (Fl × Fl)) : Option (Int × Int) := ((t_points_All).bind fun q1 => (if (q1.2 != (0 : Int)) = true then (some ((0 : Int), q1.2)) else ((loopT (f_points_Label.s1 zx1 q1) (0 : Int)).bind (fun q10 => sm q10 (fun q11 => (some ((0 : Int), (6 : Int)))) (fun q12 => (some (q12.1, q12.2)))))))
theorem t_points_Label_le (zx1 : (Fl × Fl)) : Le (t_points_Label zx1) (f_points_Label zx1) := by
  unfold t_points_Label f_points_Label
  repeat (first | apply t_points_All_le | with_reducible exact Le.refl _ | refine Le.bind ?_ (fun _ => ?_) | refine Le.ite ?_ ?_ | refine Le.sm (fun _ => ?_) (fun _ => ?_) | refine Le.loop (fun _ => ?_) _)
noncomputable def t_slice_axes (edge1 : Int) (zx2 : (Fl × Fl)) : Option (Int × (Fl × Fl) × Bool) := ((f_slice_Axis zx2.1 edge1).bind fun q3 => ((f_slice_Axis zx2.2 edge1).bind fun q5 => ((t_points_Label ((fofi q3.1), (fofi q5.1))).bind fun q7 => (some (q7.1, ((fofi q3.1), (fofi q5.1)), false)))))
theorem t_slice_axes_le (edge1 : Int) (zx2 : (Fl × Fl)) : Le (t_slice_axes edge1 zx2) (f_slice_axes edge1 zx2) := by
  unfold t_slice_axes f_slice_axes
  repeat (first | apply t_points_Label_le | with_reducible exact Le.refl _ | refine Le.bind ?_ (fun _ => ?_) | refine Le.ite ?_ ?_ | refine Le.sm (fun _ => ?_) (fun _ => ?_) | refine Le.loop (fun _ => ?_) _)
noncomputable def t_slice_decide (edge1 : Int) (zx2 : (Fl × Fl)) : Option (Int × (Fl × Fl) × Bool) := ((f_slice_nan zx2).bind fun q3 => ((if q3 = true then (some true) else ((f_math_IsInf zx2.1 (0 : Int)).bind fun q8 => (some q8))).bind fun z7 => ((if z7 = true then (some true) else ((f_math_IsInf zx2.2 (0 : Int)).bind fun q13 => (some q13))).bind fun z12 => (if z12 = true then (some ((0 : Int), (Fl.bits 0, Fl.bits 0), true)) else ((f_slice_ways).bind fun q15 => ((t_slice_axes edge1 zx2).bind fun q19 => (some (q19.1, q19.2.1, q19.2.2))))))))
theorem t_slice_decide_le (edge1 : Int) (zx2 : (Fl × Fl)) : Le (t_slice_decide edge1 zx2) (f_slice_decide edge1 zx2) := by
  unfold t_slice_decide f_slice_decide
  repeat (first | apply t_slice_axes_le | with_reducible exact Le.refl _ | refine Le.bind ?_ (fun _ => ?_) | refine Le.ite ?_ ?_ | refine Le.sm (fun _ => ?_) (fun _ => ?_) | refine Le.loop (fun _ => ?_) _)
noncomputable def t_slice_Decide (zx1 : (Fl × Fl)) : Option ((Int × (Fl × Fl) × Bool) × Int) := ((f_points_Edge).bind fun q3 => (if (q3.2 != (0 : Int)) = true then (some (((0 : Int), (Fl.bits 0, Fl.bits 0), false), (1 : Int))) else ((t_slice_decide q3.1 zx1).bind fun q5 => (some ((q5.1, q5.2.1, q5.2.2), (0 : Int))))))
theorem t_slice_Decide_le (zx1 : (Fl × Fl)) : Le (t_slice_Decide zx1) (f_slice_Decide zx1) := by
  unfold t_slice_Decide f_slice_Decide
  repeat (first | apply t_slice_decide_le | with_reducible exact Le.refl _ | refine Le.bind ?_ (fun _ => ?_) | refine Le.ite ?_ ?_ | refine Le.sm (fun _ => ?_) (fun _ => ?_) | refine Le.loop (fun _ => ?_) _)
noncomputable def t_feedback_Loop_Step (l0 : (List (Int × (List (Fl × Fl)) × (List (Fl × Fl)) × Int × Int × Fl × Int × Bool × Bool × (Fl × Fl)))) (il0 : Int) (sx1_V : (Fl × Fl)) (sx1_Lost : Bool) : Option ((Int × (Fl × Fl) × Bool) × Int × (List (Int × (List (Fl × Fl)) × (List (Fl × Fl)) × Int × Int × Fl × Int × Bool × Bool × (Fl × Fl)))) := ((t_grid_Check ([(sx1_V, sx1_Lost)])).bind fun q8 => (if (q8.2 != (0 : Int)) = true then (some (((0 : Int), (Fl.bits 0, Fl.bits 0), false), q8.2, l0)) else (if (((gt l0 il0).2.2.2.2.2.2.2.2.1) || sx1_Lost) = true then ((some (l0.set (il0).toNat ((gt l0 il0).1, (gt l0 il0).2.1, (gt l0 il0).2.2.1, (gt l0 il0).2.2.2.1, (gt l0 il0).2.2.2.2.1, (gt l0 il0).2.2.2.2.2.1, (gt l0 il0).2.2.2.2.2.2.1, (gt l0 il0).2.2.2.2.2.2.2.1, true, (gt l0 il0).2.2.2.2.2.2.2.2.2))).bind fun q17 => (some (((0 : Int), (Fl.bits 0, Fl.bits 0), true), (0 : Int), q17))) else ((loopT (f_feedback_Loop_Step.s1 l0 il0) (sx1_V.1, sx1_V.2, (1 : Int))).bind (fun q62 => ((t_feedback_turned (q62.1, q62.2) ((gt l0 il0).2.2.2.2.2.2.1)).bind fun q63 => ((farithS .quo q63.1 ((gt l0 il0).2.2.2.2.2.1)).bind fun q80 => ((farithS .quo q63.2 ((gt l0 il0).2.2.2.2.2.1)).bind fun q87 => ((some (l0.set (il0).toNat ((gt l0 il0).1, (gt l0 il0).2.1, (gt l0 il0).2.2.1, (gt l0 il0).2.2.2.1, (gt l0 il0).2.2.2.2.1, (gt l0 il0).2.2.2.2.2.1, (gt l0 il0).2.2.2.2.2.2.1, (gt l0 il0).2.2.2.2.2.2.2.1, (gt l0 il0).2.2.2.2.2.2.2.2.1, (q80, q87)))).bind fun q89 => ((some (q89.set (il0).toNat ((gt q89 il0).1, (gt q89 il0).2.1, (gt q89 il0).2.2.1, (gt q89 il0).2.2.2.1, (gt q89 il0).2.2.2.2.1, (gt q89 il0).2.2.2.2.2.1, (gt q89 il0).2.2.2.2.2.2.1, true, (gt q89 il0).2.2.2.2.2.2.2.2.1, (gt q89 il0).2.2.2.2.2.2.2.2.2))).bind fun q92 => (if (gt q92 il0).1 = (4 : Int) then ((t_slice_Decide ((gt q92 il0).2.2.2.2.2.2.2.2.2)).bind fun q107 => (if 0 ≤ (gt q92 il0).2.2.2.2.1 ∧ (gt q92 il0).2.2.2.2.1 < (64 : Int) then ((some (q92.set (il0).toNat ((gt q92 il0).1, (gt q92 il0).2.1, (((gt q92 il0).2.2.1).set ((gt q92 il0).2.2.2.2.1).toNat q107.1.2.1), (gt q92 il0).2.2.2.1, (gt q92 il0).2.2.2.2.1, (gt q92 il0).2.2.2.2.2.1, (gt q92 il0).2.2.2.2.2.2.1, (gt q92 il0).2.2.2.2.2.2.2.1, (gt q92 il0).2.2.2.2.2.2.2.2.1, (gt q92 il0).2.2.2.2.2.2.2.2.2))).bind fun q128 => ((some (q128.set (il0).toNat ((gt q128 il0).1, (gt q128 il0).2.1, (gt q128 il0).2.2.1, (gt q128 il0).2.2.2.1, (((IntKind.i64.wrap ((gt q128 il0).2.2.2.2.1 + (1 : Int)))).tmod (64 : Int)), (gt q128 il0).2.2.2.2.2.1, (gt q128 il0).2.2.2.2.2.2.1, (gt q128 il0).2.2.2.2.2.2.2.1, (gt q128 il0).2.2.2.2.2.2.2.2.1, (gt q128 il0).2.2.2.2.2.2.2.2.2))).bind fun q131 => (some ((q107.1.1, q107.1.2.1, q107.1.2.2), q107.2, q131)))) else none)) else none)))))))))))
theorem t_feedback_Loop_Step_le (l0 : (List (Int × (List (Fl × Fl)) × (List (Fl × Fl)) × Int × Int × Fl × Int × Bool × Bool × (Fl × Fl)))) (il0 : Int) (sx1_V : (Fl × Fl)) (sx1_Lost : Bool) : Le (t_feedback_Loop_Step l0 il0 sx1_V sx1_Lost) (f_feedback_Loop_Step l0 il0 sx1_V sx1_Lost) := by
  unfold t_feedback_Loop_Step f_feedback_Loop_Step
  repeat (first | apply t_grid_Check_le | apply t_feedback_turned_le | apply t_slice_Decide_le | with_reducible exact Le.refl _ | refine Le.bind ?_ (fun _ => ?_) | refine Le.ite ?_ ?_ | refine Le.sm (fun _ => ?_) (fun _ => ?_) | refine Le.loop (fun _ => ?_) _)
noncomputable def t_feedback_run.s1c (row2 : (List ((Fl × Fl) × Bool))) (l9 : (List (Int × (List (Fl × Fl)) × (List (Fl × Fl)) × Int × Int × Fl × Int × Bool × Bool × (Fl × Fl)))) (out13 : (List (Int × (Fl × Fl) × Bool))) (far14 : (List (Fl × Fl))) (t45 : Int) : Option (((List (Int × (List (Fl × Fl)) × (List (Fl × Fl)) × Int × Int × Fl × Int × Bool × Bool × (Fl × Fl))) × (List (Int × (Fl × Fl) × Bool)) × (List (Fl × Fl)) × Int) ⊕ ((List (Int × (Fl × Fl) × Bool)) × (List (Fl × Fl)))) := (if (decide (t45 < (row2.length : Int))) = true then (if 0 ≤ t45 ∧ t45 < (row2.length : Int) then ((t_feedback_Loop_Step l9 (0 : Int) ((gt row2 t45).1) ((gt row2 t45).2)).bind fun q35 => (if (!q35.1.2.2) = true then ((farithS .sub ((gt q35.2.2 (0 : Int)).2.2.2.2.2.2.2.2.2.1) q35.1.2.1.1).bind fun q74 => ((farithS .sub ((gt q35.2.2 (0 : Int)).2.2.2.2.2.2.2.2.2.2) q35.1.2.1.2).bind fun q81 => (f_feedback_run.j1 out13 far14 t45 q35 (q74, q81)))) else (f_feedback_run.j1 out13 far14 t45 q35 (Fl.bits 0, Fl.bits 0)))) else none) else (some (Sum.inr (out13, far14))))
theorem t_feedback_run.s1c_le (row2 : (List ((Fl × Fl) × Bool))) (l9 : (List (Int × (List (Fl × Fl)) × (List (Fl × Fl)) × Int × Int × Fl × Int × Bool × Bool × (Fl × Fl)))) (out13 : (List (Int × (Fl × Fl) × Bool))) (far14 : (List (Fl × Fl))) (t45 : Int) : Le (t_feedback_run.s1c row2 l9 out13 far14 t45) (f_feedback_run.s1c row2 l9 out13 far14 t45) := by
  unfold t_feedback_run.s1c f_feedback_run.s1c
  repeat (first | apply t_feedback_Loop_Step_le | with_reducible exact Le.refl _ | refine Le.bind ?_ (fun _ => ?_) | refine Le.ite ?_ ?_ | refine Le.sm (fun _ => ?_) (fun _ => ?_) | refine Le.loop (fun _ => ?_) _)
noncomputable def t_feedback_run.s1 (row2 : (List ((Fl × Fl) × Bool))) (s : ((List (Int × (List (Fl × Fl)) × (List (Fl × Fl)) × Int × Int × Fl × Int × Bool × Bool × (Fl × Fl))) × (List (Int × (Fl × Fl) × Bool)) × (List (Fl × Fl)) × Int)) : Option (((List (Int × (List (Fl × Fl)) × (List (Fl × Fl)) × Int × Int × Fl × Int × Bool × Bool × (Fl × Fl))) × (List (Int × (Fl × Fl) × Bool)) × (List (Fl × Fl)) × Int) ⊕ ((List (Int × (Fl × Fl) × Bool)) × (List (Fl × Fl)))) := t_feedback_run.s1c row2 s.1 s.2.1 s.2.2.1 s.2.2.2
theorem t_feedback_run.s1_le (row2 : (List ((Fl × Fl) × Bool))) (s : ((List (Int × (List (Fl × Fl)) × (List (Fl × Fl)) × Int × Int × Fl × Int × Bool × Bool × (Fl × Fl))) × (List (Int × (Fl × Fl) × Bool)) × (List (Fl × Fl)) × Int)) : Le (t_feedback_run.s1 row2 s) (f_feedback_run.s1 row2 s) := by
  unfold t_feedback_run.s1 f_feedback_run.s1
  repeat (first | apply t_feedback_run.s1c_le | with_reducible exact Le.refl _ | refine Le.bind ?_ (fun _ => ?_) | refine Le.ite ?_ ?_ | refine Le.sm (fun _ => ?_) (fun _ => ?_) | refine Le.loop (fun _ => ?_) _)
noncomputable def t_feedback_run (hx1 : (List (Fl × Fl))) (row2 : (List ((Fl × Fl) × Bool))) : Option ((List (Int × (Fl × Fl) × Bool)) × (List (Fl × Fl)) × Int) := ((t_feedback_New hx1).bind fun q1 => (if (q1.2 != (0 : Int)) = true then (some ([], [], q1.2)) else ((t_grid_Check row2).bind fun q7 => (if (q7.2 != (0 : Int)) = true then (some ([], [], q7.2)) else (if 0 ≤ (0 : Int) ∧ (0 : Int) ≤ (row2.length : Int) ∧ (row2.length : Int) * 32 ≤ 281474976710656 then (if 0 ≤ (0 : Int) ∧ (0 : Int) ≤ (row2.length : Int) ∧ (row2.length : Int) * 16 ≤ 281474976710656 then ((loopT (t_feedback_run.s1 row2) ([q1.1], (List.replicate ((0 : Int)).toNat ((0 : Int), (Fl.bits 0, Fl.bits 0), false)), (List.replicate ((0 : Int)).toNat (Fl.bits 0, Fl.bits 0)), (0 : Int))).bind (fun q83 => (some (q83.1, q83.2, (0 : Int))))) else none) else none)))))
theorem t_feedback_run_le (hx1 : (List (Fl × Fl))) (row2 : (List ((Fl × Fl) × Bool))) : Le (t_feedback_run hx1 row2) (f_feedback_run hx1 row2) := by
  unfold t_feedback_run f_feedback_run
  repeat (first | apply t_feedback_New_le | apply t_grid_Check_le | apply t_feedback_run.s1_le | with_reducible exact Le.refl _ | refine Le.bind ?_ (fun _ => ?_) | refine Le.ite ?_ ?_ | refine Le.sm (fun _ => ?_) (fun _ => ?_) | refine Le.loop (fun _ => ?_) _)
noncomputable def t_feedback_Run (hx1 : (List (Fl × Fl))) (row2 : (List ((Fl × Fl) × Bool))) : Option ((List (Int × (Fl × Fl) × Bool)) × Int) := ((t_feedback_run hx1 row2).bind fun q1 => (some (q1.1, q1.2.2)))
theorem t_feedback_Run_le (hx1 : (List (Fl × Fl))) (row2 : (List ((Fl × Fl) × Bool))) : Le (t_feedback_Run hx1 row2) (f_feedback_Run hx1 row2) := by
  unfold t_feedback_Run f_feedback_Run
  repeat (first | apply t_feedback_run_le | with_reducible exact Le.refl _ | refine Le.bind ?_ (fun _ => ?_) | refine Le.ite ?_ ?_ | refine Le.sm (fun _ => ?_) (fun _ => ?_) | refine Le.loop (fun _ => ?_) _)
noncomputable def t_points_At  : Option ((Fl × Fl) × Int) := ((f_points_of).bind fun q1 => (if (((!q1.2) || false) || false) = true then (some ((Fl.bits 0, Fl.bits 0), (1 : Int))) else ((t_points_square_2 (0 : Int) (2 : Int) (1 : Int)).bind fun q15 => (some (q15, (0 : Int))))))
theorem t_points_At_le  : Le (t_points_At) (f_points_At) := by
  unfold t_points_At f_points_At
  repeat (first | apply t_points_square_2_le | with_reducible exact Le.refl _ | refine Le.bind ?_ (fun _ => ?_) | refine Le.ite ?_ ?_ | refine Le.sm (fun _ => ?_) (fun _ => ?_) | refine Le.loop (fun _ => ?_) _)
noncomputable def t_foghorntop_awake  : Option Bool := ((t_feedback_Run ([(Fl.bits 4607182418800017408, Fl.bits 0)]) ([((Fl.bits 4607182418800017408, Fl.bits 4607182418800017408), false), ((Fl.bits 0, Fl.bits 0), true)])).bind fun q5 => ((t_points_At).bind fun q19 => ((t_points_Label q19.1).bind fun q25 => ((if (((((q5.2 == (0 : Int)) && (q19.2 == (0 : Int))) && (q25.2 == (0 : Int))) && (q25.1 == (0 : Int))) && ((q5.1.length : Int) == (2 : Int))) = true then (if 0 ≤ (0 : Int) ∧ (0 : Int) < (q5.1.length : Int) then (some (ceq ((gt q5.1 (0 : Int)).2.1) (Fl.bits 4607182418800017408, Fl.bits 4607182418800017408))) else none) else (some false)).bind fun z37 => ((if z37 = true then (if 0 ≤ (0 : Int) ∧ (0 : Int) < (q5.1.length : Int) then (some (!((gt q5.1 (0 : Int)).2.2))) else none) else (some false)).bind fun z45 => ((if z45 = true then (if 0 ≤ (1 : Int) ∧ (1 : Int) < (q5.1.length : Int) then (some ((gt q5.1 (1 : Int)).2.2)) else none) else (some false)).bind fun z49 => (some z49)))))))
theorem t_foghorntop_awake_le  : Le (t_foghorntop_awake) (f_foghorntop_awake) := by
  unfold t_foghorntop_awake f_foghorntop_awake
  repeat (first | apply t_feedback_Run_le | apply t_points_At_le | apply t_points_Label_le | with_reducible exact Le.refl _ | refine Le.bind ?_ (fun _ => ?_) | refine Le.ite ?_ ?_ | refine Le.sm (fun _ => ?_) (fun _ => ?_) | refine Le.loop (fun _ => ?_) _)
noncomputable def t_pulse_Check (p0_Rate : Int) (p0_Fore : Int) (p0_Taps : (List Fl)) : Option Int := (if ((((decide (p0_Rate < (1 : Int))) || (decide ((8 : Int) < p0_Rate))) || (decide (p0_Fore < (0 : Int)))) || (decide ((p0_Taps.length : Int) ≤ p0_Fore))) = true then (some (1 : Int)) else ((if (decide ((64 : Int) < (p0_Taps.length : Int))) = true then (some true) else (if 0 ≤ p0_Fore ∧ p0_Fore < (p0_Taps.length : Int) then (some (fne (gt p0_Taps p0_Fore) (Fl.bits 4607182418800017408))) else none)).bind fun z11 => (if z11 = true then (some (8 : Int)) else ((loopT (f_pulse_Check.s1 p0_Rate p0_Fore p0_Taps) ((Fl.bits 0), (0 : Int))).bind (fun q39 => sm q39 (fun q40 => (if (fgt q40 (Fl.bits 4616189618054758400)) = true then (some (8 : Int)) else (some (0 : Int)))) (fun q41 => (some q41)))))))
theorem t_pulse_Check_le (p0_Rate : Int) (p0_Fore : Int) (p0_Taps : (List Fl)) : Le (t_pulse_Check p0_Rate p0_Fore p0_Taps) (f_pulse_Check p0_Rate p0_Fore p0_Taps) := by
  unfold t_pulse_Check f_pulse_Check
  repeat (first | with_reducible exact Le.refl _ | refine Le.bind ?_ (fun _ => ?_) | refine Le.ite ?_ ?_ | refine Le.sm (fun _ => ?_) (fun _ => ?_) | refine Le.loop (fun _ => ?_) _)
theorem awake_ok : f_foghorntop_awake = some true := t_foghorntop_awake_le _ (by decide +kernel)
/-! ### The pulses, the taps -/
theorem loop_val {S R : Type} {f : S → Option (S ⊕ R)} (k : Nat) (s : S) (h : (loopN f k s).isSome = true) : loop f s = loopN f k s := by
  cases e : loopN f k s with
  | none => rw [e] at h; cases h
  | some r => exact loop_iff.2 ⟨k, e⟩
theorem mod_ok (x : Int) {n : Int} (h0 : 0 < n) (h1 : n ≤ 1000) : f_foghorntop_mod x n = some (x % n) := by
  unfold f_foghorntop_mod
  rw [if_pos (by omega)]
  have e := Int.tmod_eq_emod (a := x) (b := n)
  have b1 := Int.emod_nonneg x (show n ≠ 0 by omega)
  have b2 := Int.emod_lt_of_pos x h0
  split at e
  · rw [if_neg (by rw [decide_eq_true_eq]; omega), e]; congr 1; omega
  · rename_i hc
    rw [Int.natAbs_of_nonneg (by omega)] at e
    rw [if_pos (by rw [decide_eq_true_eq]; omega), e, w64 (by omega) (by omega)]
    congr 1; omega
def vb (p : Nat) (x : Fl) (k : Int) : Bool := match x with
  | .bits b => match Ieee.double.read b with
    | .number s m e => decide (-1074 ≤ e) && (sg s (m * 2 ^ (e + 1074).toNat) == k * ((2 ^ (1074 - p) : Nat) : Int))
    | _ => false
  | .nan => false
theorem vb_val {p : Nat} {x : Fl} {k : Int} (h : vb p x k = true) : Val p x k := by
  unfold vb at h
  cases x with
  | nan => cases h
  | bits b =>
    simp only at h
    cases hr : Ieee.double.read b with
    | number s m e =>
      rw [hr] at h
      simp only [Bool.and_eq_true, decide_eq_true_eq, beq_iff_eq] at h
      exact ⟨b, s, m, e, rfl, hr, h.1, h.2⟩
    | infinity s => rw [hr] at h; cases h
    | nan s t => rw [hr] at h; cases h
/-- what a pulse is -/
structure Pl (rate : Nat) (fore : Int) (P : List Fl) (T : Nat → Int) : Prop where
  r1 : 1 ≤ rate
  r8 : rate ≤ 8
  p1 : 1 ≤ P.length
  p64 : P.length ≤ 64
  c : f_pulse_Check (rate : Int) fore P = some 0
  t : ∀ i : Nat, i < P.length → Val 4 (gt P (i : Int)) (T i)
  s : sN (fun i => (T i).natAbs) P.length ≤ 64
theorem pl_of (rate : Nat) (fore : Int) (P : List Fl) (Tl : List Int) (hb : (decide (1 ≤ rate) && decide (rate ≤ 8) && decide (1 ≤ P.length) && decide (P.length ≤ 64) && decide (sN (fun i => (gt Tl (i : Int)).natAbs) P.length ≤ 64)) = true)
    (hv : ∀ i : Nat, i < P.length → vb 4 (gt P (i : Int)) (gt Tl (i : Int)) = true)
    (hc : f_pulse_Check (rate : Int) fore P = some 0) : Pl rate fore P (fun i => gt Tl (i : Int)) := by
  simp only [Bool.and_eq_true, decide_eq_true_eq] at hb
  exact ⟨hb.1.1.1.1, hb.1.1.1.2, hb.1.1.2, hb.1.2, hc, fun i hi => vb_val (hv i hi), hb.2⟩
theorem rate0 : f_pulse_Named = some ((1, 0, [Fl.bits 4607182418800017408]), 0) := by decide +kernel
theorem plz0 : Pl 1 0 [Fl.bits 4607182418800017408] (fun i => gt ([16] : List Int) (i : Int)) := pl_of _ _ _ _ (by decide) (by decide +kernel) (t_pulse_Check_le _ _ _ _ (by decide +kernel))
theorem rate1 : f_pulse_Named_10 = some ((3, 0, [Fl.bits 4607182418800017408]), 0) := by decide +kernel
theorem plz1 : Pl 3 0 [Fl.bits 4607182418800017408] (fun i => gt ([16] : List Int) (i : Int)) := pl_of _ _ _ _ (by decide) (by decide +kernel) (t_pulse_Check_le _ _ _ _ (by decide +kernel))
theorem rate2 : f_pulse_Named_10_2 = some ((2, 0, [Fl.bits 4607182418800017408, Fl.bits 4607182418800017408]), 0) := t_pulse_Named_10_2_le _ (by decide +kernel)
theorem plz2 : Pl 2 0 [Fl.bits 4607182418800017408, Fl.bits 4607182418800017408] (fun i => gt ([16, 16] : List Int) (i : Int)) := pl_of _ _ _ _ (by decide) (by decide +kernel) (t_pulse_Check_le _ _ _ _ (by decide +kernel))
theorem rate3 : f_pulse_Named_10_3 = some ((2, 1, [Fl.bits 4602678819172646912, Fl.bits 4607182418800017408, Fl.bits 4602678819172646912]), 0) := t_pulse_Named_10_3_le _ (by decide +kernel)
theorem plz3 : Pl 2 1 [Fl.bits 4602678819172646912, Fl.bits 4607182418800017408, Fl.bits 4602678819172646912] (fun i => gt ([8, 16, 8] : List Int) (i : Int)) := pl_of _ _ _ _ (by decide) (by decide +kernel) (t_pulse_Check_le _ _ _ _ (by decide +kernel))
theorem rate4 : f_pulse_Named_10_4 = some ((4, 3, [Fl.bits 4598175219545276416, Fl.bits 4602678819172646912, Fl.bits 4604930618986332160, Fl.bits 4607182418800017408, Fl.bits 4604930618986332160, Fl.bits 4602678819172646912, Fl.bits 4598175219545276416]), 0) := t_pulse_Named_10_4_le _ (by decide +kernel)
theorem plz4 : Pl 4 3 [Fl.bits 4598175219545276416, Fl.bits 4602678819172646912, Fl.bits 4604930618986332160, Fl.bits 4607182418800017408, Fl.bits 4604930618986332160, Fl.bits 4602678819172646912, Fl.bits 4598175219545276416] (fun i => gt ([4, 8, 12, 16, 12, 8, 4] : List Int) (i : Int)) := pl_of _ _ _ _ (by decide) (by decide +kernel) (t_pulse_Check_le _ _ _ _ (by decide +kernel))
theorem rate5 : f_pulse_Named_10_5 = some ((2, 3, [Fl.bits 13812540057145311232, Fl.bits 0, Fl.bits 4603241769126068224, Fl.bits 4607182418800017408, Fl.bits 4603241769126068224, Fl.bits 0, Fl.bits 13812540057145311232]), 0) := by decide +kernel
theorem plz5 : Pl 2 3 [Fl.bits 13812540057145311232, Fl.bits 0, Fl.bits 4603241769126068224, Fl.bits 4607182418800017408, Fl.bits 4603241769126068224, Fl.bits 0, Fl.bits 13812540057145311232] (fun i => gt ([-1, 0, 9, 16, 9, 0, -1] : List Int) (i : Int)) := pl_of _ _ _ _ (by decide) (by decide +kernel) (t_pulse_Check_le _ _ _ _ (by decide +kernel))
theorem rate6 : f_pulse_Named_10_6 = some ((4, 0, [Fl.bits 4607182418800017408, Fl.bits 4607182418800017408, Fl.bits 4607182418800017408, Fl.bits 4607182418800017408]), 0) := t_pulse_Named_10_6_le _ (by decide +kernel)
theorem plz6 : Pl 4 0 [Fl.bits 4607182418800017408, Fl.bits 4607182418800017408, Fl.bits 4607182418800017408, Fl.bits 4607182418800017408] (fun i => gt ([16, 16, 16, 16] : List Int) (i : Int)) := pl_of _ _ _ _ (by decide) (by decide +kernel) (t_pulse_Check_le _ _ _ _ (by decide +kernel))
theorem rate7 : f_pulse_Named_10_7 = some ((8, 0, [Fl.bits 4607182418800017408]), 0) := by decide +kernel
theorem plz7 : Pl 8 0 [Fl.bits 4607182418800017408] (fun i => gt ([16] : List Int) (i : Int)) := pl_of _ _ _ _ (by decide) (by decide +kernel) (t_pulse_Check_le _ _ _ _ (by decide +kernel))
theorem rated_ok (n : Int) : ∃ rate fore P T, f_foghorntop_rated n = some ((((rate : Nat) : Int), fore, P), 0) ∧ Pl rate fore P T := by
  unfold f_foghorntop_rated
  rw [mod_ok n (by decide) (by decide), Option.bind_some]
  have b1 := Int.emod_nonneg n (show (8 : Int) ≠ 0 by decide)
  have b2 := Int.emod_lt_of_pos n (show (0 : Int) < 8 by decide)
  generalize n % 8 = m at *
  have hm : m = 0 ∨ m = 1 ∨ m = 2 ∨ m = 3 ∨ m = 4 ∨ m = 5 ∨ m = 6 ∨ m = 7 := by omega
  rcases hm with rfl | rfl | rfl | rfl | rfl | rfl | rfl | rfl
  · rw [rate0]; exact ⟨_, _, _, _, rfl, plz0⟩
  · rw [rate1]; exact ⟨_, _, _, _, rfl, plz1⟩
  · rw [rate2]; exact ⟨_, _, _, _, rfl, plz2⟩
  · rw [rate3]; exact ⟨_, _, _, _, rfl, plz3⟩
  · rw [rate4]; exact ⟨_, _, _, _, rfl, plz4⟩
  · rw [rate5]; exact ⟨_, _, _, _, rfl, plz5⟩
  · rw [rate6]; exact ⟨_, _, _, _, rfl, plz6⟩
  · rw [rate7]; exact ⟨_, _, _, _, rfl, plz7⟩
/-! quarters -/
theorem quarter_ok {p : Nat} {z : Fl × Fl} {q : Z2} (h : CC p z q) (n : Int) : ∃ z', f_foghorntop_quarter z n = some z' ∧ CC p z' (rz (n % 4).toNat q) := by
  unfold f_foghorntop_quarter
  rw [mod_ok n (by decide) (by decide), Option.bind_some]
  have b1 := Int.emod_nonneg n (show (4 : Int) ≠ 0 by decide)
  have b2 := Int.emod_lt_of_pos n (show (0 : Int) < 4 by decide)
  generalize n % 4 = m at *
  have hm : m = 0 ∨ m = 1 ∨ m = 2 ∨ m = 3 := by omega
  rcases hm with rfl | rfl | rfl | rfl
  · exact ⟨_, rfl, h⟩
  · exact ⟨_, rfl, fneg_val h.v2, h.v1, fneg_cn h.c2, h.c1⟩
  · exact ⟨_, rfl, fneg_val h.v1, fneg_val h.v2, fneg_cn h.c1, fneg_cn h.c2⟩
  · refine ⟨_, rfl, ?_, fneg_val h.v1, h.c2, fneg_cn h.c1⟩
    show Val p z.2 (- -q.2)
    rw [Int.neg_neg]; exact h.v2
/-! taps -/
def c6 (k : Int) : Fl := .bits (Ieee.double.nearest (decide (k < 0)) k.natAbs (-6))
theorem c6_val {k : Int} (hk : k.natAbs < 9007199254740992) : Val 6 (c6 k) k := val_near (decide (k < 0)) (z := 6) (p := 6) (k := k) (total := k) (place := -6) (by decide) (by decide) (by decide) hk (by simp) (fun _ => rfl)
theorem c6_cn (k : Int) : Cn (c6 k) := ⟨_, rfl, nearest_lt _ _ _⟩
theorem tabQ : ∀ j : Nat, j < 129 → fquo (fofi ((j : Int) - 64)) (Fl.bits 4634204016564240384) = c6 ((j : Int) - 64) := by decide +kernel
theorem quo_ok {a : Int} (h : a.natAbs ≤ 64) : Val 6 (fquo (fofi a) (Fl.bits 4634204016564240384)) a ∧ Cn (fquo (fofi a) (Fl.bits 4634204016564240384)) := by
  have t := tabQ (a + 64).toNat (by omega)
  rw [show (((a + 64).toNat : Nat) : Int) - 64 = a by omega] at t
  rw [t]
  exact ⟨c6_val (by omega), c6_cn a⟩
theorem abs_ok {a : Int} (h : a.natAbs ≤ 1000) : f_foghorntop_abs a = some (a.natAbs : Int) := by
  unfold f_foghorntop_abs
  by_cases h0 : a < 0
  · rw [if_pos (by rw [decide_eq_true_eq]; exact h0), w64 (by omega) (by omega)]; congr 1; omega
  · rw [if_neg (by rw [decide_eq_true_eq]; exact h0)]; congr 1; omega
theorem sN_congr {a b : Nat → Nat} : ∀ {L}, (∀ i, i < L → a i = b i) → sN a L = sN b L
  | 0, _ => rfl
  | L + 1, h => by simp only [sN]; rw [sN_congr fun i hi => h i (by omega), h L (by omega)]
/-- taps that are under way: so much is left -/
structure Tq (h : List (Fl × Fl)) (H : Nat → Z2) (left : Int) : Prop where
  cc : ∀ i : Nat, i < h.length → CC 6 (gt h (i : Int)) (H i)
  b : ∀ i, i < h.length → (H i).1.natAbs ≤ 64 ∧ (H i).2.natAbs ≤ 64
  l : 0 ≤ left
  s : (sN (fun i => (H i).1.natAbs + (H i).2.natAbs) h.length : Int) + left ≤ 256
theorem gt_appL {α : Type} [Inhabited α] {l : List α} (x : α) {j : Nat} (h : j < l.length) : gt (l ++ [x]) (j : Int) = gt l (j : Int) := by
  rw [gt_nat (by simp; omega), gt_nat h, List.getElem_append_left h]
theorem gt_appR {α : Type} [Inhabited α] (l : List α) (x : α) : gt (l ++ [x]) (l.length : Int) = x := by
  rw [gt_nat (by simp)]; simp
theorem tq_app {h : List (Fl × Fl)} {H : Nat → Z2} {left a b : Int} {x : Fl × Fl} (t : Tq h H left) (ha : a.natAbs ≤ 64) (hb : b.natAbs ≤ 64) (hl : (a.natAbs : Int) + b.natAbs ≤ left) (hx : CC 6 x (a, b)) :
    ∃ H', Tq (h ++ [x]) H' (left - a.natAbs - b.natAbs) := by
  refine ⟨fun i => if i = h.length then (a, b) else H i, ⟨?_, ?_, by omega, ?_⟩⟩
  · intro i hi
    rw [List.length_append, List.length_singleton] at hi
    by_cases e : i = h.length
    · subst e
      rw [gt_appR, if_pos rfl]; exact hx
    · rw [gt_appL x (by omega), if_neg e]; exact t.cc i (by omega)
  · intro i hi
    rw [List.length_append, List.length_singleton] at hi
    by_cases e : i = h.length
    · rw [if_pos e]; exact ⟨ha, hb⟩
    · rw [if_neg e]; exact t.b i (by omega)
  · rw [List.length_append, List.length_singleton]
    simp only [sN]
    rw [sN_congr (b := fun i => (H i).1.natAbs + (H i).2.natAbs) (fun i hi => by rw [if_neg (by omega)]), if_true]
    have := t.s
    simp only
    omega
theorem size_ok {k : Int} (h0 : 0 ≤ k) (h2 : k ≤ 2) : ∃ size left S, loop f_foghorntop_taps.s1 ((Fl.bits 4607182418800017408), k) = some size ∧ Val 6 size S ∧ Cn size ∧ 0 ≤ S ∧ S ≤ 64 ∧ ftoi .i64 (fmul (fsub (Fl.bits 4616189618054758400) size) (Fl.bits 4634204016564240384)) = some left ∧ left = 256 - S := by
  have hk : k = 0 ∨ k = 1 ∨ k = 2 := by omega
  rcases hk with rfl | rfl | rfl
  · exact ⟨Fl.bits 4607182418800017408, 192, 64, loop_iff.2 ⟨5, by decide +kernel⟩, vb_val (by decide +kernel), ⟨_, rfl, by decide⟩, by decide, by decide, by decide +kernel, by decide⟩
  · exact ⟨Fl.bits 4602678819172646912, 224, 32, loop_iff.2 ⟨5, by decide +kernel⟩, vb_val (by decide +kernel), ⟨_, rfl, by decide⟩, by decide, by decide, by decide +kernel, by decide⟩
  · exact ⟨Fl.bits 4598175219545276416, 240, 16, loop_iff.2 ⟨5, by decide +kernel⟩, vb_val (by decide +kernel), ⟨_, rfl, by decide⟩, by decide, by decide, by decide +kernel, by decide⟩
theorem taps_made (z1 z2 z3 first : Int) (l : List Int) (z5 z6 z7 : Int) (z8 : List Bool) : ∃ h size turn H, f_foghorntop_taps z1 z2 z3 first l z5 z6 z7 z8 = some (h, size, turn) ∧ Tp h H := by
  unfold f_foghorntop_taps
  rw [mod_ok first (by decide) (by decide), Option.bind_some]
  have b1 := Int.emod_nonneg first (show (12 : Int) ≠ 0 by decide)
  have b2 := Int.emod_lt_of_pos first (show (0 : Int) < 12 by decide)
  have e1 : IntKind.i64.wrap ((first % 12).tdiv 4) = first % 12 / 4 := by
    rw [Int.tdiv_eq_ediv_of_nonneg b1, w64 (by omega) (by omega)]
  obtain ⟨size, left, S, es, vs, cs, s0, s1, el, hleft⟩ := size_ok (k := first % 12 / 4) (by omega) (by omega)
  rw [e1, es, Option.bind_some, mod_ok first (by decide) (by decide), Option.bind_some]
  obtain ⟨z, ez, cz⟩ := quarter_ok (p := 6) (z := (size, Fl.bits 0)) (q := (S, 0)) ⟨vs, zero_val 6, cs, cn_zero⟩ (first % 4)
  rw [ez, Option.bind_some, el, Option.bind_some]
  have zb := rz_abs (C := 64) (z := (S, 0)) (by simp only; omega) (by simp only; omega) ((first % 4 % 4).toNat)
  have zs' : (rz (first % 4 % 4).toNat (S, 0)).1.natAbs + (rz (first % 4 % 4).toNat (S, 0)).2.natAbs = S.natAbs := by
    have : ∀ r, (rz r (S, 0)).1.natAbs + (rz r (S, 0)).2.natAbs = S.natAbs := by
      intro r
      induction r with
      | zero => simp [rz, ru]
      | succ r ih =>
        have ih' : (ru S 0 r).1.natAbs + (ru S 0 r).2.natAbs = S.natAbs := ih
        show (-(ru S 0 r).2).natAbs + (ru S 0 r).1.natAbs = S.natAbs
        omega
    exact this _
  obtain ⟨r, er, H, o1, o2, t⟩ := loop_ex (f := f_foghorntop_taps.s2 l) (min (l.length / 2) 11)
    (fun m s => s.2.2 = ((2 * m : Nat) : Int) ∧ s.1.length = m + 1 ∧ ∃ H, Tq s.1 H s.2.1)
    (fun r => ∃ H, 1 ≤ r.length ∧ r.length ≤ 12 ∧ ∃ left, Tq r H left) (s := ([z], left, 0))
    ⟨rfl, rfl, fun _ => rz (first % 4 % 4).toNat (S, 0), ⟨fun i hi => by
        obtain rfl : i = 0 := by simpa using hi
        exact cz, fun i hi => zb, by show 0 ≤ left; omega, by
        show ((sN (fun i => (rz (first % 4 % 4).toNat (S, 0)).1.natAbs + (rz (first % 4 % 4).toNat (S, 0)).2.natAbs) 1 : Nat) : Int) + left ≤ 256
        simp only [sN]
        rw [zs']; omega⟩⟩
    (fun m hm s hs => by
      obtain ⟨h, lf, i⟩ := s
      obtain ⟨rfl, hl, H, t⟩ := hs
      simp only at hl t
      simp only [f_foghorntop_taps.s2, f_foghorntop_taps.s2c]
      have e2 : IntKind.i64.wrap (((2 * m : Nat) : Int) + 1) = ((2 * m + 1 : Nat) : Int) := by rw [w64 (by omega) (by omega)]; omega
      have e3 : IntKind.i64.wrap (((2 * m : Nat) : Int) + 2) = ((2 * (m + 1) : Nat) : Int) := by rw [w64 (by omega) (by omega)]; omega
      rw [e2, if_pos (by simp only [Bool.and_eq_true, decide_eq_true_eq]; omega), if_pos (by omega), mod_ok _ (by decide) (by decide), Option.bind_some, if_pos (by omega), mod_ok _ (by decide) (by decide), Option.bind_some]
      have a1 := Int.emod_nonneg (gt l ((2 * m : Nat) : Int)) (show (129 : Int) ≠ 0 by decide)
      have a2 := Int.emod_lt_of_pos (gt l ((2 * m : Nat) : Int)) (show (0 : Int) < 129 by decide)
      have a3 := Int.emod_nonneg (gt l ((2 * m + 1 : Nat) : Int)) (show (129 : Int) ≠ 0 by decide)
      have a4 := Int.emod_lt_of_pos (gt l ((2 * m + 1 : Nat) : Int)) (show (0 : Int) < 129 by decide)
      rw [w64 (x := gt l ((2 * m : Nat) : Int) % 129 - 64) (by omega) (by omega), w64 (x := gt l ((2 * m + 1 : Nat) : Int) % 129 - 64) (by omega) (by omega)]
      have a5 : (gt l ((2 * m : Nat) : Int) % 129 - 64).natAbs ≤ 64 := by omega
      have a6 : (gt l ((2 * m + 1 : Nat) : Int) % 129 - 64).natAbs ≤ 64 := by omega
      generalize gt l ((2 * m : Nat) : Int) % 129 - 64 = a at *
      generalize gt l ((2 * m + 1 : Nat) : Int) % 129 - 64 = b at *
      rw [abs_ok (by omega), Option.bind_some, abs_ok (by omega), Option.bind_some, w64 (x := (a.natAbs : Int) + (b.natAbs : Int)) (by omega) (by omega)]
      have ht0 := t.l
      have hts := t.s
      have fin : ∀ a b : Int, a.natAbs ≤ 64 → b.natAbs ≤ 64 → (a.natAbs : Int) + b.natAbs ≤ lf → ∃ s', f_foghorntop_taps.j1 h lf ((2 * m : Nat) : Int) a b = some (Sum.inl s') ∧ s'.2.2 = ((2 * (m + 1) : Nat) : Int) ∧ s'.1.length = m + 1 + 1 ∧ ∃ H, Tq s'.1 H s'.2.1 := by
        intro a b ha hb hab
        unfold f_foghorntop_taps.j1
        rw [abs_ok (by omega), Option.bind_some, abs_ok (by omega), Option.bind_some, if_pos (by simp only [List.length_singleton]; omega), e3]
        have qa := quo_ok ha
        have qb := quo_ok hb
        obtain ⟨H', t'⟩ := tq_app t ha hb hab (x := (fquo (fofi a) (Fl.bits 4634204016564240384), fquo (fofi b) (Fl.bits 4634204016564240384))) ⟨qa.1, qb.1, qa.2, qb.2⟩
        have e4 : IntKind.i64.wrap (IntKind.i64.wrap (lf - (a.natAbs : Int)) - (b.natAbs : Int)) = lf - a.natAbs - b.natAbs := by
          rw [w64 (x := lf - (a.natAbs : Int)) (by omega) (by omega), w64 (by omega) (by omega)]
        rw [e4]
        exact ⟨_, rfl, rfl, by simp only [List.length_append, List.length_singleton]; omega, H', t'⟩
      by_cases hc : lf < (a.natAbs : Int) + (b.natAbs : Int)
      · rw [if_pos (by rw [decide_eq_true_eq]; exact hc)]
        exact fin 0 0 (by decide) (by decide) (by simpa using ht0)
      · rw [if_neg (by rw [decide_eq_true_eq]; exact hc)]
        exact fin a b (by omega) (by omega) (by omega))
    (fun s hs => by
      obtain ⟨h, lf, i⟩ := s
      obtain ⟨rfl, hl, H, t⟩ := hs
      simp only at hl t
      simp only [f_foghorntop_taps.s2, f_foghorntop_taps.s2c]
      have e2 : IntKind.i64.wrap (((2 * (min (l.length / 2) 11) : Nat) : Int) + 1) = ((2 * (min (l.length / 2) 11) + 1 : Nat) : Int) := by rw [w64 (by omega) (by omega)]; omega
      rw [e2, if_neg (by simp only [Bool.and_eq_true, decide_eq_true_eq]; omega)]
      exact ⟨_, rfl, H, by omega, by omega, lf, t⟩)
  obtain ⟨lf, t⟩ := t
  rw [er]
  have := t.l
  have := t.s
  exact ⟨_, _, _, H, rfl, ⟨o1, o2, t.cc, t.b, by omega⟩⟩
/-! ### The law -/
/-- the points of a row of whole numbers -/
def pz (l : List Int) (k : Nat) : Z2 := (gt l ((2 * k : Nat) : Int) % 31 - 15, gt l ((2 * k + 1 : Nat) : Int) % 31 - 15)
theorem pz_b (l : List Int) (k : Nat) : (pz l k).1.natAbs ≤ 15 ∧ (pz l k).2.natAbs ≤ 15 := by
  have a1 := Int.emod_nonneg (gt l ((2 * k : Nat) : Int)) (show (31 : Int) ≠ 0 by decide)
  have a2 := Int.emod_lt_of_pos (gt l ((2 * k : Nat) : Int)) (show (0 : Int) < 31 by decide)
  have a3 := Int.emod_nonneg (gt l ((2 * k + 1 : Nat) : Int)) (show (31 : Int) ≠ 0 by decide)
  have a4 := Int.emod_lt_of_pos (gt l ((2 * k + 1 : Nat) : Int)) (show (0 : Int) < 31 by decide)
  simp only [pz]
  omega
/-- a row of floats that stands for points -/
def Rw (l : List (Fl × Fl)) (n : Nat) (Z : Nat → Z2) : Prop := l.length = n ∧ ∀ k : Nat, k < l.length → CC 0 (gt l (k : Int)) (Z k)
theorem rw_nil (Z : Nat → Z2) : Rw [] 0 Z := ⟨rfl, fun k hk => absurd hk (Nat.not_lt_zero _)⟩
theorem rw_app {l : List (Fl × Fl)} {n : Nat} {Z : Nat → Z2} (h : Rw l n Z) {x : Fl × Fl} (hx : CC 0 x (Z n)) : Rw (l ++ [x]) (n + 1) Z := by
  obtain ⟨rfl, h2⟩ := h
  refine ⟨by simp, fun k hk => ?_⟩
  rw [List.length_append, List.length_singleton] at hk
  by_cases e : k = l.length
  · subst e; rw [gt_appR]; exact hx
  · rw [gt_appL x (by omega)]; exact h2 k (by omega)
theorem linear_ok (z0 pulse z2 first : Int) (ts : List Int) (delay z6 z7 : Int) (z8 : List Bool) (one other : List Int) (turn : Int) : f_foghorntop_TopLinear z0 pulse z2 first ts delay z6 z7 z8 one other turn = some true := by
  unfold f_foghorntop_TopLinear
  obtain ⟨rate, fore, P, T, er, pl⟩ := rated_ok pulse
  rw [er, Option.bind_some]
  obtain ⟨h, size, q, H, eh, tp⟩ := taps_made z0 pulse z2 first ts delay z6 z7 z8
  rw [eh, Option.bind_some, mod_ok delay (by decide) (by decide), Option.bind_some]
  have d1 := Int.emod_nonneg delay (show (200 : Int) ≠ 0 by decide)
  have d2 := Int.emod_lt_of_pos delay (show (0 : Int) < 200 by decide)
  obtain ⟨late, hlate⟩ : ∃ late : Nat, delay % 200 = (late : Int) := ⟨(delay % 200).toNat, by omega⟩
  rw [hlate] at d2 ⊢
  have hd : late < 200 := by omega
  have hN : IntKind.i64.wrap ((imin (imin (one.length : Int) (other.length : Int)) 400).tdiv 2) = ((min (min one.length other.length) 400 / 2 : Nat) : Int) := by
    rw [imin_nat, show (400 : Int) = ((400 : Nat) : Int) from rfl, imin_nat, show (2 : Int) = ((2 : Nat) : Int) from rfl, tdiv_nat, w64 (by omega) (by omega)]
  generalize hNN : min (min one.length other.length) 400 / 2 = N at *
  obtain ⟨r, erl, hx, hy, hz, hq⟩ := loop_ex (f := f_foghorntop_TopLinear.s1 one other turn) N
    (fun i s => s.2.2.2.2 = (i : Int) ∧ Rw s.1 i (pz one) ∧ Rw s.2.1 i (pz other) ∧ Rw s.2.2.1 i (fun k => ca (pz one k) (pz other k)) ∧ Rw s.2.2.2.1 i (fun k => rz (turn % 4).toNat (pz one k)))
    (fun s => Rw s.1 N (pz one) ∧ Rw s.2.1 N (pz other) ∧ Rw s.2.2.1 N (fun k => ca (pz one k) (pz other k)) ∧ Rw s.2.2.2 N (fun k => rz (turn % 4).toNat (pz one k)))
    (s := ([], [], [], [], 0)) ⟨rfl, rw_nil _, rw_nil _, rw_nil _, rw_nil _⟩
    (fun i hi s hs => by
      obtain ⟨x, y, z, q, j⟩ := s
      obtain ⟨rfl, hx, hy, hz, hq⟩ := hs
      simp only at hx hy hz hq
      simp only [f_foghorntop_TopLinear.s1, f_foghorntop_TopLinear.s1c]
      have e1 : IntKind.i64.wrap (2 * (i : Int)) = ((2 * i : Nat) : Int) := by rw [w64 (by omega) (by omega)]; omega
      have e2 : IntKind.i64.wrap (((2 * i : Nat) : Int) + 1) = ((2 * i + 1 : Nat) : Int) := by rw [w64 (by omega) (by omega)]; omega
      have e3 : IntKind.i64.wrap ((i : Int) + 1) = ((i + 1 : Nat) : Int) := by rw [w64 (by omega) (by omega)]; omega
      have m31 := fun x : Int => mod_ok x (n := 31) (by decide) (by decide)
      have b1 := pz_b one i
      have b2 := pz_b other i
      rw [hN, e1, e2, e3, if_pos (by rw [decide_eq_true_eq]; omega), if_pos (by omega), m31, Option.bind_some, if_pos (by omega), m31, Option.bind_some, if_pos (by omega), m31, Option.bind_some, if_pos (by omega), m31, Option.bind_some]
      simp only [pz] at b1 b2
      rw [w64 (x := gt one ((2 * i : Nat) : Int) % 31 - 15) (by omega) (by omega), w64 (x := gt one ((2 * i + 1 : Nat) : Int) % 31 - 15) (by omega) (by omega), w64 (x := gt other ((2 * i : Nat) : Int) % 31 - 15) (by omega) (by omega), w64 (x := gt other ((2 * i + 1 : Nat) : Int) % 31 - 15) (by omega) (by omega)]
      rw [if_pos (by rw [hx.1, List.length_singleton]; omega), if_pos (by rw [hy.1, List.length_singleton]; omega), if_pos (by rw [hz.1, List.length_singleton]; omega)]
      have c1 : CC 0 (fofi (gt one ((2 * i : Nat) : Int) % 31 - 15), fofi (gt one ((2 * i + 1 : Nat) : Int) % 31 - 15)) (pz one i) := ⟨fofi_val (by omega), fofi_val (by omega), fofi_cn _, fofi_cn _⟩
      have c2 : CC 0 (fofi (gt other ((2 * i : Nat) : Int) % 31 - 15), fofi (gt other ((2 * i + 1 : Nat) : Int) % 31 - 15)) (pz other i) := ⟨fofi_val (by omega), fofi_val (by omega), fofi_cn _, fofi_cn _⟩
      obtain ⟨w, ew, c4⟩ := quarter_ok c1 turn
      rw [ew, Option.bind_some, if_pos (by rw [hq.1, List.length_singleton]; omega)]
      have c3 := cc_add (p := 0) (by decide) c1.v1 c1.v2 c2.v1 c2.v2 (b := pz other i) (a := pz one i) (C := 30) (by simp only [ca, pz]; omega) (by simp only [ca, pz]; omega) (by decide)
      exact ⟨_, rfl, rfl, rw_app hx c1, rw_app hy c2, rw_app (Z := fun k => ca (pz one k) (pz other k)) hz c3, rw_app (Z := fun k => rz (turn % 4).toNat (pz one k)) hq c4⟩)
    (fun s hs => by
      obtain ⟨x, y, z, q, j⟩ := s
      obtain ⟨rfl, hx, hy, hz, hq⟩ := hs
      simp only [f_foghorntop_TopLinear.s1, f_foghorntop_TopLinear.s1c]
      rw [hN, if_neg (by rw [decide_eq_true_eq]; omega)]
      exact ⟨_, rfl, hx, hy, hz, hq⟩)
  rw [erl, Option.bind_some]
  obtain ⟨x, y, z, q'⟩ := r
  simp only at hx hy hz hq
  have hNb : N ≤ 200 := by omega
  dsimp only
  rw [if_neg (by decide), awake_ok, Option.bind_some, Option.bind_some, if_neg (by decide)]
  have thr : ∀ (l : List (Fl × Fl)) (Z : Nat → Z2), Rw l N Z → (∀ k, k < N → (Z k).1.natAbs ≤ 30 ∧ (Z k).2.natAbs ≤ 30) →
      ∃ r, f_foghorntop_through (rate : Int) fore P (rate : Int) (late : Int) h [] l = some (r, true) ∧ r.length = slen N rate P.length + late + h.length * rate ∧
        ∀ j : Nat, j < slen N rate P.length + late + h.length * rate → CC 10 (gt r (j : Int)) (lyp late rate (slen N rate P.length) h.length H (fun j => shp rate P.length T Z N 0 j) h.length 0 j) := by
    intro l Z hl hZ
    obtain ⟨h1, h2⟩ := hl
    obtain ⟨r, e, l1, l2⟩ := through_ok pl.r1 pl.r8 pl.p1 pl.p64 pl.c pl.t pl.s (by omega) h2 (fun k hk => hZ k (by omega)) tp hd
    rw [h1] at l1 l2
    rw [l1] at l2
    exact ⟨r, e, l1, l2⟩
  obtain ⟨a, ea, la, va⟩ := thr x _ hx (fun k _ => by have := pz_b one k; omega)
  obtain ⟨b, eb, lb, vb⟩ := thr y _ hy (fun k _ => by have := pz_b other k; omega)
  obtain ⟨c, ec, lc, vc⟩ := thr z _ hz (fun k _ => by have := pz_b one k; have := pz_b other k; simp only [ca]; omega)
  obtain ⟨d, ed, ld, vd⟩ := thr q' _ hq (fun k _ => by
    have := pz_b one k
    have := rz_abs (C := 15) this.1 this.2 (turn % 4).toNat
    omega)
  rw [ea, Option.bind_some, eb, Option.bind_some, ec, Option.bind_some, ed, Option.bind_some]
  dsimp only
  rw [if_neg (by rw [la, lb, lc, ld]; simp)]
  generalize hM : slen N rate P.length + late + h.length * rate = M at *
  have hM2 : M ≤ 2000 := by
    have h1 := tp.l1
    have h2 := pl.r8
    have h3 := pl.p64
    have m1 : h.length * rate ≤ 12 * 8 := Nat.mul_le_mul h1 h2
    have m2 : slen N rate P.length ≤ 1664 := by
      unfold slen
      split
      · omega
      · have : (N - 1) * rate ≤ 200 * 8 := Nat.mul_le_mul (by omega) h2
        omega
    omega
  have key : loop (f_foghorntop_TopLinear.s2 turn (a, true) (b, true) (c, true) (d, true)) 0 = some (Sum.inl ()) := by
    refine loop_for1 M _ (fun i hi => ?_) ?_
    · simp only [f_foghorntop_TopLinear.s2, f_foghorntop_TopLinear.s2c]
      rw [if_pos (by rw [decide_eq_true_eq]; omega), if_pos (by omega), if_pos (by omega), if_pos (by omega)]
      have wa := va i hi
      have wb := vb i hi
      have wc := vc i hi
      have wd := vd i hi
      have shca : (fun j => shp rate P.length T (fun k => ca (pz one k) (pz other k)) N 0 j) = fun j => ca (shp rate P.length T (pz one) N 0 j) (shp rate P.length T (pz other) N 0 j) := funext fun j => shp_ca _ _ _ _ _ _ _ _
      have shrz : (fun j => shp rate P.length T (fun k => rz (turn % 4).toNat (pz one k)) N 0 j) = fun j => rz (turn % 4).toNat (shp rate P.length T (pz one) N 0 j) := funext fun j => shp_rz _ _ _ _ _ _ _ _
      rw [shca, lyp_ca] at wc
      rw [shrz, lyp_rz] at wd
      have bnd : ∀ Z : Nat → Z2, (∀ k, k < N → (Z k).1.natAbs ≤ 30 ∧ (Z k).2.natAbs ≤ 30) → (lyp late rate (slen N rate P.length) h.length H (fun j => shp rate P.length T Z N 0 j) h.length 0 i).1.natAbs ≤ 2949120 ∧ (lyp late rate (slen N rate P.length) h.length H (fun j => shp rate P.length T Z N 0 j) h.length 0 i).2.natAbs ≤ 2949120 := by
        intro Z hZ
        have h1 := tp.l1
        have h2 := pl.s
        have := lyp_bd (late := late) (apart := rate) (nx := slen N rate P.length) (L := h.length) (H := H) (X := fun j => shp rate P.length T Z N 0 j) (A := 64) (B := 1920) tp.b (fun j _ => by
          have := shp_bd (rate := rate) (L := P.length) (T := T) (B := 30) hZ (k := N) (i := 0) (.inr ⟨rfl, rfl⟩) j
          omega) (k := h.length) (i := 0) (Nat.zero_le _) i
        omega
      have ba := bnd (pz one) (fun k _ => by have := pz_b one k; omega)
      have bb := bnd (pz other) (fun k _ => by have := pz_b other k; omega)
      have s1 := cc_add (p := 10) (by decide) wa.v1 wa.v2 wb.v1 wb.v2 (C := 5898240) (by simp only [ca]; omega) (by simp only [ca]; omega) (by decide)
      have e1 : ceq (cadd (gt a (i : Int)) (gt b (i : Int))) (gt c (i : Int)) = true := by
        unfold ceq
        rw [feq_val s1.v1 wc.v1, feq_val s1.v2 wc.v2]; rfl
      rw [e1, if_neg (by decide)]
      obtain ⟨w, ew, cw⟩ := quarter_ok wa turn
      have e2 : ceq w (gt d (i : Int)) = true := by
        unfold ceq
        rw [feq_val cw.v1 wd.v1, feq_val cw.v2 wd.v2]; rfl
      rw [if_pos (by omega), ew, Option.bind_some, if_pos (by omega), e2, Option.bind_some, if_neg (by decide), w64 (by omega) (by omega)]; rfl
    · simp only [f_foghorntop_TopLinear.s2, f_foghorntop_TopLinear.s2c]
      rw [if_neg (by rw [decide_eq_true_eq]; omega)]
  rw [key]
  rfl
/-! the same with what is said of the arguments -/
theorem linear_law {Wsize Wpulse Worder Wfirst Wts Rts Wdelay Wpts Wblocks Wbits Rbits Wone Rone Wother Rother Wturn : Prop} (size : Int) (_ : Wsize) (pulse : Int) (_ : Wpulse) (order : Int) (_ : Worder) (first : Int) (_ : Wfirst) (ts : List Int) (_ : Wts) (_ : Rts) (delay : Int) (_ : Wdelay) (pts : Int) (_ : Wpts) (blocks : Int) (_ : Wblocks) (bits : List Bool) (_ : Wbits) (_ : Rbits) (one : List Int) (_ : Wone) (_ : Rone) (other : List Int) (_ : Wother) (_ : Rother) (turn : Int) (_ : Wturn) : f_foghorntop_TopLinear size pulse order first ts delay pts blocks bits one other turn = some true := linear_ok size pulse order first ts delay pts blocks bits one other turn

end Go.Proofs.Ytgdhjjdgghilhaa
