/- TurnsHeard: the plain law. -/
import Derived.Test.YtienojgmpjpcjaaG4
import Derived.Test.YtienojgmpjpcjaaGlK
import Derived.Test.YtienojgmpjpcjaaGlY
set_option linter.unusedVariables false
set_option linter.unusedSimpArgs false
set_option maxRecDepth 8000
set_option exponentiation.threshold 3000
namespace Go.Proofs.Ytienojgmpjpcjaa
open GL Go

/-! ### What a float stands for -/
theorem log2_mul_pow {m : Nat} (hm : m ≠ 0) (a : Nat) : (m * 2 ^ a).log2 = m.log2 + a := by
  have h0 : m * 2 ^ a ≠ 0 := Nat.mul_ne_zero hm (Nat.ne_of_gt (Nat.two_pow_pos a))
  rw [Nat.log2_eq_iff h0]
  have l1 := Nat.log2_self_le hm
  have l2 : m < 2 ^ (m.log2 + 1) := Nat.lt_log2_self
  constructor
  · rw [Nat.pow_add]; exact Nat.mul_le_mul_right _ l1
  · rw [show m.log2 + a + 1 = m.log2 + 1 + a by omega, Nat.pow_add _ _ a]; exact Nat.mul_lt_mul_of_pos_right l2 (Nat.two_pow_pos a)
theorem cut_exact (neg : Bool) {m : Nat} (hm : m ≠ 0) (d : Nat) : Ieee.Toward.even.cut neg (m * 2 ^ d) d = m := by
  unfold Ieee.Toward.cut
  rw [log2_mul_pow hm, Nat.min_eq_left (by omega)]
  have hp := Nat.two_pow_pos d
  simp only [Nat.one_shiftLeft, Nat.mul_div_cancel _ hp, Nat.mul_mod_left]
  have e1 : decide (2 ^ d < 2 * 0) = false := by rw [decide_eq_false_iff_not]; omega
  have e2 : (2 ^ d == 2 * 0) = false := by rw [beq_eq_false_iff_ne]; omega
  rw [e1, e2]; simp
theorem nearest_eq (neg : Bool) {mag : Nat} (place : Int) (h : mag ≠ 0) : Ieee.double.nearest neg mag place = Ieee.double.word neg (min ((max (place + mag.log2 - 52) (-1074) - (-1074)).toNat * 4503599627370496 + Ieee.Toward.even.cut neg (mag <<< (place - max (place + mag.log2 - 52) (-1074)).toNat) (max (place + mag.log2 - 52) (-1074) - place).toNat) 9218868437227405312) := by
  unfold Ieee.Format.nearest
  rw [if_neg h]
  have e1 : (Ieee.double.fractionBits : Nat) = 52 := rfl
  have e2 : Ieee.double.leastPlace = -1074 := by decide
  have e3 : Ieee.double.binade = 4503599627370496 := by decide
  have e4 : Ieee.double.infRung = 9218868437227405312 := by decide
  simp only [e1, e2, e3, e4]
  rfl
theorem read_eq (w : Nat) : Ieee.double.read w = (if w % 9223372036854775808 < 4503599627370496 then .number (w / 9223372036854775808 % 2 == 1) (w % 9223372036854775808) (-1074)
    else if w % 9223372036854775808 < 9218868437227405312 then .number (w / 9223372036854775808 % 2 == 1) (4503599627370496 + w % 9223372036854775808 % 4503599627370496) (-1074 + ((w % 9223372036854775808 / 4503599627370496 - 1 : Nat) : Int))
    else if w % 9223372036854775808 = 9218868437227405312 then .infinity (w / 9223372036854775808 % 2 == 1) else .nan (w / 9223372036854775808 % 2 == 1) (w % 9223372036854775808 - 9218868437227405312)) := by
  have e1 : Ieee.double.signWeight = 9223372036854775808 := by decide
  have e2 : Ieee.double.leastPlace = -1074 := by decide
  have e3 : Ieee.double.binade = 4503599627370496 := by decide
  have e4 : Ieee.double.infRung = 9218868437227405312 := by decide
  simp only [Ieee.Format.read, e1, e2, e3, e4]
theorem word_eq (neg : Bool) (r : Nat) : Ieee.double.word neg r = if neg then 9223372036854775808 + r else r := by
  have e1 : Ieee.double.signWeight = 9223372036854775808 := by decide
  simp only [Ieee.Format.word, e1]
theorem read_word (neg : Bool) {t kept : Nat} (h : kept < 9007199254740992) (h2 : t = 0 ∨ 4503599627370496 ≤ kept) (ht : t < 2000) :
    ∃ m e, Ieee.double.read (Ieee.double.word neg (min (t * 4503599627370496 + kept) 9218868437227405312)) = .number neg m e ∧ -1074 ≤ e ∧ m * 2 ^ (e + 1074).toNat = kept * 2 ^ t := by
  rw [Nat.min_eq_left (by omega), word_eq, read_eq]
  generalize hr : t * 4503599627370496 + kept = r
  have hlt : r < 9218868437227405312 := by omega
  generalize hw : (if neg then 9223372036854775808 + r else r) = w
  have w1 : w % 9223372036854775808 = r := by
    cases neg
    · simp at hw; omega
    · simp at hw; omega
  have w2 : (w / 9223372036854775808 % 2 == 1) = neg := by
    cases neg
    · simp only [Bool.false_eq_true, if_false] at hw
      rw [beq_eq_false_iff_ne]; omega
    · simp only [if_true] at hw
      rw [beq_iff_eq]; omega
  rw [w1, w2]
  by_cases hc : r < 4503599627370496
  · rw [if_pos hc]
    have : t = 0 := by omega
    subst this
    refine ⟨_, _, rfl, by omega, ?_⟩
    have : r = kept := by omega
    subst this
    rfl
  · rw [if_neg hc, if_pos hlt]
    refine ⟨_, _, rfl, by omega, ?_⟩
    have e1 : 4503599627370496 + r % 4503599627370496 = kept := by omega
    have e2 : (-1074 + ((r / 4503599627370496 - 1 : Nat) : Int) + 1074).toNat = t := by omega
    rw [e1, e2]
/-- a number that the format has is written as it is -/
theorem near (neg : Bool) {z p K mag : Nat} {place : Int} (hm : mag ≠ 0) (hK : K < 9007199254740992) (hp : p ≤ 800) (hz : p ≤ z) (hpl : 0 ≤ place + z) (h : mag * 2 ^ (place + z).toNat = K * 2 ^ (z - p)) :
    ∃ m e, Ieee.double.read (Ieee.double.nearest neg mag place) = .number neg m e ∧ -1074 ≤ e ∧ m * 2 ^ (e + 1074).toNat = K * 2 ^ (1074 - p) := by
  have hK0 : K ≠ 0 := by
    intro e
    subst e
    rw [Nat.zero_mul] at h
    exact Nat.mul_ne_zero hm (Nat.ne_of_gt (Nat.two_pow_pos _)) h
  have hL : K.log2 ≤ 52 := by
    have := (Nat.log2_lt hK0 (k := 53)).2 (by simpa using hK)
    omega
  have hlog : place + (mag.log2 : Int) = K.log2 - p := by
    have a1 := log2_mul_pow hm (place + z).toNat
    have a2 := log2_mul_pow hK0 (z - p)
    rw [h] at a1
    omega
  rw [nearest_eq neg place hm]
  have hlast : max (place + mag.log2 - 52) (-1074) = max ((K.log2 : Int) - p - 52) (-1074) := by rw [hlog]
  rw [hlast]
  generalize hl : max ((K.log2 : Int) - p - 52) (-1074) = last
  -- the digits that are kept
  have hlp : last ≤ -p := by omega
  have key : mag * 2 ^ (place - last).toNat = (K * 2 ^ (-p - last).toNat) * 2 ^ (last - place).toNat := by
    have hP := Nat.two_pow_pos (place + z).toNat
    apply Nat.eq_of_mul_eq_mul_right hP
    have s1 : mag * 2 ^ (place - last).toNat * 2 ^ (place + z).toNat = (mag * 2 ^ (place + z).toNat) * 2 ^ (place - last).toNat := by
      rw [Nat.mul_assoc, Nat.mul_comm (2 ^ (place - last).toNat), ← Nat.mul_assoc]
    rw [s1, h, Nat.mul_assoc, ← Nat.pow_add, Nat.mul_assoc K, ← Nat.pow_add, Nat.mul_assoc K, ← Nat.pow_add]
    congr 2
    omega
  have hk0 : K * 2 ^ (-p - last).toNat ≠ 0 := Nat.mul_ne_zero hK0 (Nat.ne_of_gt (Nat.two_pow_pos _))
  rw [Nat.shiftLeft_eq, key, cut_exact neg hk0]
  have hkl := log2_mul_pow hK0 (-p - last).toNat
  have hk53 : K * 2 ^ (-p - last).toNat < 9007199254740992 := by
    have l2 : K * 2 ^ (-p - last).toNat < 2 ^ ((K * 2 ^ (-p - last).toNat).log2 + 1) := Nat.lt_log2_self
    have l3 : 2 ^ ((K * 2 ^ (-p - last).toNat).log2 + 1) ≤ 2 ^ 53 := Nat.pow_le_pow_right (by decide) (by omega)
    have l4 : (2 : Nat) ^ 53 = 9007199254740992 := by decide
    omega
  have hk52 : (last - (-1074)).toNat = 0 ∨ 4503599627370496 ≤ K * 2 ^ (-p - last).toNat := by
    by_cases hc : last = -1074
    · left; omega
    · right
      have l1 := Nat.log2_self_le hk0
      have l3 : 2 ^ 52 ≤ 2 ^ (K * 2 ^ (-p - last).toNat).log2 := Nat.pow_le_pow_right (by decide) (by omega)
      have l4 : (2 : Nat) ^ 52 = 4503599627370496 := by decide
      omega
  obtain ⟨m, e, r1, r2, r3⟩ := read_word neg hk53 hk52 (by omega)
  refine ⟨m, e, r1, r2, r3.trans ?_⟩
  rw [Nat.mul_assoc, ← Nat.pow_add]
  congr 2
  omega
def sg (s : Bool) (m : Nat) : Int := if s then -(m : Int) else (m : Int)
theorem sg_mul (s : Bool) (m n : Nat) : sg s (m * n) = sg s m * (n : Int) := by
  cases s <;> simp [sg, Int.neg_mul]
theorem signed_eq (s : Bool) (m u : Nat) : Ieee.signed s m u = sg s (m * 2 ^ u) := by
  unfold Ieee.signed sg
  rw [Nat.shiftLeft_eq]
/-- 'x' stands for 'k / 2 ^ p' -/
def Val (p : Nat) (x : Fl) (k : Int) : Prop := ∃ b s m e, x = .bits b ∧ Ieee.double.read b = .number s m e ∧ -1074 ≤ e ∧ sg s (m * 2 ^ (e + 1074).toNat) = k * ((2 ^ (1074 - p) : Nat) : Int)
theorem pow_pos_i (a : Nat) : (0 : Int) < ((2 ^ a : Nat) : Int) := by have := Nat.two_pow_pos a; omega
theorem val_near (neg : Bool) {z p : Nat} {k total : Int} {place : Int} (hp : p ≤ 800) (hz : p ≤ z) (hpl : 0 ≤ place + z) (hk : k.natAbs < 9007199254740992)
    (h : total * ((2 ^ (place + z).toNat : Nat) : Int) = k * ((2 ^ (z - p) : Nat) : Int)) (hs : total ≠ 0 → neg = decide (total < 0)) : Val p (.bits (Ieee.double.nearest neg total.natAbs place)) k := by
  have p1 := pow_pos_i (place + z).toNat
  have p2 := pow_pos_i (z - p)
  by_cases h0 : total = 0
  · subst h0
    rw [Int.zero_mul] at h
    have hk0 : k = 0 := by
      rcases Int.mul_eq_zero.1 h.symm with h | h
      · exact h
      · omega
    subst hk0
    refine ⟨_, neg, 0, -1074, rfl, ?_, by decide, ?_⟩
    · have : Ieee.double.nearest neg (0 : Int).natAbs place = Ieee.double.word neg 0 := rfl
      rw [this]
      cases neg <;> decide
    · rw [Nat.zero_mul, Int.zero_mul]; cases neg <;> rfl
  · obtain ⟨m, e, r1, r2, r3⟩ := near neg (mag := total.natAbs) (K := k.natAbs) (place := place) (z := z) (p := p) (by omega) hk hp hz hpl (by
      have := congrArg Int.natAbs h
      rw [Int.natAbs_mul, Int.natAbs_mul, Int.natAbs_natCast, Int.natAbs_natCast] at this
      exact this)
    refine ⟨_, neg, m, e, rfl, r1, r2, ?_⟩
    rw [r3, sg_mul, hs h0]
    congr 1
    by_cases ht : total < 0
    · have : k < 0 := by
        apply Int.not_le.mp
        intro hk
        have a1 : 0 ≤ k * ((2 ^ (z - p) : Nat) : Int) := Int.mul_nonneg hk (by omega)
        have a2 : total * ((2 ^ (place + z).toNat : Nat) : Int) < 0 := Int.mul_neg_of_neg_of_pos ht p1
        omega
      rw [decide_eq_true ht]; simp only [sg, if_true]; omega
    · have : 0 ≤ k := by
        apply Int.not_lt.mp
        intro hk
        have a1 : k * ((2 ^ (z - p) : Nat) : Int) < 0 := Int.mul_neg_of_neg_of_pos hk p2
        have a2 : 0 ≤ total * ((2 ^ (place + z).toNat : Nat) : Int) := Int.mul_nonneg (by omega) (by omega)
        omega
      rw [decide_eq_false ht]; simp only [sg, Bool.false_eq_true, if_false]; omega
theorem fofi_val {k : Int} (hk : k.natAbs < 9007199254740992) : Val 0 (fofi k) k := by
  have := val_near (decide (k < 0)) (z := 0) (p := 0) (k := k) (total := k) (place := 0) (by decide) (by decide) (by decide) hk rfl (fun _ => rfl)
  exact this
theorem zero_val (p : Nat) : Val p (.bits 0) 0 := by
  refine ⟨0, false, 0, -1074, rfl, by decide, by decide, ?_⟩
  rw [Nat.zero_mul, Int.zero_mul]; rfl
theorem sum_read {a b : Nat} {s t : Bool} {m n : Nat} {i j : Int} {p : Nat} {k l : Int} (hp : p ≤ 800) (hi : -1074 ≤ i) (hj : -1074 ≤ j)
    (h1 : sg s (m * 2 ^ (i + 1074).toNat) = k * ((2 ^ (1074 - p) : Nat) : Int)) (h2 : sg t (n * 2 ^ (j + 1074).toNat) = l * ((2 ^ (1074 - p) : Nat) : Int)) (hk : (k + l).natAbs < 9007199254740992) :
    ∃ d, (Ieee.Datum.number s m i).sum (.number t n j) = some d ∧ Val p (.bits (Ieee.double.write d)) (k + l) := by
  refine ⟨_, rfl, ?_⟩
  refine val_near (z := 1074) (p := p) (k := k + l) _ hp (by omega) (by omega) hk ?_ (fun h => by rw [if_neg h])
  rw [signed_eq, signed_eq, Int.add_mul, Int.add_mul, ← h1, ← h2, ← sg_mul, ← sg_mul, Nat.mul_assoc, ← Nat.pow_add, Nat.mul_assoc, ← Nat.pow_add]
  congr 4 <;> omega
theorem fadd_val {p : Nat} {x y : Fl} {k l : Int} (h1 : Val p x k) (h2 : Val p y l) (hp : p ≤ 800) (hk : (k + l).natAbs < 9007199254740992) : Val p (fadd x y) (k + l) := by
  obtain ⟨a, s, m, i, rfl, r1, hi, v1⟩ := h1
  obtain ⟨b, t, n, j, rfl, r2, hj, v2⟩ := h2
  obtain ⟨d, e1, e2⟩ := sum_read (a := a) (b := b) hp hi hj v1 v2 hk
  have : fadd (.bits a) (.bits b) = .bits (Ieee.double.write d) := by
    show farith .add _ _ = _
    have : floatBits .add .f64 a b = some (Ieee.double.write d) := by
      show Ieee.double.add a b = _
      unfold Ieee.Format.add
      rw [r1, r2, e1]; rfl
    simp only [farith, this]
  rw [this]; exact e2
theorem sg_not (s : Bool) (m : Nat) : sg (!s) m = - sg s m := by cases s <;> simp [sg]
theorem fsub_val {p : Nat} {x y : Fl} {k l : Int} (h1 : Val p x k) (h2 : Val p y l) (hp : p ≤ 800) (hk : (k - l).natAbs < 9007199254740992) : Val p (fsub x y) (k - l) := by
  obtain ⟨a, s, m, i, rfl, r1, hi, v1⟩ := h1
  obtain ⟨b, t, n, j, rfl, r2, hj, v2⟩ := h2
  obtain ⟨d, e1, e2⟩ := sum_read (a := a) (b := b) (t := !t) (n := n) (l := -l) hp hi hj v1 (by rw [sg_not, v2, Int.neg_mul]) (by rw [← Int.sub_eq_add_neg]; exact hk)
  have : fsub (.bits a) (.bits b) = .bits (Ieee.double.write d) := by
    show farith .sub _ _ = _
    have : floatBits .sub .f64 a b = some (Ieee.double.write d) := by
      show Ieee.double.sub a b = _
      unfold Ieee.Format.sub
      rw [r1, r2]
      show (Ieee.Datum.sum _ (Ieee.Datum.number (!t) n j)).map _ = _
      rw [e1]; rfl
    simp only [farith, this]
  rw [this, Int.sub_eq_add_neg]; exact e2
theorem sg_prod (s t : Bool) (m n : Nat) : sg (s ^^ t) (m * n) = sg s m * sg t n := by
  cases s <;> cases t <;> simp [sg, Int.neg_mul, Int.mul_neg]
theorem fmul_val {p q : Nat} {x y : Fl} {k l : Int} (h1 : Val p x k) (h2 : Val q y l) (hp : p + q ≤ 800) (hk : (k * l).natAbs < 9007199254740992) : Val (p + q) (fmul x y) (k * l) := by
  obtain ⟨a, s, m, i, rfl, r1, hi, v1⟩ := h1
  obtain ⟨b, t, n, j, rfl, r2, hj, v2⟩ := h2
  have hw : floatBits .mul .f64 a b = some (Ieee.double.nearest (s ^^ t) (m * n) (i + j)) := by
    show Ieee.double.mul a b = _
    unfold Ieee.Format.mul
    rw [r1, r2]; rfl
  have hf : fmul (.bits a) (.bits b) = .bits (Ieee.double.nearest (s ^^ t) (m * n) (i + j)) := by
    show farith .mul _ _ = _
    simp only [farith, hw]
  rw [hf]
  have hab : (sg (s ^^ t) (m * n)).natAbs = m * n := by unfold sg; split <;> omega
  rw [← hab]
  refine val_near (z := 2148) (p := p + q) (k := k * l) (total := sg (s ^^ t) (m * n)) _ hp (by omega) (by omega) hk ?_ (fun h => ?_)
  · rw [← sg_mul]
    have e : m * n * 2 ^ (i + j + ((2148 : Nat) : Int)).toNat = (m * 2 ^ (i + 1074).toNat) * (n * 2 ^ (j + 1074).toNat) := by
      rw [show (i + j + ((2148 : Nat) : Int)).toNat = (i + 1074).toNat + (j + 1074).toNat by omega, Nat.pow_add]
      rw [Nat.mul_assoc, Nat.mul_assoc]
      congr 1
      rw [← Nat.mul_assoc, ← Nat.mul_assoc, Nat.mul_comm n]
    rw [e, sg_prod, v1, v2, show 2148 - (p + q) = (1074 - p) + (1074 - q) by omega, Nat.pow_add, Int.natCast_mul]
    generalize ((2 ^ (1074 - p) : Nat) : Int) = P
    generalize ((2 ^ (1074 - q) : Nat) : Int) = Q
    grind
  · unfold sg at h ⊢
    cases hst : (s ^^ t)
    · rw [hst] at h
      simp only [Bool.false_eq_true, if_false] at h ⊢
      symm; rw [decide_eq_false_iff_not]; omega
    · rw [hst] at h
      simp only [if_true] at h ⊢
      symm; rw [decide_eq_true_eq]; omega
theorem feq_val {p : Nat} {x y : Fl} {k : Int} (h1 : Val p x k) (h2 : Val p y k) : feq x y = true := by
  obtain ⟨a, s, m, i, rfl, r1, hi, v1⟩ := h1
  obtain ⟨b, t, n, j, rfl, r2, hj, v2⟩ := h2
  have : fcmp (.bits a) (.bits b) = some .eq := by
    show (Ieee.double.read a).order (Ieee.double.read b) = _
    rw [r1, r2]
    unfold Ieee.Datum.order
    simp only [signed_eq]
    have hP := pow_pos_i (min i j + 1074).toNat
    have e : sg s (m * 2 ^ (i - min i j).toNat) = sg t (n * 2 ^ (j - min i j).toNat) := by
      apply Int.eq_of_mul_eq_mul_right (a := ((2 ^ (min i j + 1074).toNat : Nat) : Int)) (by omega)
      rw [← sg_mul, ← sg_mul, Nat.mul_assoc, ← Nat.pow_add, Nat.mul_assoc, ← Nat.pow_add, show (i - min i j).toNat + (min i j + 1074).toNat = (i + 1074).toNat by omega, show (j - min i j).toNat + (min i j + 1074).toNat = (j + 1074).toNat by omega, v1, v2]
    rw [e]
    congr 1
    simp
  unfold feq
  rw [this]; rfl
theorem fneg_val {p : Nat} {x : Fl} {k : Int} (h : Val p x k) : Val p (fneg x) (-k) := by
  obtain ⟨a, s, m, i, rfl, r1, hi, v1⟩ := h
  have hr := rung_neg a
  have hs : ((a ^^^ 2 ^ 63) / 9223372036854775808 % 2 == 1) = !(a / 9223372036854775808 % 2 == 1) := by
    have t1 : (a ^^^ 2 ^ 63).testBit 63 = !a.testBit 63 := by rw [Nat.testBit_xor, Nat.testBit_two_pow]; simp
    rw [Nat.testBit_eq_decide_div_mod_eq, Nat.testBit_eq_decide_div_mod_eq] at t1
    exact t1
  rw [show (2 : Nat) ^ 63 = 9223372036854775808 from rfl] at hr hs
  have rd : Ieee.double.read (a ^^^ 9223372036854775808) = (Ieee.double.read a).opposite := by
    rw [read_eq, read_eq, hr, hs]
    split
    · rfl
    · split
      · rfl
      · split <;> rfl
  refine ⟨a ^^^ 9223372036854775808, !s, m, i, rfl, by rw [rd, r1]; rfl, hi, ?_⟩
  rw [sg_not, v1, Int.neg_mul]
/-! ### Order, scale, quotients by 4096 -/
theorem fcmp_val {p : Nat} {x y : Fl} {k l : Int} (h1 : Val p x k) (h2 : Val p y l) : fcmp x y = some (compare k l) := by
  obtain ⟨a, s, m, i, rfl, r1, hi, v1⟩ := h1
  obtain ⟨b, t, n, j, rfl, r2, hj, v2⟩ := h2
  show (Ieee.double.read a).order (Ieee.double.read b) = _
  rw [r1, r2]
  unfold Ieee.Datum.order
  simp only [signed_eq]
  have hP := pow_pos_i (min i j + 1074).toNat
  have hQ := pow_pos_i (1074 - p)
  have e1 : sg s (m * 2 ^ (i - min i j).toNat) * ((2 ^ (min i j + 1074).toNat : Nat) : Int) = k * ((2 ^ (1074 - p) : Nat) : Int) := by
    rw [← sg_mul, Nat.mul_assoc, ← Nat.pow_add, show (i - min i j).toNat + (min i j + 1074).toNat = (i + 1074).toNat by omega, v1]
  have e2 : sg t (n * 2 ^ (j - min i j).toNat) * ((2 ^ (min i j + 1074).toNat : Nat) : Int) = l * ((2 ^ (1074 - p) : Nat) : Int) := by
    rw [← sg_mul, Nat.mul_assoc, ← Nat.pow_add, show (j - min i j).toNat + (min i j + 1074).toNat = (j + 1074).toNat by omega, v2]
  generalize sg s (m * 2 ^ (i - min i j).toNat) = A at *
  generalize sg t (n * 2 ^ (j - min i j).toNat) = B at *
  generalize ((2 ^ (min i j + 1074).toNat : Nat) : Int) = P at *
  generalize ((2 ^ (1074 - p) : Nat) : Int) = K at *
  congr 1
  have lt1 : A < B ↔ k < l := by
    rw [← Int.mul_lt_mul_right hP, e1, e2, Int.mul_lt_mul_right hQ]
  have eq1 : A = B ↔ k = l := by
    constructor
    · intro h
      subst h
      exact Int.eq_of_mul_eq_mul_right (by omega) (e1.symm.trans e2)
    · intro h
      subst h
      exact Int.eq_of_mul_eq_mul_right (by omega) (e1.trans e2.symm)
  show compareOfLessAndEq A B = compareOfLessAndEq k l
  unfold compareOfLessAndEq
  simp only [lt1, eq1]
theorem fgt_val {p : Nat} {x y : Fl} {k l : Int} (h1 : Val p x k) (h2 : Val p y l) : fgt x y = decide (l < k) := by
  unfold fgt
  rw [fcmp_val h1 h2]
  show (some (compareOfLessAndEq k l) == some Ordering.gt) = _
  unfold compareOfLessAndEq
  by_cases h : k < l
  · rw [if_pos h, decide_eq_false (by omega)]; rfl
  · rw [if_neg h]
    by_cases h' : k = l
    · rw [if_pos h', decide_eq_false (by omega)]; rfl
    · rw [if_neg h', decide_eq_true (by omega)]; rfl
theorem feq_ne {p : Nat} {x y : Fl} {k l : Int} (h1 : Val p x k) (h2 : Val p y l) (h : k ≠ l) : feq x y = false := by
  unfold feq
  rw [fcmp_val h1 h2]
  show (some (compareOfLessAndEq k l) == some Ordering.eq) = _
  unfold compareOfLessAndEq
  by_cases h' : k < l
  · rw [if_pos h']; rfl
  · rw [if_neg h', if_neg h]; rfl
theorem val_scale {p d : Nat} {x : Fl} {k : Int} (h : Val p x k) (hd : p + d ≤ 1074) : Val (p + d) x (k * ((2 ^ d : Nat) : Int)) := by
  obtain ⟨b, s, m, e, rfl, r, he, v⟩ := h
  refine ⟨b, s, m, e, rfl, r, he, v.trans ?_⟩
  rw [Int.mul_assoc, ← Int.natCast_mul, ← Nat.pow_add]
  congr 4
  omega
theorem read_lt {b : Nat} {s : Bool} {m : Nat} {e : Int} (h : Ieee.double.read b = .number s m e) : m < 9007199254740992 := by
  rw [read_eq] at h
  split at h
  · cases h; omega
  · split at h
    · cases h; omega
    · split at h <;> cases h
theorem fadd_s {p : Nat} {x y : Fl} {k l : Int} (h1 : Val p x k) (h2 : Val p y l) (hp : p ≤ 800) (hk : (k + l).natAbs < 9007199254740992) : ∃ r, farithS .add x y = some r ∧ Val p r (k + l) := by
  obtain ⟨a, s, m, i, rfl, r1, hi, v1⟩ := h1
  obtain ⟨b, t, n, j, rfl, r2, hj, v2⟩ := h2
  obtain ⟨d, e1, e2⟩ := sum_read (a := a) (b := b) hp hi hj v1 v2 hk
  refine ⟨_, ?_, e2⟩
  have : floatBits .add .f64 a b = some (Ieee.double.write d) := by
    show Ieee.double.add a b = _
    unfold Ieee.Format.add
    rw [r1, r2, e1]; rfl
  simp only [farithS, this]; rfl
theorem quo_s {x : Fl} {k : Int} (h : Val 0 x k) (hk : k.natAbs < 9007199254740992) : ∃ r, farithS .quo x (Fl.bits 4661225614328463360) = some r ∧ Val 12 r k := by
  obtain ⟨a, s, m, i, rfl, r1, hi, v1⟩ := h
  have hm := read_lt r1
  have r2 : Ieee.double.read 4661225614328463360 = .number false 4503599627370496 (-40) := by decide
  have hl : m.log2 ≤ 52 := by
    by_cases h0 : m = 0
    · subst h0; decide
    · have := (Nat.log2_lt h0 (k := 53)).2 (by simpa using hm); omega
  have l52 : (4503599627370496 : Nat).log2 = 52 := by decide
  generalize hmo : 106 - m.log2 = more
  have hq : (m <<< more) / 4503599627370496 = m * 2 ^ (more - 52) := by
    rw [Nat.shiftLeft_eq, show more = (more - 52) + 52 by omega, Nat.pow_add, ← Nat.mul_assoc, show (4503599627370496 : Nat) = 2 ^ 52 by decide, Nat.mul_div_cancel _ (by decide)]
    congr 1
  have hr : (m <<< more) % 4503599627370496 = 0 := by
    rw [Nat.shiftLeft_eq, show more = (more - 52) + 52 by omega, Nat.pow_add, ← Nat.mul_assoc, show (4503599627370496 : Nat) = 2 ^ 52 by decide, Nat.mul_mod_left]
  have hw : floatBits .quo .f64 a 4661225614328463360 = some (Ieee.double.nearest s (2 * (m * 2 ^ (more - 52))) (i + 40 - more - 1)) := by
    show Ieee.double.div a 4661225614328463360 = _
    unfold Ieee.Format.div
    rw [r1, r2]
    unfold Ieee.Datum.quotient
    simp only [l52]
    rw [if_neg (by decide)]
    have e54 : Ieee.double.fractionBits + 2 + 52 - m.log2 = more := by
      show 52 + 2 + 52 - m.log2 = more
      omega
    rw [e54, hq, hr]
    show some (Ieee.double.nearest (s ^^ false) (2 * (m * 2 ^ (more - 52)) + 0) (i - -40 - more - 1)) = _
    rw [Bool.xor_false, Nat.add_zero, Int.sub_neg]
  refine ⟨_, by simp only [farithS, hw]; rfl, ?_⟩
  have hab : (sg s (2 * (m * 2 ^ (more - 52)))).natAbs = 2 * (m * 2 ^ (more - 52)) := by unfold sg; split <;> omega
  rw [← hab]
  refine val_near (z := 1374) (p := 12) (k := k) (total := sg s (2 * (m * 2 ^ (more - 52)))) s (by decide) (by decide) (by omega) hk ?_ (fun h => ?_)
  · rw [← sg_mul]
    have e : 2 * (m * 2 ^ (more - 52)) * 2 ^ (i + 40 - more - 1 + ((1374 : Nat) : Int)).toNat = m * 2 ^ (i + 1074).toNat * 2 ^ (1374 - 12 - 1074) := by
      rw [show 2 * (m * 2 ^ (more - 52)) = m * 2 ^ (more - 51) by rw [show more - 51 = more - 52 + 1 by omega, Nat.pow_succ]; generalize 2 ^ (more - 52) = X; rw [Nat.mul_comm X 2, ← Nat.mul_assoc, ← Nat.mul_assoc, Nat.mul_comm 2 m]]
      rw [Nat.mul_assoc, ← Nat.pow_add, Nat.mul_assoc, ← Nat.pow_add]
      congr 2
      omega
    rw [e, sg_mul, v1, Int.mul_assoc, ← Int.natCast_mul, ← Nat.pow_add]
  · unfold sg at h ⊢
    cases s
    · simp only [Bool.false_eq_true, if_false] at h ⊢
      symm; rw [decide_eq_false_iff_not]; omega
    · simp only [if_true] at h ⊢
      symm; rw [decide_eq_true_eq]; omega
theorem w8 (x : Int) : IntKind.u8.wrap x = x % 256 := by
  simp [IntKind.wrap, IntKind.bits, IntKind.signed]
theorem and3 (x : Int) (h0 : 0 ≤ x) (h1 : x < 256) : iand .u8 x 3 = x % 4 := by
  have e : iand .u8 x 3 = IntKind.u8.wrap (((BitVec.ofInt 8 x &&& BitVec.ofInt 8 3).toNat : Nat) : Int) := rfl
  have e3 : (BitVec.ofInt 8 3).toNat = 2 ^ 2 - 1 := by decide
  rw [e, BitVec.toNat_and, e3, Nat.and_two_pow_sub_one_eq_mod, BitVec.toNat_ofInt, w8]
  omega

/-- every one a quarter -/
def Q (q : List Int) : Prop := ∀ x ∈ q, 0 ≤ x ∧ x < 4
theorem Q.at {q : List Int} (h : Q q) (i : Nat) (hi : i < q.length) : 0 ≤ q[i] ∧ q[i] < 4 := h _ (List.getElem_mem hi)

def into (a : Int) : List Int → List Int
  | [] => []
  | n :: q => ((a + n) % 4) :: into ((a + n) % 4) q
def outo (a : Int) : List Int → List Int
  | [] => []
  | n :: q => ((n - a) % 4) :: outo n q
theorem into_len (q : List Int) : ∀ a, (into a q).length = q.length := by
  induction q with
  | nil => intro a; rfl
  | cons n q ih => intro a; simp [into, ih]
theorem outo_len (q : List Int) : ∀ a, (outo a q).length = q.length := by
  induction q with
  | nil => intro a; rfl
  | cons n q ih => intro a; simp [outo, ih]
theorem into_Q (q : List Int) : ∀ a, Q (into a q) := by
  induction q with
  | nil => intro a x hx; simp [into] at hx
  | cons n q ih =>
    intro a x hx
    simp only [into, List.mem_cons] at hx
    rcases hx with rfl | hx
    · omega
    · exact ih _ x hx
theorem outo_Q (q : List Int) : ∀ a, Q (outo a q) := by
  induction q with
  | nil => intro a x hx; simp [outo] at hx
  | cons n q ih =>
    intro a x hx
    simp only [outo, List.mem_cons] at hx
    rcases hx with rfl | hx
    · omega
    · exact ih _ x hx
theorem Q.tail {n : Int} {q : List Int} (h : Q (n :: q)) : Q q := fun x hx => h x (List.mem_cons_of_mem _ hx)
theorem Q.head {n : Int} {q : List Int} (h : Q (n :: q)) : 0 ≤ n ∧ n < 4 := h n (List.mem_cons_self ..)
theorem out_into (q : List Int) (hq : Q q) : ∀ a, outo a (into a q) = q := by
  induction q with
  | nil => intro a; rfl
  | cons n q ih =>
    intro a
    have := hq.head
    simp only [into, outo]
    rw [ih hq.tail]
    congr 1; omega
theorem into_out (q : List Int) (hq : Q q) : ∀ a, 0 ≤ a → a < 4 → into a (outo a q) = q := by
  induction q with
  | nil => intro a _ _; rfl
  | cons n q ih =>
    intro a h0 h1
    have := hq.head
    have e : (a + (n - a) % 4) % 4 = n := by omega
    simp only [outo, into, e]
    rw [ih hq.tail n (by omega) (by omega)]
def addc (c : Int) (q : List Int) : List Int := q.map fun x => (x + c) % 4
theorem out_add (c : Int) (q : List Int) (hq : Q q) : ∀ a, outo ((a + c) % 4) (addc c (into a q)) = q := by
  induction q with
  | nil => intro a; rfl
  | cons n q ih =>
    intro a
    have := hq.head
    have e := ih hq.tail ((a + n) % 4)
    simp only [into, addc, List.map_cons, outo] at e ⊢
    rw [e]
    congr 1; omega

theorem row_some (q : List Int) (hq : Q q) (hl : q.length ≤ 65536) : f_turns_row q = some true := by
  unfold f_turns_row
  have := loop_for1 (f := f_turns_row.s1 q) q.length (.inl ()) (fun i hi => ?_) ?_
  · rw [this]
    simp only [Option.bind_some, sm]
    congr 1; simp; omega
  · have := hq.at i hi
    simp only [f_turns_row.s1, f_turns_row.s1c]
    rw [if_pos (by simpa using hi), if_pos (by omega), gt_nat hi, if_neg (by simp; omega), w64 (by omega) (by omega)]; rfl
  · simp only [f_turns_row.s1, f_turns_row.s1c]
    rw [if_neg (by simp)]

theorem into_some (q : List Int) (hq : Q q) (hl : q.length ≤ 65536) : f_turns_Into q = some (into 0 q, 0) := by
  unfold f_turns_Into f_turns_each_33
  rw [row_some q hq hl]
  simp only [Option.bind_some, Bool.not_true, Bool.false_eq_true, if_false]
  rw [if_pos (by omega), Int.toNat_natCast]
  have key : ∀ (m i : Nat) (t : Int) (pre : List Int), i + m = q.length → pre.length = i → 0 ≤ t → t < 256 →
      ∃ t', loop (f_turns_each_33.s1 q) (t, pre ++ List.replicate m (0 : Int), (i : Int)) = some (t', pre ++ into (t % 4) (q.drop i)) := by
    intro m
    induction m with
    | zero =>
      intro i t pre hi hp h0 h1
      refine ⟨t, loop_done ?_⟩
      simp only [f_turns_each_33.s1, f_turns_each_33.s1c]
      rw [if_neg (by simp; omega), List.drop_eq_nil_of_le (by omega)]; simp [into]
    | succ m ih =>
      intro i t pre hi hp h0 h1
      have hil : i < q.length := by omega
      have hqi := hq.at i hil
      obtain ⟨t', h⟩ := ih (i + 1) ((t + q[i]) % 256) (pre ++ [(t + q[i]) % 256 % 4]) (by omega) (by simp [hp]) (by omega) (by omega)
      refine ⟨t', (loop_step ?_).trans (h.trans ?_)⟩
      · simp only [f_turns_each_33.s1, f_turns_each_33.s1c, f_turns_Into_1]
        rw [if_pos (by simp; omega), if_pos (by omega), gt_nat hil]
        simp only [Option.bind_some]
        rw [if_pos (by simp; omega), w8, and3 _ (by omega) (by omega), w64 (by omega) (by omega), Int.toNat_natCast, List.set_append_right _ _ (by omega), hp]
        simp [List.replicate_succ]
      · rw [List.drop_eq_getElem_cons hil]
        have e : (t + q[i]) % 256 % 4 = (t % 4 + q[i]) % 4 := by omega
        simp only [into, e, List.append_assoc, List.singleton_append]
  obtain ⟨t', h⟩ := key q.length 0 0 [] (by omega) rfl (by omega) (by omega)
  simp only [List.nil_append, List.drop_zero, Int.natCast_zero] at h
  rw [h]; rfl

theorem out_some (q : List Int) (hq : Q q) (hl : q.length ≤ 65536) : f_turns_Out q = some (outo 0 q, 0) := by
  unfold f_turns_Out f_turns_each
  rw [row_some q hq hl]
  simp only [Option.bind_some, Bool.not_true, Bool.false_eq_true, if_false]
  rw [if_pos (by omega), Int.toNat_natCast]
  have key : ∀ (m i : Nat) (t : Int) (pre : List Int), i + m = q.length → pre.length = i → 0 ≤ t → t < 4 →
      ∃ t', loop (f_turns_each.s1 q) (t, pre ++ List.replicate m (0 : Int), (i : Int)) = some (t', pre ++ outo t (q.drop i)) := by
    intro m
    induction m with
    | zero =>
      intro i t pre hi hp h0 h1
      refine ⟨t, loop_done ?_⟩
      simp only [f_turns_each.s1, f_turns_each.s1c]
      rw [if_neg (by simp; omega), List.drop_eq_nil_of_le (by omega)]; simp [outo]
    | succ m ih =>
      intro i t pre hi hp h0 h1
      have hil : i < q.length := by omega
      have hqi := hq.at i hil
      obtain ⟨t', h⟩ := ih (i + 1) q[i] (pre ++ [(q[i] - t) % 256 % 4]) (by omega) (by simp [hp]) (by omega) (by omega)
      refine ⟨t', (loop_step ?_).trans (h.trans ?_)⟩
      · simp only [f_turns_each.s1, f_turns_each.s1c, f_turns_Out_1]
        rw [if_pos (by simp; omega), if_pos (by omega), gt_nat hil]
        simp only [Option.bind_some]
        rw [if_pos (by simp; omega), w8, and3 _ (by omega) (by omega), w64 (by omega) (by omega), Int.toNat_natCast, List.set_append_right _ _ (by omega), hp]
        simp [List.replicate_succ]
      · rw [List.drop_eq_getElem_cons hil]
        have e : (q[i] - t) % 256 % 4 = (q[i] - t) % 4 := by omega
        simp only [outo, e, List.append_assoc, List.singleton_append]
  obtain ⟨t', h⟩ := key q.length 0 0 [] (by omega) rfl (by omega) (by omega)
  simp only [List.nil_append, List.drop_zero, Int.natCast_zero] at h
  rw [h]; rfl

theorem quarters_self (a : List Int) (h : a.length ≤ 65536) : f_foghornlaw06_quarters a a = some true := by
  unfold f_foghornlaw06_quarters
  rw [if_neg (by simp)]
  have := loop_same (f := f_foghornlaw06_quarters.s1 a a) a (· != ·) (by simp) (by omega) false (fun i => rfl)
  rw [this]; rfl

theorem awake_some : f_foghornlaw06_awake = some true := by
  unfold f_foghornlaw06_awake
  have h1 : Q [1, 1, 3, 2] := by intro x hx; simp at hx; omega
  have h2 : Q [1, 2, 1, 3] := by intro x hx; simp at hx; omega
  rw [into_some _ h1 (by decide), out_some _ h2 (by decide)]
  have e1 : into 0 [1, 1, 3, 2] = [1, 2, 1, 3] := by decide
  have e2 : outo 0 [1, 2, 1, 3] = [1, 1, 3, 2] := by decide
  rw [e1, e2]
  simp only [Option.bind_some, beq_self_eq_true, Bool.and_self, if_true, quarters_self [1, 2, 1, 3] (by decide), quarters_self [1, 1, 3, 2] (by decide)]

theorem lst {σ R : Type} {f : σ → Option (σ ⊕ R)} (n : Nat) (g : Nat → σ) (r : R)
    (h1 : ∀ i : Nat, i < n → f (g i) = some (.inl (g (i + 1)))) (h2 : f (g n) = some (.inr r)) : loop f (g 0) = some r := by
  have : ∀ k i : Nat, i + k = n → loop f (g i) = some r := by
    intro k
    induction k with
    | zero => intro i hi; obtain rfl : i = n := by omega
              exact loop_done h2
    | succ k ih => intro i hi; rw [loop_step (h1 i (by omega))]; exact ih (i + 1) (by omega)
  exact this n 0 (by omega)
theorem mid_set {α : Type} {A B : List α} (v x : α) {n : Nat} (h : A.length = n) : (A ++ v :: B).set n x = A ++ x :: B := by
  rw [List.set_append_right _ _ (by omega), h, Nat.sub_self, List.set_cons_zero]
theorem mid_gt {α : Type} [Inhabited α] {A B : List α} (v : α) {n : Nat} (h : A.length = n) : gt (A ++ v :: B) (n : Int) = v := by
  rw [gt_nat (by simp; omega), List.getElem_append_right (by omega)]; simp [h]
/-! marks -/
def mk (there : List Bool) (i : Nat) : Bool := gt there (i : Int) && (if i = 0 then true else gt there ((i : Int) - 1))
def zq (there : List Bool) (o : List Int) : Nat → List Int
  | 0 => o
  | i + 1 => if mk there i then zq there o i else (zq there o i).set i 0
theorem zq_len (there : List Bool) (o : List Int) : ∀ i, (zq there o i).length = o.length
  | 0 => rfl
  | i + 1 => by simp only [zq]; split <;> simp [zq_len there o i]
def mks (there : List Bool) (i : Nat) : List Bool := (List.range i).map (mk there)
theorem mks_len (there : List Bool) (i : Nat) : (mks there i).length = i := by simp [mks]
theorem mks_succ (there : List Bool) (i : Nat) : mks there (i + 1) = mks there i ++ [mk there i] := by simp [mks, List.range_succ]
def lastt (there : List Bool) (i : Nat) : Bool := if i = 0 then true else gt there ((i : Int) - 1)
theorem marked_loop (there : List Bool) (o : List Int) (n : Nat) (ht : there.length = n) (ho : o.length = n) (hn : n ≤ 65536) :
    loop (f_turns_Marked.s1 there) (o, List.replicate n false, true, 0) = some (zq there o n, mks there n) := by
  have := lst (f := f_turns_Marked.s1 there) n (fun i => (zq there o i, mks there i ++ List.replicate (n - i) false, lastt there i, (i : Int))) (zq there o n, mks there n) (fun i hi => ?_) ?_
  · simpa [zq, mks, lastt] using this
  · simp only [f_turns_Marked.s1, f_turns_Marked.s1c]
    have e : List.replicate (n - i) false = false :: List.replicate (n - (i + 1)) false := by rw [← List.replicate_succ]; congr 1; omega
    have hm := mks_len there i
    have hz := zq_len there o i
    have em : (gt there (i : Int) && lastt there i) = mk there i := rfl
    have ew : IntKind.i64.wrap ((i : Int) + 1) = ((i + 1 : Nat) : Int) := by rw [w64 (by omega) (by omega)]; rfl
    have el : gt there (i : Int) = lastt there (i + 1) := by
      simp only [lastt]; rw [if_neg (by omega)]; congr 1; omega
    have hL : ∀ (x : Bool) (y : List Bool), (mks there i ++ x :: y).length = i + 1 + y.length := fun x y => by simp [hm]; omega
    rw [if_pos (by rw [decide_eq_true_eq]; omega), if_pos (by omega), em, e, Int.toNat_natCast, mid_set _ _ hm, mid_gt _ hm, hL, hL, if_pos (by omega), if_pos (by omega), ew, el, mks_succ]
    have ea : mks there i ++ mk there i :: List.replicate (n - (i + 1)) false = mks there i ++ [mk there i] ++ List.replicate (n - (i + 1)) false := by simp
    cases hk : mk there i
    · rw [if_pos (show (!false) = true from rfl), if_pos (by omega)]
      simp [zq, hk]
    · rw [if_neg (by decide)]
      simp [zq, hk]
  · simp only [f_turns_Marked.s1, f_turns_Marked.s1c]
    rw [if_neg (by rw [ht]; simp)]
    simp
theorem truths_self (a : List Bool) (h : a.length < 140737488355328) : f_foghornlaw06_truths a a = some true := by
  unfold f_foghornlaw06_truths
  rw [if_neg (by simp)]
  have := loop_same (f := f_foghornlaw06_truths.s1 a a) a (· != ·) (by simp) (by omega) false (fun i => rfl)
  rw [this]; rfl
theorem outo_take (q : List Int) : ∀ (a : Int) (i : Nat) (hi : i < q.length), (outo a q)[i]'(by rw [outo_len]; exact hi) = if h : i = 0 then (q[0]'(by omega) - a) % 4 else (q[i] - q[i - 1]) % 4 := by
  induction q with
  | nil => intro a i hi; simp at hi
  | cons n q ih =>
    intro a i hi
    cases i with
    | zero => simp [outo]
    | succ i =>
      simp only [outo, List.getElem_cons_succ, Nat.succ_ne_zero, dif_neg, Nat.add_sub_cancel, not_false_eq_true]
      rw [ih n i (by simpa using hi)]
      cases i with
      | zero => simp
      | succ i => simp
/-! ### Quarters -/
theorem fneg_fneg (x : Fl) : fneg (fneg x) = x := by
  cases x with
  | nan => rfl
  | bits b =>
    simp only [fneg, Fl.bits.injEq]
    show (b ^^^ 2 ^ 63) ^^^ 2 ^ 63 = b
    rw [Nat.xor_assoc, Nat.xor_self, Nat.xor_zero]
def tn (z : Fl × Fl) : Nat → Fl × Fl
  | 0 => z
  | i + 1 => (fneg (tn z i).2, (tn z i).1)
theorem iand3 (n : Int) : iand .i64 n 3 = n % 4 := by
  have h3 : (BitVec.ofInt IntKind.i64.bits n &&& BitVec.ofInt IntKind.i64.bits 3).toNat = (n % 4).toNat := by
    rw [BitVec.toNat_and]
    show (BitVec.ofInt 64 n).toNat &&& (BitVec.ofInt 64 3).toNat = _
    have e3 : (BitVec.ofInt 64 3).toNat = 2 ^ 2 - 1 := by decide
    rw [e3, Nat.and_two_pow_sub_one_eq_mod, BitVec.toNat_ofInt]
    omega
  unfold iand
  rw [h3, w64 (by omega) (by omega)]; omega
theorem turn_ok (z : Fl × Fl) (n : Int) : f_plane_Turn z n = some (tn z (n % 4).toNat) := by
  unfold f_plane_Turn
  rw [iand3]
  have h : n % 4 = 0 ∨ n % 4 = 1 ∨ n % 4 = 2 ∨ n % 4 = 3 := by omega
  rcases h with h | h | h | h <;> rw [h] <;> simp [tn, fneg_fneg]
/-! ### Complex values -/
abbrev zc : Fl × Fl := (Fl.bits 0, Fl.bits 0)
def Bn (C u : Int) : Prop := -C ≤ u ∧ u ≤ C
def CV (p : Nat) (z : Fl × Fl) (u v : Int) : Prop := Val p z.1 u ∧ Val p z.2 v
theorem cv_eq {p : Nat} {x y : Fl × Fl} {a b c d : Int} (hx : CV p x a b) (hy : CV p y c d) (h1 : a = c) (h2 : b = d) : ceq x y = true := by
  subst h1 h2
  unfold ceq
  rw [feq_val hx.1 hy.1, feq_val hx.2 hy.2]; rfl
def ru (u v : Int) : Nat → Int × Int
  | 0 => (u, v)
  | i + 1 => (-(ru u v i).2, (ru u v i).1)
theorem cv_tn {p : Nat} {z : Fl × Fl} {u v : Int} (h : CV p z u v) : ∀ r, CV p (tn z r) (ru u v r).1 (ru u v r).2
  | 0 => h
  | i + 1 => ⟨fneg_val (cv_tn h i).2, (cv_tn h i).1⟩
theorem ru_bn {C u v : Int} (hu : Bn C u) (hv : Bn C v) : ∀ r, Bn C (ru u v r).1 ∧ Bn C (ru u v r).2
  | 0 => ⟨hu, hv⟩
  | i + 1 => by
    obtain ⟨h1, h2⟩ := ru_bn hu hv i
    unfold Bn at *
    simp only [ru]
    exact ⟨by omega, h1⟩
theorem tn_tn (z : Fl × Fl) (r : Nat) : ∀ s, tn (tn z r) s = tn z (r + s)
  | 0 => rfl
  | s + 1 => by rw [show r + (s + 1) = r + s + 1 by omega]; simp only [tn]; rw [tn_tn z r s]
theorem tn_four (z : Fl × Fl) (r : Nat) : tn z (4 + r) = tn z r := by
  rw [← tn_tn z 4 r]
  congr 1
  simp [tn, fneg_fneg]
/-! ### The law -/
theorem fit_ok (row : List Int) (hw : ∀ x ∈ row, (Lit.int .u8 x).wf = true) : ∃ q, f_foghornlaw06_fit row 200 = some q ∧ Q q ∧ q.length ≤ 200 := by
  unfold f_foghornlaw06_fit
  obtain ⟨q, h1, h2, h3⟩ := loop_inv (f := f_foghornlaw06_fit.s1 row 200) (fun s : List Int × Int => 0 ≤ s.2 ∧ s.2 ≤ 200 ∧ s.2 ≤ row.length ∧ s.1.length = s.2.toNat ∧ Q s.1) (fun s => 200 - s.2.toNat) (fun q : List Int => Q q ∧ q.length ≤ 200) (by
    rintro ⟨o, i⟩ ⟨h1, h2, h3, h4, h5⟩
    simp only at h1 h2 h3 h4 h5
    simp only [f_foghornlaw06_fit.s1, f_foghornlaw06_fit.s1c]
    by_cases hi : i < row.length ∧ i < 200
    · have hx := wf_u8 (hw _ (gt_mem (xs := row) (i := i) (by omega) (by omega)))
      rw [if_pos (by simpa using hi), if_pos (by omega), if_pos (by simp only [List.length_cons, List.length_nil]; omega), w64 (by omega) (by omega), Int.tmod_eq_emod_of_nonneg hx.1]
      refine .inl ⟨_, rfl, ⟨by simp only; omega, by simp only; omega, by simp only; omega, by simp; omega, fun x hx' => ?_⟩, by simp only; omega⟩
      simp only [List.mem_append, List.mem_singleton] at hx'
      rcases hx' with hx' | rfl
      · exact h5 x hx'
      · omega
    · rw [if_neg (by simpa using hi)]
      exact .inr ⟨_, rfl, h5, by omega⟩) ([], 0) ⟨by simp, by simp, by simp, by simp, fun x hx => by simp at hx⟩
  exact ⟨q, by rw [h1]; rfl, h2, h3⟩
theorem fill_step {α : Type} {D : List α} {z : α} {i : Nat} (h : i < D.length) : (D.take i ++ List.replicate (D.length - i) z).set i D[i] = D.take (i + 1) ++ List.replicate (D.length - (i + 1)) z := by
  have e : List.replicate (D.length - i) z = z :: List.replicate (D.length - (i + 1)) z := by rw [← List.replicate_succ]; congr 1; omega
  rw [e, mid_set _ _ (by rw [List.length_take]; omega), List.take_succ_eq_append_getElem h, List.append_assoc]; rfl
def P2 : Fl × Fl := (Fl.bits 4611686018427387904, Fl.bits 0)
def pts (p : List Int) : List (Fl × Fl) := p.map fun k => tn P2 (k % 4).toNat
def trs (l : List (Fl × Fl)) (n : Nat) : List (Fl × Fl) := l.map fun z => tn z n
theorem points_ok (p : List Int) (hq : Q p) (hl : p.length ≤ 200) : f_turns_Points p (Fl.bits 4611686018427387904) = some (pts p, 0) := by
  unfold f_turns_Points
  have hL : (pts p).length = p.length := by simp [pts]
  rw [row_some p hq (by omega)]
  simp only [Option.bind_some]
  rw [if_neg (by decide +kernel), if_pos (by omega), Int.toNat_natCast]
  have := lst (f := f_turns_Points.s1 p (Fl.bits 4611686018427387904)) p.length (fun i => ((pts p).take i ++ List.replicate ((pts p).length - i) zc, (i : Int))) (pts p) (fun i hi => ?_) ?_
  · rw [List.take_zero, List.nil_append, Nat.sub_zero, hL] at this
    rw [show ((Fl.bits 0, Fl.bits 0) : Fl × Fl) = zc from rfl, show (0 : Int) = ((0 : Nat) : Int) from rfl, this]; rfl
  · simp only [f_turns_Points.s1, f_turns_Points.s1c]
    have hx := hq.at i hi
    have hT : ((pts p).take i ++ List.replicate ((pts p).length - i) zc).length = p.length := by rw [List.length_append, List.length_take, List.length_replicate]; omega
    rw [if_pos (by rw [decide_eq_true_eq]; omega), if_pos (by omega), gt_nat hi, w64 (by omega) (by omega), turn_ok]
    simp only [Option.bind_some]
    rw [if_pos (by rw [hT]; omega), Int.toNat_natCast, w64 (by omega) (by omega)]
    have := fill_step (D := pts p) (z := zc) (i := i) (by omega)
    rw [show tn (Fl.bits 4611686018427387904, Fl.bits 0) (p[i] % 4).toNat = (pts p)[i]'(by omega) by simp [pts, P2], this]; rfl
  · simp only [f_turns_Points.s1, f_turns_Points.s1c]
    rw [if_neg (by simp), List.take_of_length_le (by omega), hL, Nat.sub_self]; simp
theorem whole_ok (l : List (Fl × Fl)) (n : Int) (hl : l.length ≤ 200) : f_turns_Whole l n = some (trs l (n % 4).toNat, 0) := by
  unfold f_turns_Whole
  have hL : (trs l (n % 4).toNat).length = l.length := by simp [trs]
  rw [if_neg (by rw [decide_eq_true_eq]; omega), if_pos (by omega), Int.toNat_natCast]
  have := lst (f := f_turns_Whole.s1 l n) l.length (fun i => ((trs l (n % 4).toNat).take i ++ List.replicate ((trs l (n % 4).toNat).length - i) zc, (i : Int))) (trs l (n % 4).toNat) (fun i hi => ?_) ?_
  · rw [List.take_zero, List.nil_append, Nat.sub_zero, hL] at this
    rw [show ((Fl.bits 0, Fl.bits 0) : Fl × Fl) = zc from rfl, show (0 : Int) = ((0 : Nat) : Int) from rfl, this]; rfl
  · simp only [f_turns_Whole.s1, f_turns_Whole.s1c]
    have hT : ((trs l (n % 4).toNat).take i ++ List.replicate ((trs l (n % 4).toNat).length - i) zc).length = l.length := by rw [List.length_append, List.length_take, List.length_replicate]; omega
    rw [if_pos (by rw [decide_eq_true_eq]; omega), if_pos (by omega), gt_nat hi, turn_ok]
    simp only [Option.bind_some]
    rw [if_pos (by rw [hT]; omega), Int.toNat_natCast, w64 (by omega) (by omega)]
    have := fill_step (D := trs l (n % 4).toNat) (z := zc) (i := i) (by omega)
    rw [show tn l[i] (n % 4).toNat = (trs l (n % 4).toNat)[i]'(by omega) by simp [trs], this]; rfl
  · simp only [f_turns_Whole.s1, f_turns_Whole.s1c]
    rw [if_neg (by simp), List.take_of_length_le (by omega), hL, Nat.sub_self]; simp
/-- the four ways a number may lie -/
def cf (u v : Int) (t : Nat) : Int := if t = 0 then u else if t = 1 then v else if t = 2 then -u else -v
theorem turn_val {z : Fl × Fl} {u v : Int} (h : CV 12 z u v) (t : Nat) (ht : t < 4) : Val 12 (tn z ((0 - (t : Int)) % 4).toNat).1 (cf u v t) := by
  have : t = 0 ∨ t = 1 ∨ t = 2 ∨ t = 3 := by omega
  rcases this with rfl | rfl | rfl | rfl
  · exact h.1
  · have := (cv_tn h 3).1
    simp only [ru, Int.neg_neg] at this
    exact this
  · have := (cv_tn h 2).1
    simp only [ru] at this
    exact this
  · have := (cv_tn h 1).1
    simp only [ru] at this
    exact this
theorem near_ok {z : Fl × Fl} {u v : Int} (h : CV 12 z u v) {r : Nat} (hr : r < 4) (hm : ∀ t : Nat, t < 4 → t ≠ r → cf u v t < cf u v r) : f_turns_Near z = some ((r : Int), true) := by
  have hne : u ≠ 0 ∨ v ≠ 0 := by
    apply Decidable.byContradiction
    intro hc
    have hu : u = 0 := by omega
    have hv : v = 0 := by omega
    subst hu hv
    by_cases e : r = 0
    · have := hm 1 (by decide) (by omega); subst e; simp [cf] at this
    · have := hm 0 (by decide) (by omega)
      have : r = 1 ∨ r = 2 ∨ r = 3 := by omega
      rcases this with rfl | rfl | rfl <;> simp [cf] at *
  unfold f_turns_Near
  have c1 : ceq z z = true := cv_eq h h rfl rfl
  have c2 : ceq z (Fl.bits 0, Fl.bits 0) = false := by
    unfold ceq
    rcases hne with hn | hn
    · rw [feq_ne h.1 (zero_val 12) hn]; rfl
    · rw [feq_ne h.2 (zero_val 12) hn, Bool.and_false]
  rw [c1, c2, if_neg (by decide)]
  obtain ⟨b, h1, h2⟩ := loop_inv (f := f_turns_Near.s1 z) (fun s : Int × Int => 0 ≤ s.1 ∧ s.1 < 4 ∧ 0 ≤ s.2 ∧ s.2 ≤ 4 ∧ ((r : Int) < s.2 → s.1 = r)) (fun s => 4 - s.2.toNat) (fun b => b = (r : Int)) (by
    rintro ⟨b, t⟩ ⟨i1, i2, i3, i4, i5⟩
    simp only at i1 i2 i3 i4 i5
    simp only [f_turns_Near.s1, f_turns_Near.s1c]
    by_cases hc : t < 4
    · obtain ⟨b', rfl⟩ : ∃ m : Nat, b = (m : Int) := ⟨b.toNat, by omega⟩
      obtain ⟨t', rfl⟩ : ∃ m : Nat, t = (m : Int) := ⟨t.toNat, by omega⟩
      rw [if_pos (by rw [decide_eq_true_eq]; exact hc), w64 (x := (t' : Int)) (by omega) (by omega), w64 (x := (b' : Int)) (by omega) (by omega), w64 (x := 0 - (t' : Int)) (by omega) (by omega), w64 (x := 0 - (b' : Int)) (by omega) (by omega), turn_ok, turn_ok]
      simp only [Option.bind_some]
      rw [fgt_val (turn_val h t' (by omega)) (turn_val h b' (by omega)), w8]
      have em : ((t' : Int) + 1) % 256 = (t' : Int) + 1 := by omega
      rw [em]
      by_cases hg : cf u v b' < cf u v t'
      · rw [if_pos (by rw [decide_eq_true_eq]; exact hg)]
        refine .inl ⟨_, rfl, ⟨by simp only; omega, by simp only; omega, by simp only; omega, by simp only; omega, fun hlt => ?_⟩, by simp only; omega⟩
        simp only at hlt ⊢
        by_cases e : t' = r
        · omega
        · exfalso
          have : (b' : Int) = r := i5 (by omega)
          have : b' = r := by omega
          subst this
          have := hm t' (by omega) e
          omega
      · rw [if_neg (by rw [decide_eq_true_eq]; exact hg)]
        refine .inl ⟨_, rfl, ⟨by simp only; omega, by simp only; omega, by simp only; omega, by simp only; omega, fun hlt => ?_⟩, by simp only; omega⟩
        simp only at hlt ⊢
        by_cases e : t' = r
        · apply Decidable.byContradiction
          intro hb
          subst e
          exact hg (hm b' (by omega) (by omega))
        · exact i5 (by omega)
    · rw [if_neg (by rw [decide_eq_true_eq]; exact hc)]
      exact .inr ⟨_, rfl, i5 (by omega)⟩) (0, 0) ⟨by simp, by simp, by simp, by simp, fun h => by simp only at h; omega⟩
  rw [h1, h2]; rfl
/-- where a point that is disturbed lies -/
theorem cf_best {k : Nat} {w0 w1 : Int} (hk : k < 8) (h0 : -4096 < w0 ∧ w0 < 4096) (h1 : -4096 < w1 ∧ w1 < 4096) : ∀ t : Nat, t < 4 → t ≠ k % 4 → cf ((ru 2 0 k).1 * 4096 + w0) ((ru 2 0 k).2 * 4096 + w1) t < cf ((ru 2 0 k).1 * 4096 + w0) ((ru 2 0 k).2 * 4096 + w1) (k % 4) := by
  intro t ht hne
  have h8 : k = 0 ∨ k = 1 ∨ k = 2 ∨ k = 3 ∨ k = 4 ∨ k = 5 ∨ k = 6 ∨ k = 7 := by omega
  have h4 : t = 0 ∨ t = 1 ∨ t = 2 ∨ t = 3 := by omega
  rcases h8 with rfl | rfl | rfl | rfl | rfl | rfl | rfl | rfl <;> rcases h4 with rfl | rfl | rfl | rfl <;> first | (exfalso; exact hne rfl) | (simp [cf, ru]; omega)
theorem p2_val : CV 0 P2 2 0 := ⟨⟨4611686018427387904, false, 4503599627370496, -51, rfl, by decide, by decide, by decide +kernel⟩, zero_val 0⟩
theorem map_gt {α : Type} [Inhabited α] (f : Nat → α) {m i : Nat} (h : i < m) : gt ((List.range m).map f) (i : Int) = f i := by
  rw [gt_nat (by simpa using h)]; simp
theorem gt_app {α : Type} [Inhabited α] {l : List α} (x : α) {j : Nat} (h : j < l.length) : gt (l ++ [x]) (j : Int) = gt l (j : Int) := by
  rw [gt_nat (by simp; omega), gt_nat h, List.getElem_append_left h]
theorem gt_last {α : Type} [Inhabited α] (l : List α) (x : α) : gt (l ++ [x]) (l.length : Int) = x := mid_gt x rfl
def mkF (Lost : List Bool) (i : Nat) : Bool := decide (Lost.length ≤ i) || !(gt Lost (i : Int))
def kF (p : List Int) (n4 i : Nat) : Nat := (gt p (i : Int) % 4).toNat + n4
def qF (p : List Int) (Lost : List Bool) (n4 i : Nat) : Int := if mkF Lost i then ((kF p n4 i % 4 : Nat) : Int) else 0
theorem range_set {α : Type} (f : Nat → α) (z : α) {i n : Nat} (h : i < n) : ((List.range i).map f ++ List.replicate (n - i) z).set i (f i) = (List.range (i + 1)).map f ++ List.replicate (n - (i + 1)) z := by
  have e : List.replicate (n - i) z = z :: List.replicate (n - (i + 1)) z := by rw [← List.replicate_succ]; congr 1; omega
  rw [e, mid_set _ _ (by simp), List.range_succ, List.map_append, List.append_assoc]; rfl
theorem range_keep {α : Type} (f : Nat → α) (z : α) {i n : Nat} (h : i < n) (hz : f i = z) : (List.range i).map f ++ List.replicate (n - i) z = (List.range (i + 1)).map f ++ List.replicate (n - (i + 1)) z := by
  have e : List.replicate (n - i) z = z :: List.replicate (n - (i + 1)) z := by rw [← List.replicate_succ]; congr 1; omega
  rw [e, List.range_succ, List.map_append, List.append_assoc, ← hz]; rfl
theorem tm4096 (x : Int) : -4096 < x.tmod 4096 ∧ x.tmod 4096 < 4096 := by
  have m1 : x.tmod 4096 < 4096 := Int.tmod_lt_of_pos x (by decide)
  by_cases h0 : 0 ≤ x
  · have := Int.tmod_nonneg 4096 h0; omega
  · have h3 := Int.neg_tmod (a := -x) (b := 4096)
    have h4 := Int.tmod_lt_of_pos (-x) (show (0 : Int) < 4096 by decide)
    rw [Int.neg_neg] at h3
    omega
theorem ru_small : ∀ k, k < 8 → -2 ≤ (ru 2 0 k).1 ∧ (ru 2 0 k).1 ≤ 2 ∧ -2 ≤ (ru 2 0 k).2 ∧ (ru 2 0 k).2 ≤ 2 := by decide
/-- one sample's number -/
theorem dist_ok {k : Nat} (hk : k < 8) (x y : Int) : ∃ a b c d, farithS .quo (fofi (x.tmod 4096)) (Fl.bits 4661225614328463360) = some a ∧ farithS .add (tn P2 k).1 a = some b ∧ farithS .quo (fofi (y.tmod 4096)) (Fl.bits 4661225614328463360) = some c ∧ farithS .add (tn P2 k).2 c = some d ∧ f_turns_Near (b, d) = some (((k % 4 : Nat) : Int), true) := by
  have hx := tm4096 x
  have hy := tm4096 y
  have hs := ru_small k hk
  have hv := cv_tn p2_val k
  have v1 : Val 12 (tn P2 k).1 ((ru 2 0 k).1 * 4096) := val_scale (d := 12) hv.1 (by decide)
  have v2 : Val 12 (tn P2 k).2 ((ru 2 0 k).2 * 4096) := val_scale (d := 12) hv.2 (by decide)
  obtain ⟨a, a1, a2⟩ := quo_s (fofi_val (k := x.tmod 4096) (by omega)) (by omega)
  obtain ⟨b, b1, b2⟩ := fadd_s v1 a2 (by decide) (by omega)
  obtain ⟨c, c1, c2⟩ := quo_s (fofi_val (k := y.tmod 4096) (by omega)) (by omega)
  obtain ⟨d, d1, d2⟩ := fadd_s v2 c2 (by decide) (by omega)
  exact ⟨a, b, c, d, a1, b1, c1, d1, near_ok ⟨b2, d2⟩ (by omega) (cf_best hk hx hy)⟩
theorem calm_ok {k : Nat} (hk : k < 8) : f_turns_Near (tn P2 k) = some (((k % 4 : Nat) : Int), true) := by
  have hv := cv_tn p2_val k
  have v1 : Val 12 (tn P2 k).1 ((ru 2 0 k).1 * 4096 + 0) := by rw [Int.add_zero]; exact val_scale (d := 12) hv.1 (by decide)
  have v2 : Val 12 (tn P2 k).2 ((ru 2 0 k).2 * 4096 + 0) := by rw [Int.add_zero]; exact val_scale (d := 12) hv.2 (by decide)
  exact near_ok ⟨v1, v2⟩ (by omega) (cf_best hk (by decide) (by decide))
theorem t_get (p : List Int) (n4 : Nat) {i : Nat} (hi : i < p.length) : gt (trs (pts p) n4) (i : Int) = tn P2 (kF p n4 i) := by
  rw [gt_nat (by simp [trs, pts]; exact hi)]
  simp only [trs, pts, List.getElem_map, kF, gt_nat hi, tn_tn]
structure SI (p : List Int) (Lost : List Bool) (n4 i : Nat) (s : List ((Fl × Fl) × Bool)) : Prop where
  len : s.length = i
  lost : ∀ j, j < i → (gt s (j : Int)).2 = !mkF Lost j
  near : ∀ j, j < i → mkF Lost j = true → f_turns_Near (gt s (j : Int)).1 = some (((kF p n4 j % 4 : Nat) : Int), true)
theorem SI.next {p : List Int} {Lost : List Bool} {n4 i : Nat} {s : List ((Fl × Fl) × Bool)} (h : SI p Lost n4 i s) (x : (Fl × Fl) × Bool) (h1 : x.2 = !mkF Lost i) (h2 : mkF Lost i = true → f_turns_Near x.1 = some (((kF p n4 i % 4 : Nat) : Int), true)) : SI p Lost n4 (i + 1) (s ++ [x]) := by
  have hg : gt (s ++ [x]) (i : Int) = x := by rw [← h.len]; exact gt_last s x
  refine ⟨by simp [h.len], fun j hj => ?_, fun j hj => ?_⟩
  · by_cases e : j = i
    · subst e; rw [hg]; exact h1
    · rw [gt_app x (by rw [h.len]; omega)]; exact h.lost j (by omega)
  · by_cases e : j = i
    · subst e; rw [hg]; exact h2
    · rw [gt_app x (by rw [h.len]; omega)]; exact h.near j (by omega)
theorem j1_ok {p : List Int} {Lost : List Bool} {n4 i : Nat} {s : List ((Fl × Fl) × Bool)} {L : Nat} (hL : L ≤ 200) (hi : i < L) (h : SI p Lost n4 i s) (z : Fl × Fl) (hz : f_turns_Near z = some (((kF p n4 i % 4 : Nat) : Int), true)) :
    ∃ s', f_foghornlaw06_TurnsHeard.j1 Lost s ((List.range i).map (mkF Lost) ++ List.replicate (L - i) false) (i : Int) z = some (.inl (s', (List.range (i + 1)).map (mkF Lost) ++ List.replicate (L - (i + 1)) false, ((i + 1 : Nat) : Int))) ∧ SI p Lost n4 (i + 1) s' := by
  have hm : (if (decide ((Lost.length : Int) ≤ (i : Int))) = true then (some true) else (if 0 ≤ (i : Int) ∧ (i : Int) < (Lost.length : Int) then (some (!(gt Lost (i : Int)))) else none)) = some (mkF Lost i) := by
    unfold mkF
    by_cases hc : Lost.length ≤ i
    · rw [if_pos (by rw [decide_eq_true_eq]; omega), decide_eq_true hc]; rfl
    · rw [if_neg (by rw [decide_eq_true_eq]; omega), if_pos (by omega), decide_eq_false hc]; rfl
  unfold f_foghornlaw06_TurnsHeard.j1
  rw [hm]
  have hlen : ((List.range i).map (mkF Lost) ++ List.replicate (L - i) false).length = L := by simp; omega
  simp only [Option.bind_some]
  rw [Int.toNat_natCast, range_set (mkF Lost) false hi]
  have hlen2 : ((List.range (i + 1)).map (mkF Lost) ++ List.replicate (L - (i + 1)) false).length = L := by simp; omega
  have hg : gt ((List.range (i + 1)).map (mkF Lost) ++ List.replicate (L - (i + 1)) false) (i : Int) = mkF Lost i := by
    rw [gt_nat (by omega), List.getElem_append_left (by simp)]; simp
  rw [if_pos (by omega), if_pos (by omega), hg, w64 (by omega) (by omega)]
  cases hk : mkF Lost i
  · rw [if_pos (show (!false) = true from rfl), if_pos (by rw [h.len]; simp only [List.length_cons, List.length_nil]; omega)]
    exact ⟨_, rfl, h.next _ (by rw [hk]; rfl) (fun e => by rw [hk] at e; cases e)⟩
  · rw [if_neg (by decide), if_pos (by rw [h.len]; simp only [List.length_cons, List.length_nil]; omega)]
    exact ⟨_, rfl, h.next _ (by rw [hk]; rfl) (fun _ => hz)⟩
theorem s1_ok (p : List Int) (Parts : List (Int × Int)) (Lost : List Bool) (n4 : Nat) (hn : n4 < 4) (hl : p.length ≤ 200) :
    ∃ s, loop (f_foghornlaw06_TurnsHeard.s1 Parts Lost (trs (pts p) n4, 0)) ([], List.replicate p.length false, 0) = some (s, (List.range p.length).map (mkF Lost)) ∧ SI p Lost n4 p.length s := by
  have tl : (trs (pts p) n4).length = p.length := by simp [trs, pts]
  have key : ∀ m i : Nat, i + m = p.length → ∀ s, SI p Lost n4 i s → ∃ s', loop (f_foghornlaw06_TurnsHeard.s1 Parts Lost (trs (pts p) n4, 0)) (s, (List.range i).map (mkF Lost) ++ List.replicate (p.length - i) false, (i : Int)) = some (s', (List.range p.length).map (mkF Lost)) ∧ SI p Lost n4 p.length s' := by
    intro m
    induction m with
    | zero =>
      intro i hi s h
      obtain rfl : i = p.length := by omega
      refine ⟨s, loop_done ?_, h⟩
      simp only [f_foghornlaw06_TurnsHeard.s1, f_foghornlaw06_TurnsHeard.s1c]
      rw [if_neg (by rw [tl]; simp), Nat.sub_self]; simp
    | succ m ih =>
      intro i hi s h
      have hip : i < p.length := by omega
      have hk : kF p n4 i < 8 := by unfold kF; omega
      have ht := t_get p n4 hip
      have go : ∃ s', f_foghornlaw06_TurnsHeard.s1 Parts Lost (trs (pts p) n4, 0) (s, (List.range i).map (mkF Lost) ++ List.replicate (p.length - i) false, (i : Int)) = some (.inl (s', (List.range (i + 1)).map (mkF Lost) ++ List.replicate (p.length - (i + 1)) false, ((i + 1 : Nat) : Int))) ∧ SI p Lost n4 (i + 1) s' := by
        simp only [f_foghornlaw06_TurnsHeard.s1, f_foghornlaw06_TurnsHeard.s1c]
        rw [if_pos (by rw [decide_eq_true_eq]; omega), if_pos (by omega), ht]
        by_cases hc : i < Parts.length
        · obtain ⟨a, b, c, d, a1, b1, c1, d1, e1⟩ := dist_ok hk (gt Parts (i : Int)).1 (gt Parts (i : Int)).2
          rw [if_pos (by rw [decide_eq_true_eq]; omega), if_pos (by omega), a1]
          simp only [Option.bind_some]
          rw [b1]
          simp only [Option.bind_some]
          rw [if_pos (by omega), c1]
          simp only [Option.bind_some]
          rw [d1]
          simp only [Option.bind_some]
          exact j1_ok hl hip h _ e1
        · rw [if_neg (by rw [decide_eq_true_eq]; omega)]
          exact j1_ok hl hip h _ (calm_ok hk)
      obtain ⟨s1, g1, g2⟩ := go
      obtain ⟨s2, g3, g4⟩ := ih (i + 1) (by omega) s1 g2
      exact ⟨s2, (loop_step g1).trans g3, g4⟩
  have := key p.length 0 (by omega) [] ⟨rfl, fun j hj => by omega, fun j hj => by omega⟩
  simpa using this
theorem row_ok {p : List Int} {Lost : List Bool} {n4 : Nat} {s : List ((Fl × Fl) × Bool)} (hl : p.length ≤ 200) (h : SI p Lost n4 p.length s) :
    f_turns_Row s = some ((List.range p.length).map (qF p Lost n4), (List.range p.length).map (mkF Lost), 0) := by
  have hs := h.len
  unfold f_turns_Row
  rw [if_neg (by rw [decide_eq_true_eq]; omega), if_pos (by omega), if_pos (by omega), Int.toNat_natCast, hs]
  have := lst (f := f_turns_Row.s1 s) p.length (fun i => ((List.range i).map (qF p Lost n4) ++ List.replicate (p.length - i) 0, (List.range i).map (mkF Lost) ++ List.replicate (p.length - i) false, (i : Int))) ((List.range p.length).map (qF p Lost n4), (List.range p.length).map (mkF Lost)) (fun i hi => ?_) ?_
  · rw [List.range_zero, List.map_nil, List.map_nil, List.nil_append, List.nil_append, Nat.sub_zero] at this
    have this' : loop (f_turns_Row.s1 s) (List.replicate p.length 0, List.replicate p.length false, 0) = some ((List.range p.length).map (qF p Lost n4), (List.range p.length).map (mkF Lost)) := this
    rw [this']; rfl
  · simp only [f_turns_Row.s1, f_turns_Row.s1c]
    have l1 : ((List.range i).map (qF p Lost n4) ++ List.replicate (p.length - i) 0).length = p.length := by simp; omega
    have l2 : ((List.range i).map (mkF Lost) ++ List.replicate (p.length - i) false).length = p.length := by simp; omega
    rw [if_pos (by rw [decide_eq_true_eq]; omega), if_pos (by omega), h.lost i hi, w64 (by omega) (by omega)]
    cases hk : mkF Lost i
    · rw [if_neg (by decide), range_keep (qF p Lost n4) 0 hi (by unfold qF; rw [hk]; rfl), range_keep (mkF Lost) false hi hk]; rfl
    · rw [if_pos (show (!(!true)) = true from rfl), h.near i hi hk]
      simp only [Option.bind_some]
      have e1 : ((kF p n4 i % 4 : Nat) : Int) = qF p Lost n4 i := by unfold qF; rw [hk]; rfl
      rw [if_pos (by omega), if_pos (by omega), Int.toNat_natCast, e1, range_set (qF p Lost n4) 0 hi]
      have := range_set (mkF Lost) false hi
      rw [hk] at this
      rw [this]; rfl
  · simp only [f_turns_Row.s1, f_turns_Row.s1c]
    rw [if_neg (by rw [hs]; simp), Nat.sub_self]; simp
theorem zq_get (there : List Bool) (o : List Int) {j : Nat} (hj : j < o.length) : ∀ i, gt (zq there o i) (j : Int) = if j < i ∧ mk there j = false then 0 else gt o (j : Int)
  | 0 => by simp [zq]
  | i + 1 => by
    have ih := zq_get there o hj i
    have hz := zq_len there o i
    simp only [zq]
    cases hm : mk there i
    · rw [if_neg (by decide), gt_nat (by rw [List.length_set]; omega), List.getElem_set]
      by_cases e : i = j
      · subst e; rw [if_pos rfl, if_pos ⟨by omega, hm⟩]
      · rw [if_neg e, ← gt_nat, ih]
        have : (j < i + 1) = (j < i) := by rw [eq_iff_iff]; omega
        simp only [this]
    · rw [if_pos rfl, ih]
      by_cases e : j = i
      · subst e; rw [if_neg (by omega), if_neg (by rw [hm]; simp)]
      · have : (j < i + 1) = (j < i) := by rw [eq_iff_iff]; omega
        simp only [this]
theorem ru_inj : ∀ a, a < 8 → ∀ b, b < 8 → a % 4 ≠ b % 4 → (ru 2 0 a).1 ≠ (ru 2 0 b).1 ∨ (ru 2 0 a).2 ≠ (ru 2 0 b).2 := by decide
theorem ceq_ne {a b : Nat} (ha : a < 8) (hb : b < 8) (h : a % 4 ≠ b % 4) : ceq (tn P2 a) (tn P2 b) = false := by
  have va := cv_tn p2_val a
  have vb := cv_tn p2_val b
  unfold ceq
  rcases ru_inj a ha b hb h with hn | hn
  · rw [feq_ne va.1 vb.1 hn]; rfl
  · rw [feq_ne va.2 vb.2 hn, Bool.and_false]
theorem ceq_self (a : Nat) : ceq (tn P2 a) (tn P2 a) = true := cv_eq (cv_tn p2_val a) (cv_tn p2_val a) rfl rfl
theorem p_get (p : List Int) {i : Nat} (hi : i < p.length) : gt (pts p) (i : Int) = tn P2 (gt p (i : Int) % 4).toNat := by
  rw [gt_nat (by simp [pts]; exact hi)]; simp [pts, gt_nat hi]
theorem found_ok (p : List Int) (n4 : Nat) (hn : n4 < 4) (hl : p.length ≤ 200) : f_turns_Found (pts p) (trs (pts p) n4) = some (if p.length = 0 then 0 else (n4 : Int), 0) := by
  have l1 : (pts p).length = p.length := by simp [pts]
  have l2 : (trs (pts p) n4).length = p.length := by simp [trs, pts]
  have tnx : ∀ i n : Nat, tn (tn P2 (gt p (i : Int) % 4).toNat) n = tn P2 ((gt p (i : Int) % 4).toNat + n) := fun i n => tn_tn _ _ _
  -- one try
  have hit : loop (f_turns_Found.s2 (pts p) (trs (pts p) n4) (n4 : Int)) 0 = some (.inl ()) := by
    refine loop_for1 p.length _ (fun i hi => ?_) ?_
    · simp only [f_turns_Found.s2, f_turns_Found.s2c]
      rw [if_pos (by rw [decide_eq_true_eq]; omega), if_pos (by omega), p_get p hi, turn_ok]
      simp only [Option.bind_some]
      have e4 : ((n4 : Int) % 4).toNat = n4 := by omega
      rw [if_pos (by omega), t_get p n4 hi, e4, tnx, show (gt p (i : Int) % 4).toNat + n4 = kF p n4 i from rfl, ceq_self, if_neg (by decide), w64 (by omega) (by omega)]; rfl
    · simp only [f_turns_Found.s2, f_turns_Found.s2c]
      rw [if_neg (by rw [l1]; simp)]
  have miss : ∀ m : Nat, m < n4 → 0 < p.length → loop (f_turns_Found.s2 (pts p) (trs (pts p) n4) (m : Int)) 0 = some (.inr ()) := by
    intro m hm h0
    apply loop_done
    have hp := p_get p h0
    have ht := t_get p n4 h0
    rw [show ((0 : Nat) : Int) = 0 from rfl] at hp ht
    simp only [f_turns_Found.s2, f_turns_Found.s2c]
    rw [if_pos (by rw [decide_eq_true_eq]; omega), if_pos (by omega), hp, turn_ok]
    simp only [Option.bind_some]
    have e4 : ((m : Int) % 4).toNat = m := by omega
    have e5 := tnx 0 m
    rw [show ((0 : Nat) : Int) = 0 from rfl] at e5
    rw [if_pos (by omega), ht, e4, e5]
    have hk : kF p n4 0 = (gt p 0 % 4).toNat + n4 := rfl
    rw [hk, ceq_ne (by omega) (by omega) (by omega), if_pos (show (!false) = true from rfl)]
  have hit0 : p.length = 0 → loop (f_turns_Found.s2 (pts p) (trs (pts p) n4) 0) 0 = some (.inl ()) := by
    intro h0
    apply loop_done
    simp only [f_turns_Found.s2, f_turns_Found.s2c]
    rw [if_neg (by rw [l1, h0]; decide)]
  unfold f_turns_Found
  rw [if_neg (by rw [l1, l2]; simp; omega)]
  by_cases h0 : p.length = 0
  · rw [if_pos h0]
    have : loop (f_turns_Found.s1 (pts p) (trs (pts p) n4)) 0 = some (.inr (0, 0)) := by
      apply loop_done
      simp only [f_turns_Found.s1, f_turns_Found.s1c]
      rw [if_pos (by decide), hit0 h0]; rfl
    rw [this]; rfl
  · rw [if_neg h0]
    have : loop (f_turns_Found.s1 (pts p) (trs (pts p) n4)) 0 = some (.inr ((n4 : Int), 0)) := by
      refine loop_for1 n4 _ (fun i hi => ?_) ?_
      · simp only [f_turns_Found.s1, f_turns_Found.s1c]
        rw [if_pos (by rw [decide_eq_true_eq]; omega), miss i hi (by omega)]
        simp only [Option.bind_some, sm]
        rw [w64 (by omega) (by omega)]; rfl
      · simp only [f_turns_Found.s1, f_turns_Found.s1c]
        rw [if_pos (by rw [decide_eq_true_eq]; omega), hit]; rfl
    rw [this]; rfl
theorem q_Q (p : List Int) (Lost : List Bool) (n4 : Nat) : Q ((List.range p.length).map (qF p Lost n4)) := by
  intro x hx
  simp only [List.mem_map] at hx
  obtain ⟨i, _, rfl⟩ := hx
  unfold qF
  split <;> omega
set_option maxHeartbeats 1000000 in
theorem heard_true (Row : List Int) (w0 : ∀ x ∈ Row, (Lit.int .u8 x).wf = true) (Parts : List (Int × Int)) (w1 : ∀ x ∈ Parts, (Lit.int .i16 x.1).wf = true ∧ (Lit.int .i16 x.2).wf = true) (Lost : List Bool) (w2 : ∀ x ∈ Lost, True) (N : Int) (w3 : (Lit.int .u8 N).wf = true) :
    f_foghornlaw06_TurnsHeard Row Parts Lost N = some true := by
  have hN := wf_u8 w3
  obtain ⟨p, h1, hq, hl⟩ := fit_ok Row w0
  have l1 : (pts p).length = p.length := by simp [pts]
  unfold f_foghornlaw06_TurnsHeard
  rw [h1]
  simp only [Option.bind_some]
  rw [points_ok p hq hl]
  simp only [Option.bind_some, l1, bne_self_eq_false, Bool.or_self, Bool.false_eq_true, if_false]
  rw [w64 (x := N) (by omega) (by omega), whole_ok (pts p) N (by omega)]
  generalize hn4 : (N % 4).toNat = n4
  have hn : n4 < 4 := by omega
  have l2 : (trs (pts p) n4).length = p.length := by simp [trs, pts]
  obtain ⟨s, s1, s2⟩ := s1_ok p Parts Lost n4 hn hl
  simp only [Option.bind_some, l2, bne_self_eq_false, Bool.or_self, Bool.false_eq_true, if_false]
  rw [if_pos (by omega), Int.toNat_natCast, s1]
  simp only [Option.bind_some]
  rw [row_ok hl s2]
  have lm : ((List.range p.length).map (mkF Lost)).length = p.length := by simp
  have lq : ((List.range p.length).map (qF p Lost n4)).length = p.length := by simp
  have hQq := q_Q p Lost n4
  have gm : ∀ i, i < p.length → gt ((List.range p.length).map (mkF Lost)) (i : Int) = mkF Lost i := fun i hi => map_gt _ hi
  have gq : ∀ i, i < p.length → gt ((List.range p.length).map (qF p Lost n4)) (i : Int) = qF p Lost n4 i := fun i hi => map_gt _ hi
  generalize hM : (List.range p.length).map (mkF Lost) = M at *
  generalize hR : (List.range p.length).map (qF p Lost n4) = R at *
  simp only [Option.bind_some, lq, bne_self_eq_false, Bool.or_self, Bool.false_eq_true, if_false, truths_self M (by omega), Bool.not_true]
  -- what is heard
  have c2 : loop (f_foghornlaw06_TurnsHeard.s2 N p (s, M) (R, M, 0)) 0 = some (.inl ()) := by
    refine loop_for1 p.length _ (fun i hi => ?_) ?_
    · simp only [f_foghornlaw06_TurnsHeard.s2, f_foghornlaw06_TurnsHeard.s2c]
      have hp := hq.at i hi
      have i1 : (0 ≤ (i : Int) ∧ (i : Int) < (M.length : Int)) = True := by rw [eq_iff_iff, iff_true]; omega
      have i2 : (0 ≤ (i : Int) ∧ (i : Int) < (R.length : Int)) = True := by rw [eq_iff_iff, iff_true]; omega
      have i3 : (0 ≤ (i : Int) ∧ (i : Int) < (p.length : Int)) = True := by rw [eq_iff_iff, iff_true]; omega
      rw [if_pos (by rw [decide_eq_true_eq]; omega)]
      simp only [i1, i2, i3, if_true, gm i hi, gq i hi]
      have e : (IntKind.u8.wrap (gt p (i : Int) + N.tmod 4)).tmod 4 = ((kF p n4 i % 4 : Nat) : Int) := by
        unfold kF
        rw [gt_nat hi, w8, Int.tmod_eq_emod_of_nonneg hN.1, Int.tmod_eq_emod_of_nonneg (by omega)]
        omega
      rw [e]
      unfold qF
      cases mkF Lost i
      · simp only [Bool.false_eq_true, if_false, Option.bind_some, Bool.not_false, if_true, bne_self_eq_false]
        rw [w64 (by omega) (by omega)]; rfl
      · simp only [if_true, Option.bind_some, bne_self_eq_false, Bool.false_eq_true, if_false, Bool.not_true]
        rw [w64 (by omega) (by omega)]; rfl
    · simp only [f_foghornlaw06_TurnsHeard.s2, f_foghornlaw06_TurnsHeard.s2c]
      rw [if_neg (by simp)]
  rw [c2]
  simp only [Option.bind_some, sm]
  -- marks
  have ho := outo_len R 0
  have mo : f_turns_Marked R M = some (zq M (outo 0 R) p.length, mks M p.length, 0) := by
    unfold f_turns_Marked
    rw [out_some R hQq (by omega)]
    simp only [Option.bind_some]
    have hcc : ((((0 : Int) != (0 : Int)) || ((M.length : Int) != (R.length : Int))) = true) = False := by simp [lm, lq]
    simp only [hcc, if_false]
    rw [if_pos (by omega), Int.toNat_natCast, lq, marked_loop M (outo 0 R) p.length lm (by omega) (by omega)]; rfl
  have lz : (zq M (outo 0 R) p.length).length = p.length := by rw [zq_len]; omega
  have lk := mks_len M p.length
  have lo := outo_len p 0
  rw [mo, out_some p hq (by omega)]
  simp only [Option.bind_some, lz, lk, lo, bne_self_eq_false, Bool.or_self, Bool.false_eq_true, if_false]
  have c3 : loop (f_foghornlaw06_TurnsHeard.s3 p (s, M) (zq M (outo 0 R) p.length, mks M p.length, 0) (outo 0 p, 0)) 1 = some (.inl ()) := by
    obtain ⟨r, r1, r2⟩ := loop_inv (f := f_foghornlaw06_TurnsHeard.s3 p (s, M) (zq M (outo 0 R) p.length, mks M p.length, 0) (outo 0 p, 0)) (fun k : Int => 1 ≤ k) (fun k => p.length - k.toNat) (fun r => r = .inl ()) (by
      intro k hk
      obtain ⟨i, rfl⟩ : ∃ i : Nat, k = (i : Int) := ⟨k.toNat, by omega⟩
      simp only [f_foghornlaw06_TurnsHeard.s3, f_foghornlaw06_TurnsHeard.s3c]
      by_cases hi : i < p.length
      · have i1 : (0 ≤ (i : Int) ∧ (i : Int) < ((mks M p.length).length : Int)) = True := by rw [eq_iff_iff, iff_true]; omega
        have i2 : (0 ≤ (i : Int) ∧ (i : Int) < (M.length : Int)) = True := by rw [eq_iff_iff, iff_true]; omega
        have i3 : (0 ≤ (i : Int) - 1 ∧ (i : Int) - 1 < (M.length : Int)) = True := by rw [eq_iff_iff, iff_true]; omega
        have i4 : (0 ≤ (i : Int) ∧ (i : Int) < ((zq M (outo 0 R) p.length).length : Int)) = True := by rw [eq_iff_iff, iff_true]; omega
        have i5 : (0 ≤ (i : Int) ∧ (i : Int) < ((outo 0 p).length : Int)) = True := by rw [eq_iff_iff, iff_true]; omega
        have gk : gt (mks M p.length) (i : Int) = mk M i := map_gt (mk M) hi
        have em : mk M i = (mkF Lost i && mkF Lost (i - 1)) := by
          unfold mk
          rw [if_neg (by omega), gm i hi, show (i : Int) - 1 = ((i - 1 : Nat) : Int) by omega, gm (i - 1) (by omega)]
        have gz := zq_get M (outo 0 R) (j := i) (by omega) p.length
        rw [if_pos (by rw [decide_eq_true_eq]; omega), w64 (x := (i : Int) - 1) (by omega) (by omega), w64 (x := (i : Int) + 1) (by omega) (by omega)]
        simp only [i1, i2, i3, i4, i5, if_true, gk, gm i hi, show (i : Int) - 1 = ((i - 1 : Nat) : Int) by omega, gm (i - 1) (by omega), em, gz]
        have e0 : mkF Lost i = true → mkF Lost (i - 1) = true → gt (outo 0 R) (i : Int) = gt (outo 0 p) (i : Int) := by
          intro a1 a2
          have p1 := hq.at i hi
          have p2 := hq.at (i - 1) (by omega)
          rw [gt_nat (by omega), gt_nat (by omega), outo_take R 0 i (by omega), outo_take p 0 i hi, dif_neg (by omega), dif_neg (by omega)]
          have q1 : R[i]'(by omega) = ((kF p n4 i % 4 : Nat) : Int) := by rw [← gt_nat (by omega), gq i hi]; unfold qF; rw [a1]; rfl
          have q2 : R[i - 1]'(by omega) = ((kF p n4 (i - 1) % 4 : Nat) : Int) := by rw [← gt_nat (by omega), gq (i - 1) (by omega)]; unfold qF; rw [a2]; rfl
          rw [q1, q2]
          unfold kF
          rw [gt_nat hi, gt_nat (xs := p) (i := i - 1) (by omega)]
          omega
        have i6 : i - 1 < M.length := by omega
        refine .inl ⟨((i : Int) + 1), ?_, by omega, by omega⟩
        cases a1 : mkF Lost i
        · simp
        · cases a2 : mkF Lost (i - 1)
          · simp [i6]
          · have := e0 a1 a2
            simp [hi, this, i6]
      · rw [if_neg (by rw [decide_eq_true_eq]; omega)]
        exact .inr ⟨_, rfl, rfl⟩) 1 (by omega)
    rw [r1, r2]
  rw [c3]
  simp only [Option.bind_some, sm]
  rw [found_ok p n4 hn hl]
  simp only [Option.bind_some]
  by_cases h0 : p.length = 0
  · rw [if_pos (by rw [h0]; decide), if_pos h0]
    simp only [beq_self_eq_true, Bool.and_self, if_true, awake_some, Option.bind_some]
  · have e : IntKind.i64.wrap (N.tmod 4) = (n4 : Int) := by
      rw [Int.tmod_eq_emod_of_nonneg hN.1, w64 (by omega) (by omega)]; omega
    rw [if_neg (by rw [beq_iff_eq]; omega), if_neg h0, e]
    simp only [beq_self_eq_true, Bool.and_self, if_true, awake_some, Option.bind_some]

end Go.Proofs.Ytienojgmpjpcjaa
