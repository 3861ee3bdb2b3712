/- PlaneRing: the plain law. -/
import Derived.Test.YteifkccomfdciaaG2
import Derived.Test.YteifkccomfdciaaGlW
import Derived.Test.YteifkccomfdciaaGlY
set_option linter.unusedVariables false
set_option linter.unusedSimpArgs false
set_option maxRecDepth 8000
namespace Go.Proofs.Yteifkccomfdciaa
open GL Go

/-! ### What a float stands for -/
theorem log2_mul_pow {m : Nat} (hm : m ≠ 0) (a : Nat) : (m * 2 ^ a).log2 = m.log2 + a := by
  have h0 : m * 2 ^ a ≠ 0 := Nat.mul_ne_zero hm (Nat.ne_of_gt (Nat.two_pow_pos a))
  rw [Nat.log2_eq_iff h0]
  have l1 := Nat.log2_self_le hm
  have l2 : m < 2 ^ (m.log2 + 1) := Nat.lt_log2_self
  constructor
  · rw [Nat.pow_add]; exact Nat.mul_le_mul_right _ l1
  · rw [show m.log2 + a + 1 = m.log2 + 1 + a by omega, Nat.pow_add _ _ a]; exact Nat.mul_lt_mul_of_pos_right l2 (Nat.two_pow_pos a)
theorem cut_exact (neg : Bool) {m : Nat} (hm : m ≠ 0) (d : Nat) : Ieee.Toward.even.cut neg (m * 2 ^ d) d = m := by
  unfold Ieee.Toward.cut
  rw [log2_mul_pow hm, Nat.min_eq_left (by omega)]
  have hp := Nat.two_pow_pos d
  simp only [Nat.one_shiftLeft, Nat.mul_div_cancel _ hp, Nat.mul_mod_left]
  have e1 : decide (2 ^ d < 2 * 0) = false := by rw [decide_eq_false_iff_not]; omega
  have e2 : (2 ^ d == 2 * 0) = false := by rw [beq_eq_false_iff_ne]; omega
  rw [e1, e2]; simp
theorem nearest_eq (neg : Bool) {mag : Nat} (place : Int) (h : mag ≠ 0) : Ieee.double.nearest neg mag place = Ieee.double.word neg (min ((max (place + mag.log2 - 52) (-1074) - (-1074)).toNat * 4503599627370496 + Ieee.Toward.even.cut neg (mag <<< (place - max (place + mag.log2 - 52) (-1074)).toNat) (max (place + mag.log2 - 52) (-1074) - place).toNat) 9218868437227405312) := by
  unfold Ieee.Format.nearest
  rw [if_neg h]
  have e1 : (Ieee.double.fractionBits : Nat) = 52 := rfl
  have e2 : Ieee.double.leastPlace = -1074 := by decide
  have e3 : Ieee.double.binade = 4503599627370496 := by decide
  have e4 : Ieee.double.infRung = 9218868437227405312 := by decide
  simp only [e1, e2, e3, e4]
  rfl
theorem read_eq (w : Nat) : Ieee.double.read w = (if w % 9223372036854775808 < 4503599627370496 then .number (w / 9223372036854775808 % 2 == 1) (w % 9223372036854775808) (-1074)
    else if w % 9223372036854775808 < 9218868437227405312 then .number (w / 9223372036854775808 % 2 == 1) (4503599627370496 + w % 9223372036854775808 % 4503599627370496) (-1074 + ((w % 9223372036854775808 / 4503599627370496 - 1 : Nat) : Int))
    else if w % 9223372036854775808 = 9218868437227405312 then .infinity (w / 9223372036854775808 % 2 == 1) else .nan (w / 9223372036854775808 % 2 == 1) (w % 9223372036854775808 - 9218868437227405312)) := by
  have e1 : Ieee.double.signWeight = 9223372036854775808 := by decide
  have e2 : Ieee.double.leastPlace = -1074 := by decide
  have e3 : Ieee.double.binade = 4503599627370496 := by decide
  have e4 : Ieee.double.infRung = 9218868437227405312 := by decide
  simp only [Ieee.Format.read, e1, e2, e3, e4]
theorem word_eq (neg : Bool) (r : Nat) : Ieee.double.word neg r = if neg then 9223372036854775808 + r else r := by
  have e1 : Ieee.double.signWeight = 9223372036854775808 := by decide
  simp only [Ieee.Format.word, e1]
theorem read_word (neg : Bool) {t kept : Nat} (h : kept < 9007199254740992) (h2 : t = 0 ∨ 4503599627370496 ≤ kept) (ht : t < 2000) :
    ∃ m e, Ieee.double.read (Ieee.double.word neg (min (t * 4503599627370496 + kept) 9218868437227405312)) = .number neg m e ∧ -1074 ≤ e ∧ m * 2 ^ (e + 1074).toNat = kept * 2 ^ t := by
  rw [Nat.min_eq_left (by omega), word_eq, read_eq]
  generalize hr : t * 4503599627370496 + kept = r
  have hlt : r < 9218868437227405312 := by omega
  generalize hw : (if neg then 9223372036854775808 + r else r) = w
  have w1 : w % 9223372036854775808 = r := by
    cases neg
    · simp at hw; omega
    · simp at hw; omega
  have w2 : (w / 9223372036854775808 % 2 == 1) = neg := by
    cases neg
    · simp only [Bool.false_eq_true, if_false] at hw
      rw [beq_eq_false_iff_ne]; omega
    · simp only [if_true] at hw
      rw [beq_iff_eq]; omega
  rw [w1, w2]
  by_cases hc : r < 4503599627370496
  · rw [if_pos hc]
    have : t = 0 := by omega
    subst this
    refine ⟨_, _, rfl, by omega, ?_⟩
    have : r = kept := by omega
    subst this
    rfl
  · rw [if_neg hc, if_pos hlt]
    refine ⟨_, _, rfl, by omega, ?_⟩
    have e1 : 4503599627370496 + r % 4503599627370496 = kept := by omega
    have e2 : (-1074 + ((r / 4503599627370496 - 1 : Nat) : Int) + 1074).toNat = t := by omega
    rw [e1, e2]
/-- a number that the format has is written as it is -/
theorem near (neg : Bool) {z p K mag : Nat} {place : Int} (hm : mag ≠ 0) (hK : K < 9007199254740992) (hp : p ≤ 800) (hz : p ≤ z) (hpl : 0 ≤ place + z) (h : mag * 2 ^ (place + z).toNat = K * 2 ^ (z - p)) :
    ∃ m e, Ieee.double.read (Ieee.double.nearest neg mag place) = .number neg m e ∧ -1074 ≤ e ∧ m * 2 ^ (e + 1074).toNat = K * 2 ^ (1074 - p) := by
  have hK0 : K ≠ 0 := by
    intro e
    subst e
    rw [Nat.zero_mul] at h
    exact Nat.mul_ne_zero hm (Nat.ne_of_gt (Nat.two_pow_pos _)) h
  have hL : K.log2 ≤ 52 := by
    have := (Nat.log2_lt hK0 (k := 53)).2 (by simpa using hK)
    omega
  have hlog : place + (mag.log2 : Int) = K.log2 - p := by
    have a1 := log2_mul_pow hm (place + z).toNat
    have a2 := log2_mul_pow hK0 (z - p)
    rw [h] at a1
    omega
  rw [nearest_eq neg place hm]
  have hlast : max (place + mag.log2 - 52) (-1074) = max ((K.log2 : Int) - p - 52) (-1074) := by rw [hlog]
  rw [hlast]
  generalize hl : max ((K.log2 : Int) - p - 52) (-1074) = last
  -- the digits that are kept
  have hlp : last ≤ -p := by omega
  have key : mag * 2 ^ (place - last).toNat = (K * 2 ^ (-p - last).toNat) * 2 ^ (last - place).toNat := by
    have hP := Nat.two_pow_pos (place + z).toNat
    apply Nat.eq_of_mul_eq_mul_right hP
    have s1 : mag * 2 ^ (place - last).toNat * 2 ^ (place + z).toNat = (mag * 2 ^ (place + z).toNat) * 2 ^ (place - last).toNat := by
      rw [Nat.mul_assoc, Nat.mul_comm (2 ^ (place - last).toNat), ← Nat.mul_assoc]
    rw [s1, h, Nat.mul_assoc, ← Nat.pow_add, Nat.mul_assoc K, ← Nat.pow_add, Nat.mul_assoc K, ← Nat.pow_add]
    congr 2
    omega
  have hk0 : K * 2 ^ (-p - last).toNat ≠ 0 := Nat.mul_ne_zero hK0 (Nat.ne_of_gt (Nat.two_pow_pos _))
  rw [Nat.shiftLeft_eq, key, cut_exact neg hk0]
  have hkl := log2_mul_pow hK0 (-p - last).toNat
  have hk53 : K * 2 ^ (-p - last).toNat < 9007199254740992 := by
    have l2 : K * 2 ^ (-p - last).toNat < 2 ^ ((K * 2 ^ (-p - last).toNat).log2 + 1) := Nat.lt_log2_self
    have l3 : 2 ^ ((K * 2 ^ (-p - last).toNat).log2 + 1) ≤ 2 ^ 53 := Nat.pow_le_pow_right (by decide) (by omega)
    have l4 : (2 : Nat) ^ 53 = 9007199254740992 := by decide
    omega
  have hk52 : (last - (-1074)).toNat = 0 ∨ 4503599627370496 ≤ K * 2 ^ (-p - last).toNat := by
    by_cases hc : last = -1074
    · left; omega
    · right
      have l1 := Nat.log2_self_le hk0
      have l3 : 2 ^ 52 ≤ 2 ^ (K * 2 ^ (-p - last).toNat).log2 := Nat.pow_le_pow_right (by decide) (by omega)
      have l4 : (2 : Nat) ^ 52 = 4503599627370496 := by decide
      omega
  obtain ⟨m, e, r1, r2, r3⟩ := read_word neg hk53 hk52 (by omega)
  refine ⟨m, e, r1, r2, r3.trans ?_⟩
  rw [Nat.mul_assoc, ← Nat.pow_add]
  congr 2
  omega
def sg (s : Bool) (m : Nat) : Int := if s then -(m : Int) else (m : Int)
theorem sg_mul (s : Bool) (m n : Nat) : sg s (m * n) = sg s m * (n : Int) := by
  cases s <;> simp [sg, Int.neg_mul]
theorem signed_eq (s : Bool) (m u : Nat) : Ieee.signed s m u = sg s (m * 2 ^ u) := by
  unfold Ieee.signed sg
  rw [Nat.shiftLeft_eq]
/-- 'x' stands for 'k / 2 ^ p' -/
def Val (p : Nat) (x : Fl) (k : Int) : Prop := ∃ b s m e, x = .bits b ∧ Ieee.double.read b = .number s m e ∧ -1074 ≤ e ∧ sg s (m * 2 ^ (e + 1074).toNat) = k * ((2 ^ (1074 - p) : Nat) : Int)
theorem pow_pos_i (a : Nat) : (0 : Int) < ((2 ^ a : Nat) : Int) := by have := Nat.two_pow_pos a; omega
theorem val_near (neg : Bool) {z p : Nat} {k total : Int} {place : Int} (hp : p ≤ 800) (hz : p ≤ z) (hpl : 0 ≤ place + z) (hk : k.natAbs < 9007199254740992)
    (h : total * ((2 ^ (place + z).toNat : Nat) : Int) = k * ((2 ^ (z - p) : Nat) : Int)) (hs : total ≠ 0 → neg = decide (total < 0)) : Val p (.bits (Ieee.double.nearest neg total.natAbs place)) k := by
  have p1 := pow_pos_i (place + z).toNat
  have p2 := pow_pos_i (z - p)
  by_cases h0 : total = 0
  · subst h0
    rw [Int.zero_mul] at h
    have hk0 : k = 0 := by
      rcases Int.mul_eq_zero.1 h.symm with h | h
      · exact h
      · omega
    subst hk0
    refine ⟨_, neg, 0, -1074, rfl, ?_, by decide, ?_⟩
    · have : Ieee.double.nearest neg (0 : Int).natAbs place = Ieee.double.word neg 0 := rfl
      rw [this]
      cases neg <;> decide
    · rw [Nat.zero_mul, Int.zero_mul]; cases neg <;> rfl
  · obtain ⟨m, e, r1, r2, r3⟩ := near neg (mag := total.natAbs) (K := k.natAbs) (place := place) (z := z) (p := p) (by omega) hk hp hz hpl (by
      have := congrArg Int.natAbs h
      rw [Int.natAbs_mul, Int.natAbs_mul, Int.natAbs_natCast, Int.natAbs_natCast] at this
      exact this)
    refine ⟨_, neg, m, e, rfl, r1, r2, ?_⟩
    rw [r3, sg_mul, hs h0]
    congr 1
    by_cases ht : total < 0
    · have : k < 0 := by
        apply Int.not_le.mp
        intro hk
        have a1 : 0 ≤ k * ((2 ^ (z - p) : Nat) : Int) := Int.mul_nonneg hk (by omega)
        have a2 : total * ((2 ^ (place + z).toNat : Nat) : Int) < 0 := Int.mul_neg_of_neg_of_pos ht p1
        omega
      rw [decide_eq_true ht]; simp only [sg, if_true]; omega
    · have : 0 ≤ k := by
        apply Int.not_lt.mp
        intro hk
        have a1 : k * ((2 ^ (z - p) : Nat) : Int) < 0 := Int.mul_neg_of_neg_of_pos hk p2
        have a2 : 0 ≤ total * ((2 ^ (place + z).toNat : Nat) : Int) := Int.mul_nonneg (by omega) (by omega)
        omega
      rw [decide_eq_false ht]; simp only [sg, Bool.false_eq_true, if_false]; omega
theorem fofi_val {k : Int} (hk : k.natAbs < 9007199254740992) : Val 0 (fofi k) k := by
  have := val_near (decide (k < 0)) (z := 0) (p := 0) (k := k) (total := k) (place := 0) (by decide) (by decide) (by decide) hk rfl (fun _ => rfl)
  exact this
theorem zero_val (p : Nat) : Val p (.bits 0) 0 := by
  refine ⟨0, false, 0, -1074, rfl, by decide, by decide, ?_⟩
  rw [Nat.zero_mul, Int.zero_mul]; rfl
theorem sum_read {a b : Nat} {s t : Bool} {m n : Nat} {i j : Int} {p : Nat} {k l : Int} (hp : p ≤ 800) (hi : -1074 ≤ i) (hj : -1074 ≤ j)
    (h1 : sg s (m * 2 ^ (i + 1074).toNat) = k * ((2 ^ (1074 - p) : Nat) : Int)) (h2 : sg t (n * 2 ^ (j + 1074).toNat) = l * ((2 ^ (1074 - p) : Nat) : Int)) (hk : (k + l).natAbs < 9007199254740992) :
    ∃ d, (Ieee.Datum.number s m i).sum (.number t n j) = some d ∧ Val p (.bits (Ieee.double.write d)) (k + l) := by
  refine ⟨_, rfl, ?_⟩
  refine val_near (z := 1074) (p := p) (k := k + l) _ hp (by omega) (by omega) hk ?_ (fun h => by rw [if_neg h])
  rw [signed_eq, signed_eq, Int.add_mul, Int.add_mul, ← h1, ← h2, ← sg_mul, ← sg_mul, Nat.mul_assoc, ← Nat.pow_add, Nat.mul_assoc, ← Nat.pow_add]
  congr 4 <;> omega
theorem fadd_val {p : Nat} {x y : Fl} {k l : Int} (h1 : Val p x k) (h2 : Val p y l) (hp : p ≤ 800) (hk : (k + l).natAbs < 9007199254740992) : Val p (fadd x y) (k + l) := by
  obtain ⟨a, s, m, i, rfl, r1, hi, v1⟩ := h1
  obtain ⟨b, t, n, j, rfl, r2, hj, v2⟩ := h2
  obtain ⟨d, e1, e2⟩ := sum_read (a := a) (b := b) hp hi hj v1 v2 hk
  have : fadd (.bits a) (.bits b) = .bits (Ieee.double.write d) := by
    show farith .add _ _ = _
    have : floatBits .add .f64 a b = some (Ieee.double.write d) := by
      show Ieee.double.add a b = _
      unfold Ieee.Format.add
      rw [r1, r2, e1]; rfl
    simp only [farith, this]
  rw [this]; exact e2
theorem sg_not (s : Bool) (m : Nat) : sg (!s) m = - sg s m := by cases s <;> simp [sg]
theorem fsub_val {p : Nat} {x y : Fl} {k l : Int} (h1 : Val p x k) (h2 : Val p y l) (hp : p ≤ 800) (hk : (k - l).natAbs < 9007199254740992) : Val p (fsub x y) (k - l) := by
  obtain ⟨a, s, m, i, rfl, r1, hi, v1⟩ := h1
  obtain ⟨b, t, n, j, rfl, r2, hj, v2⟩ := h2
  obtain ⟨d, e1, e2⟩ := sum_read (a := a) (b := b) (t := !t) (n := n) (l := -l) hp hi hj v1 (by rw [sg_not, v2, Int.neg_mul]) (by rw [← Int.sub_eq_add_neg]; exact hk)
  have : fsub (.bits a) (.bits b) = .bits (Ieee.double.write d) := by
    show farith .sub _ _ = _
    have : floatBits .sub .f64 a b = some (Ieee.double.write d) := by
      show Ieee.double.sub a b = _
      unfold Ieee.Format.sub
      rw [r1, r2]
      show (Ieee.Datum.sum _ (Ieee.Datum.number (!t) n j)).map _ = _
      rw [e1]; rfl
    simp only [farith, this]
  rw [this, Int.sub_eq_add_neg]; exact e2
theorem sg_prod (s t : Bool) (m n : Nat) : sg (s ^^ t) (m * n) = sg s m * sg t n := by
  cases s <;> cases t <;> simp [sg, Int.neg_mul, Int.mul_neg]
theorem fmul_val {p q : Nat} {x y : Fl} {k l : Int} (h1 : Val p x k) (h2 : Val q y l) (hp : p + q ≤ 800) (hk : (k * l).natAbs < 9007199254740992) : Val (p + q) (fmul x y) (k * l) := by
  obtain ⟨a, s, m, i, rfl, r1, hi, v1⟩ := h1
  obtain ⟨b, t, n, j, rfl, r2, hj, v2⟩ := h2
  have hw : floatBits .mul .f64 a b = some (Ieee.double.nearest (s ^^ t) (m * n) (i + j)) := by
    show Ieee.double.mul a b = _
    unfold Ieee.Format.mul
    rw [r1, r2]; rfl
  have hf : fmul (.bits a) (.bits b) = .bits (Ieee.double.nearest (s ^^ t) (m * n) (i + j)) := by
    show farith .mul _ _ = _
    simp only [farith, hw]
  rw [hf]
  have hab : (sg (s ^^ t) (m * n)).natAbs = m * n := by unfold sg; split <;> omega
  rw [← hab]
  refine val_near (z := 2148) (p := p + q) (k := k * l) (total := sg (s ^^ t) (m * n)) _ hp (by omega) (by omega) hk ?_ (fun h => ?_)
  · rw [← sg_mul]
    have e : m * n * 2 ^ (i + j + ((2148 : Nat) : Int)).toNat = (m * 2 ^ (i + 1074).toNat) * (n * 2 ^ (j + 1074).toNat) := by
      rw [show (i + j + ((2148 : Nat) : Int)).toNat = (i + 1074).toNat + (j + 1074).toNat by omega, Nat.pow_add]
      rw [Nat.mul_assoc, Nat.mul_assoc]
      congr 1
      rw [← Nat.mul_assoc, ← Nat.mul_assoc, Nat.mul_comm n]
    rw [e, sg_prod, v1, v2, show 2148 - (p + q) = (1074 - p) + (1074 - q) by omega, Nat.pow_add, Int.natCast_mul]
    generalize ((2 ^ (1074 - p) : Nat) : Int) = P
    generalize ((2 ^ (1074 - q) : Nat) : Int) = Q
    grind
  · unfold sg at h ⊢
    cases hst : (s ^^ t)
    · rw [hst] at h
      simp only [Bool.false_eq_true, if_false] at h ⊢
      symm; rw [decide_eq_false_iff_not]; omega
    · rw [hst] at h
      simp only [if_true] at h ⊢
      symm; rw [decide_eq_true_eq]; omega
theorem feq_val {p : Nat} {x y : Fl} {k : Int} (h1 : Val p x k) (h2 : Val p y k) : feq x y = true := by
  obtain ⟨a, s, m, i, rfl, r1, hi, v1⟩ := h1
  obtain ⟨b, t, n, j, rfl, r2, hj, v2⟩ := h2
  have : fcmp (.bits a) (.bits b) = some .eq := by
    show (Ieee.double.read a).order (Ieee.double.read b) = _
    rw [r1, r2]
    unfold Ieee.Datum.order
    simp only [signed_eq]
    have hP := pow_pos_i (min i j + 1074).toNat
    have e : sg s (m * 2 ^ (i - min i j).toNat) = sg t (n * 2 ^ (j - min i j).toNat) := by
      apply Int.eq_of_mul_eq_mul_right (a := ((2 ^ (min i j + 1074).toNat : Nat) : Int)) (by omega)
      rw [← sg_mul, ← sg_mul, Nat.mul_assoc, ← Nat.pow_add, Nat.mul_assoc, ← Nat.pow_add, show (i - min i j).toNat + (min i j + 1074).toNat = (i + 1074).toNat by omega, show (j - min i j).toNat + (min i j + 1074).toNat = (j + 1074).toNat by omega, v1, v2]
    rw [e]
    congr 1
    simp
  unfold feq
  rw [this]; rfl
theorem fneg_val {p : Nat} {x : Fl} {k : Int} (h : Val p x k) : Val p (fneg x) (-k) := by
  obtain ⟨a, s, m, i, rfl, r1, hi, v1⟩ := h
  have hr := rung_neg a
  have hs : ((a ^^^ 2 ^ 63) / 9223372036854775808 % 2 == 1) = !(a / 9223372036854775808 % 2 == 1) := by
    have t1 : (a ^^^ 2 ^ 63).testBit 63 = !a.testBit 63 := by rw [Nat.testBit_xor, Nat.testBit_two_pow]; simp
    rw [Nat.testBit_eq_decide_div_mod_eq, Nat.testBit_eq_decide_div_mod_eq] at t1
    exact t1
  rw [show (2 : Nat) ^ 63 = 9223372036854775808 from rfl] at hr hs
  have rd : Ieee.double.read (a ^^^ 9223372036854775808) = (Ieee.double.read a).opposite := by
    rw [read_eq, read_eq, hr, hs]
    split
    · rfl
    · split
      · rfl
      · split <;> rfl
  refine ⟨a ^^^ 9223372036854775808, !s, m, i, rfl, by rw [rd, r1]; rfl, hi, ?_⟩
  rw [sg_not, v1, Int.neg_mul]
theorem awake_true : f_foghornlaw03_awake = some true := by
  have h1 : loop (f_plane_Gauss_Class.s1 3) (3, 2, 0, 0) = some 1 := loop_iff.2 ⟨4, by decide +kernel⟩
  have h2 : f_plane_Gauss_Class 3 2 3 = some (1, 0) := by
    unfold f_plane_Gauss_Class
    rw [h1]; rfl
  have h3 : f_plane_Mul (Fl.bits 4607182418800017408, Fl.bits 4611686018427387904) (Fl.bits 4613937818241073152, Fl.bits 13830554455654793216) = some (Fl.bits 4617315517961601024, Fl.bits 4617315517961601024) := by decide +kernel
  have h4 : f_plane_Turn (Fl.bits 4607182418800017408, Fl.bits 4611686018427387904) 1 = some (Fl.bits 13835058055282163712, Fl.bits 4607182418800017408) := by decide +kernel
  unfold f_foghornlaw03_awake
  rw [h2, h3, h4]
  decide +kernel
/-! ### Quarters -/
theorem fneg_fneg (x : Fl) : fneg (fneg x) = x := by
  cases x with
  | nan => rfl
  | bits b =>
    simp only [fneg, Fl.bits.injEq]
    show (b ^^^ 2 ^ 63) ^^^ 2 ^ 63 = b
    rw [Nat.xor_assoc, Nat.xor_self, Nat.xor_zero]
def tn (z : Fl × Fl) : Nat → Fl × Fl
  | 0 => z
  | i + 1 => (fneg (tn z i).2, (tn z i).1)
theorem iand3 (n : Int) : iand .i64 n 3 = n % 4 := by
  have h3 : (BitVec.ofInt IntKind.i64.bits n &&& BitVec.ofInt IntKind.i64.bits 3).toNat = (n % 4).toNat := by
    rw [BitVec.toNat_and]
    show (BitVec.ofInt 64 n).toNat &&& (BitVec.ofInt 64 3).toNat = _
    have e3 : (BitVec.ofInt 64 3).toNat = 2 ^ 2 - 1 := by decide
    rw [e3, Nat.and_two_pow_sub_one_eq_mod, BitVec.toNat_ofInt]
    omega
  unfold iand
  rw [h3, w64 (by omega) (by omega)]; omega
theorem turn_ok (z : Fl × Fl) (n : Int) : f_plane_Turn z n = some (tn z (n % 4).toNat) := by
  unfold f_plane_Turn
  rw [iand3]
  have h : n % 4 = 0 ∨ n % 4 = 1 ∨ n % 4 = 2 ∨ n % 4 = 3 := by omega
  rcases h with h | h | h | h <;> rw [h] <;> simp [tn, fneg_fneg]
theorem wf_i16 {x : Int} (h : (Lit.int .i16 x).wf = true) : -32768 ≤ x ∧ x < 32768 := by
  simp [Lit.wf, IntKind.min, IntKind.max, IntKind.bits, IntKind.signed] at h
  omega
theorem mul_bd2 {g o C D : Int} (hC : 0 ≤ C) (hD : 0 ≤ D) (h : -C ≤ g ∧ g ≤ C) (k : -D ≤ o ∧ o ≤ D) : g * o ≤ C * D ∧ -(C * D) ≤ g * o := by
  have a1 : 0 ≤ (C - g) * (D + o) := Int.mul_nonneg (by omega) (by omega)
  have a2 : 0 ≤ (C + g) * (D - o) := Int.mul_nonneg (by omega) (by omega)
  have a3 : 0 ≤ (C - g) * (D - o) := Int.mul_nonneg (by omega) (by omega)
  have a4 : 0 ≤ (C + g) * (D + o) := Int.mul_nonneg (by omega) (by omega)
  have e1 : (C - g) * (D + o) = C * D + C * o - g * D - g * o := by grind
  have e2 : (C + g) * (D - o) = C * D - C * o + g * D - g * o := by grind
  have e3 : (C - g) * (D - o) = C * D - C * o - g * D + g * o := by grind
  have e4 : (C + g) * (D + o) = C * D + C * o + g * D + g * o := by grind
  omega
/-! ### Complex values -/
abbrev zc : Fl × Fl := (Fl.bits 0, Fl.bits 0)
def cmul (a b : Fl × Fl) : Fl × Fl := (fsub (fmul a.1 b.1) (fmul a.2 b.2), fadd (fmul a.1 b.2) (fmul a.2 b.1))
def Bn (C u : Int) : Prop := -C ≤ u ∧ u ≤ C
def CV (p : Nat) (z : Fl × Fl) (u v : Int) : Prop := Val p z.1 u ∧ Val p z.2 v
theorem cv_mul {p q : Nat} {x y : Fl × Fl} {a b c d C D : Int} (hp : p + q ≤ 800) (hx : CV p x a b) (hy : CV q y c d) (hC : 0 ≤ C) (hD : 0 ≤ D) (ba : Bn C a) (bb : Bn C b) (bc : Bn D c) (bd : Bn D d) (hCD : C * D ≤ 2251799813685248) :
    CV (p + q) (cmul x y) (a * c - b * d) (a * d + b * c) ∧ Bn (2 * (C * D)) (a * c - b * d) ∧ Bn (2 * (C * D)) (a * d + b * c) := by
  have m1 := mul_bd2 hC hD ba bc
  have m2 := mul_bd2 hC hD bb bd
  have m3 := mul_bd2 hC hD ba bd
  have m4 := mul_bd2 hC hD bb bc
  refine ⟨⟨fsub_val (fmul_val hx.1 hy.1 hp (by omega)) (fmul_val hx.2 hy.2 hp (by omega)) hp (by omega), fadd_val (fmul_val hx.1 hy.2 hp (by omega)) (fmul_val hx.2 hy.1 hp (by omega)) hp (by omega)⟩, ⟨by omega, by omega⟩, ⟨by omega, by omega⟩⟩
theorem cv_add {p : Nat} {x y : Fl × Fl} {a b c d : Int} (hp : p ≤ 800) (hx : CV p x a b) (hy : CV p y c d) (h1 : Bn 9007199254740991 (a + c)) (h2 : Bn 9007199254740991 (b + d)) : CV p (cadd x y) (a + c) (b + d) := by
  unfold Bn at h1 h2
  exact ⟨fadd_val hx.1 hy.1 hp (by omega), fadd_val hx.2 hy.2 hp (by omega)⟩
theorem cv_zero (p : Nat) : CV p zc 0 0 := ⟨zero_val p, zero_val p⟩
theorem cv_eq {p : Nat} {x y : Fl × Fl} {a b c d : Int} (hx : CV p x a b) (hy : CV p y c d) (h1 : a = c) (h2 : b = d) : ceq x y = true := by
  subst h1 h2
  unfold ceq
  rw [feq_val hx.1 hy.1, feq_val hx.2 hy.2]; rfl
def ru (u v : Int) : Nat → Int × Int
  | 0 => (u, v)
  | i + 1 => (-(ru u v i).2, (ru u v i).1)
theorem cv_tn {p : Nat} {z : Fl × Fl} {u v : Int} (h : CV p z u v) : ∀ r, CV p (tn z r) (ru u v r).1 (ru u v r).2
  | 0 => h
  | i + 1 => ⟨fneg_val (cv_tn h i).2, (cv_tn h i).1⟩
theorem ru_bn {C u v : Int} (hu : Bn C u) (hv : Bn C v) : ∀ r, Bn C (ru u v r).1 ∧ Bn C (ru u v r).2
  | 0 => ⟨hu, hv⟩
  | i + 1 => by
    obtain ⟨h1, h2⟩ := ru_bn hu hv i
    unfold Bn at *
    simp only [ru]
    exact ⟨by omega, h1⟩
theorem ru_mul (u v c d : Int) : ∀ r, (ru u v r).1 * c - (ru u v r).2 * d = (ru (u * c - v * d) (u * d + v * c) r).1 ∧ (ru u v r).1 * d + (ru u v r).2 * c = (ru (u * c - v * d) (u * d + v * c) r).2
  | 0 => ⟨rfl, rfl⟩
  | i + 1 => by
    obtain ⟨h1, h2⟩ := ru_mul u v c d i
    simp only [ru]
    rw [← h1, ← h2]
    constructor <;> grind
theorem ru_add (u v c d : Int) : ∀ r, (ru u v r).1 + (ru c d r).1 = (ru (u + c) (v + d) r).1 ∧ (ru u v r).2 + (ru c d r).2 = (ru (u + c) (v + d) r).2
  | 0 => ⟨rfl, rfl⟩
  | i + 1 => by
    obtain ⟨h1, h2⟩ := ru_add u v c d i
    simp only [ru]
    rw [← h1, ← h2]
    constructor <;> grind
theorem tn_tn (z : Fl × Fl) (r : Nat) : ∀ s, tn (tn z r) s = tn z (r + s)
  | 0 => rfl
  | s + 1 => by rw [show r + (s + 1) = r + s + 1 by omega]; simp only [tn]; rw [tn_tn z r s]
theorem tn_four (z : Fl × Fl) (r : Nat) : tn z (4 + r) = tn z r := by
  rw [← tn_tn z 4 r]
  congr 1
  simp [tn, fneg_fneg]
/-! ### The law -/
def nrm (z : Fl × Fl) : Fl := fadd (fmul z.1 z.1) (fmul z.2 z.2)
def cnj (z : Fl × Fl) : Fl × Fl := (z.1, fneg z.2)
def sum2 (x y : Fl × Fl) : Fl × Fl := cadd (cadd zc x) y
theorem mul_eq (x y : Fl × Fl) : f_plane_Mul x y = some (cmul x y) := rfl
theorem norm_eq (x : Fl × Fl) : f_plane_Norm x = some (nrm x) := rfl
theorem conj_eq (x : Fl × Fl) : f_plane_Conj x = some (cnj x) := rfl
theorem apart_eq (x y : Fl × Fl) : f_plane_Apart x y = some (nrm (csub x y)) := rfl
theorem sum_eq (x y : Fl × Fl) : f_plane_Sum [x, y] = some (sum2 x y) := by
  unfold f_plane_Sum
  rw [loop_step (f := f_plane_Sum.s1 [x, y]) (s' := (cadd zc x, 1)) rfl, loop_step (f := f_plane_Sum.s1 [x, y]) (s' := (cadd (cadd zc x) y, 2)) rfl, loop_done (f := f_plane_Sum.s1 [x, y]) (r := cadd (cadd zc x) y) rfl]
  rfl
theorem small_eq (a b : Int) : f_foghornlaw03_small a b = some (fofi (a.tmod 1025), fofi (b.tmod 1025)) := rfl
theorem cv_sum2 {p : Nat} {x y : Fl × Fl} {a b c d C : Int} (hp : p ≤ 800) (hx : CV p x a b) (hy : CV p y c d) (ba : Bn C a) (bb : Bn C b) (bc : Bn C c) (bd : Bn C d) (hC : 2 * C ≤ 9007199254740991) : CV p (sum2 x y) (a + c) (b + d) := by
  unfold Bn at ba bb bc bd
  have h1 := cv_add hp (cv_zero p) hx (by unfold Bn; omega) (by unfold Bn; omega)
  have h2 := cv_add hp h1 hy (by unfold Bn; omega) (by unfold Bn; omega)
  rw [Int.zero_add, Int.zero_add] at h2
  exact h2
theorem nrm_val {p : Nat} {z : Fl × Fl} {u v C : Int} (hp : p + p ≤ 800) (h : CV p z u v) (hC : 0 ≤ C) (bu : Bn C u) (bv : Bn C v) (hCC : C * C ≤ 2251799813685248) : Val (p + p) (nrm z) (u * u + v * v) ∧ Bn (2 * (C * C)) (u * u + v * v) := by
  have m1 := mul_bd2 hC hC bu bu
  have m2 := mul_bd2 hC hC bv bv
  exact ⟨fadd_val (fmul_val h.1 h.1 hp (by omega)) (fmul_val h.2 h.2 hp (by omega)) hp (by omega), ⟨by omega, by omega⟩⟩
theorem ring_true (a0 : Int) (u0 : (Lit.int .i16 a0).wf = true) (a1 : Int) (u1 : (Lit.int .i16 a1).wf = true) (b0 : Int) (u2 : (Lit.int .i16 b0).wf = true) (b1 : Int) (u3 : (Lit.int .i16 b1).wf = true) (c0 : Int) (u4 : (Lit.int .i16 c0).wf = true) (c1 : Int) (u5 : (Lit.int .i16 c1).wf = true)
    (n : Int) (u6 : (Lit.int .i64 n).wf = true) (m : Int) (u7 : (Lit.int .i64 m).wf = true) :
    f_foghornlaw03_PlaneRing a0 a1 b0 b1 c0 c1 n m = some true := by
  have tm : ∀ (x d : Int), 0 < d → -d < x.tmod d ∧ x.tmod d < d := by
    intro x d hd
    have m1 : x.tmod d < d := Int.tmod_lt_of_pos x hd
    by_cases h0 : 0 ≤ x
    · have := Int.tmod_nonneg d h0; omega
    · have h3 := Int.neg_tmod (a := -x) (b := d)
      have h4 := Int.tmod_lt_of_pos (-x) hd
      rw [Int.neg_neg] at h3
      omega
  have ta0 := tm a0 1025 (by decide); have ta1 := tm a1 1025 (by decide)
  have tb0 := tm b0 1025 (by decide); have tb1 := tm b1 1025 (by decide)
  have tc0 := tm c0 1025 (by decide); have tc1 := tm c1 1025 (by decide)
  have tN := tm n 1073741824 (by decide); have tM := tm m 1073741824 (by decide)
  have t9 := tm (n.tmod 1073741824) 9 (by decide)
  unfold f_foghornlaw03_PlaneRing
  simp only [small_eq, Option.bind_some]
  generalize a0.tmod 1025 = x0 at *
  generalize a1.tmod 1025 = x1 at *
  generalize b0.tmod 1025 = y0 at *
  generalize b1.tmod 1025 = y1 at *
  generalize c0.tmod 1025 = z0 at *
  generalize c1.tmod 1025 = z1 at *
  generalize (n.tmod 1073741824).tmod 9 = n9 at *
  generalize n.tmod 1073741824 = N at *
  generalize m.tmod 1073741824 = M at *
  have vx : CV 0 (fofi x0, fofi x1) x0 x1 := ⟨fofi_val (by omega), fofi_val (by omega)⟩
  have vy : CV 0 (fofi y0, fofi y1) y0 y1 := ⟨fofi_val (by omega), fofi_val (by omega)⟩
  have vz : CV 0 (fofi z0, fofi z1) z0 z1 := ⟨fofi_val (by omega), fofi_val (by omega)⟩
  generalize (fofi x0, fofi x1) = X at *
  generalize (fofi y0, fofi y1) = Y at *
  generalize (fofi z0, fofi z1) = Z at *
  have bx0 : Bn 1024 x0 := by unfold Bn; omega
  have bx1 : Bn 1024 x1 := by unfold Bn; omega
  have by0 : Bn 1024 y0 := by unfold Bn; omega
  have by1 : Bn 1024 y1 := by unfold Bn; omega
  have bz0 : Bn 1024 z0 := by unfold Bn; omega
  have bz1 : Bn 1024 z1 := by unfold Bn; omega
  rw [w64 (x := N + M) (by omega) (by omega), w64 (x := 4 * n9) (by omega) (by omega)]
  simp only [mul_eq, norm_eq, conj_eq, apart_eq, sum_eq, turn_ok, Option.bind_some]
  have h4 : (4 * n9 % 4).toNat = 0 := by omega
  rw [h4]
  have hr : tn (tn X (N % 4).toNat) (M % 4).toNat = tn X ((N + M) % 4).toNat := by
    rw [tn_tn]
    have : (N % 4).toNat + (M % 4).toNat = ((N + M) % 4).toNat ∨ (N % 4).toNat + (M % 4).toNat = 4 + ((N + M) % 4).toNat := by omega
    rcases this with e | e
    · rw [e]
    · rw [e, tn_four]
  rw [hr]
  generalize (N % 4).toNat = r at *
  generalize ((N + M) % 4).toNat = s at *
  -- the values
  obtain ⟨vxy, bxy0, bxy1⟩ := cv_mul (by decide) vx vy (C := 1024) (D := 1024) (by decide) (by decide) bx0 bx1 by0 by1 (by decide)
  obtain ⟨vyx, -, -⟩ := cv_mul (by decide) vy vx (C := 1024) (D := 1024) (by decide) (by decide) by0 by1 bx0 bx1 (by decide)
  obtain ⟨vxz, bxz0, bxz1⟩ := cv_mul (by decide) vx vz (C := 1024) (D := 1024) (by decide) (by decide) bx0 bx1 bz0 bz1 (by decide)
  obtain ⟨vyz, byz0, byz1⟩ := cv_mul (by decide) vy vz (C := 1024) (D := 1024) (by decide) (by decide) by0 by1 bz0 bz1 (by decide)
  obtain ⟨v1, -, -⟩ := cv_mul (by decide) vxy vz (C := 2 * (1024 * 1024)) (D := 1024) (by decide) (by decide) bxy0 bxy1 bz0 bz1 (by decide)
  obtain ⟨v2, -, -⟩ := cv_mul (by decide) vx vyz (C := 1024) (D := 2 * (1024 * 1024)) (by decide) (by decide) bx0 bx1 byz0 byz1 (by decide)
  have vs := cv_sum2 (by decide) vy vz by0 by1 bz0 bz1 (by decide)
  have bs0 : Bn 2048 (y0 + z0) := by unfold Bn at *; omega
  have bs1 : Bn 2048 (y1 + z1) := by unfold Bn at *; omega
  obtain ⟨v3, -, -⟩ := cv_mul (by decide) vx vs (C := 1024) (D := 2048) (by decide) (by decide) bx0 bx1 bs0 bs1 (by decide)
  have v4 := cv_sum2 (by decide) vxy vxz bxy0 bxy1 bxz0 bxz1 (by decide)
  have vtx := cv_tn vx r
  have vty := cv_tn vy r
  obtain ⟨btx0, btx1⟩ := ru_bn bx0 bx1 r
  obtain ⟨bty0, bty1⟩ := ru_bn by0 by1 r
  obtain ⟨v5, -, -⟩ := cv_mul (by decide) vtx vy (C := 1024) (D := 1024) (by decide) (by decide) btx0 btx1 by0 by1 (by decide)
  have v6 := cv_tn vxy r
  have v7 := cv_sum2 (by decide) vtx vty btx0 btx1 bty0 bty1 (by decide)
  have v8 := cv_tn (cv_sum2 (by decide) vx vy bx0 bx1 by0 by1 (by decide)) r
  have v9 := cv_tn vx s
  obtain ⟨n1, -⟩ := nrm_val (by decide) vxy (C := 2 * (1024 * 1024)) (by decide) bxy0 bxy1 (by decide)
  obtain ⟨n2, bn2⟩ := nrm_val (by decide) vx (C := 1024) (by decide) bx0 bx1 (by decide)
  obtain ⟨n3, bn3⟩ := nrm_val (by decide) vy (C := 1024) (by decide) by0 by1 (by decide)
  have n4 := fmul_val n2 n3 (by decide) (by have := mul_bd2 (C := 2 * (1024 * 1024)) (D := 2 * (1024 * 1024)) (by decide) (by decide) bn2 bn3; omega)
  have vcx : CV 0 (cnj X) x0 (-x1) := ⟨vx.1, fneg_val vx.2⟩
  have vcy : CV 0 (cnj Y) y0 (-y1) := ⟨vy.1, fneg_val vy.2⟩
  have bcx : Bn 1024 (-x1) := by unfold Bn at *; omega
  have bcy : Bn 1024 (-y1) := by unfold Bn at *; omega
  obtain ⟨v10, -, -⟩ := cv_mul (by decide) vx vcx (C := 1024) (D := 1024) (by decide) (by decide) bx0 bx1 bx0 bcx (by decide)
  have v11 : CV 0 (nrm X, Fl.bits 0) (x0 * x0 + x1 * x1) 0 := ⟨n2, zero_val 0⟩
  have vd1 : CV 0 (csub X Y) (x0 - y0) (x1 - y1) := ⟨fsub_val vx.1 vy.1 (by decide) (by unfold Bn at *; omega), fsub_val vx.2 vy.2 (by decide) (by unfold Bn at *; omega)⟩
  have vd2 : CV 0 (csub Y X) (y0 - x0) (y1 - x1) := ⟨fsub_val vy.1 vx.1 (by decide) (by unfold Bn at *; omega), fsub_val vy.2 vx.2 (by decide) (by unfold Bn at *; omega)⟩
  obtain ⟨n5, -⟩ := nrm_val (by decide) vd1 (C := 2048) (by decide) (by unfold Bn at *; omega) (by unfold Bn at *; omega) (by decide)
  obtain ⟨n6, -⟩ := nrm_val (by decide) vd2 (C := 2048) (by decide) (by unfold Bn at *; omega) (by unfold Bn at *; omega) (by decide)
  have v12 : CV 0 (cnj (cmul X Y)) (x0 * y0 - x1 * y1) (-(x0 * y1 + x1 * y0)) := ⟨vxy.1, fneg_val vxy.2⟩
  obtain ⟨v13, -, -⟩ := cv_mul (by decide) vcx vcy (C := 1024) (D := 1024) (by decide) (by decide) bx0 bcx by0 bcy (by decide)
  have e1 : ceq (cmul X Y) (cmul Y X) = true := cv_eq vxy vyx (by grind) (by grind)
  have e2 : ceq (cmul (cmul X Y) Z) (cmul X (cmul Y Z)) = true := cv_eq v1 v2 (by grind) (by grind)
  have e3 : ceq (cmul X (sum2 Y Z)) (sum2 (cmul X Y) (cmul X Z)) = true := cv_eq v3 v4 (by grind) (by grind)
  have e4 : ceq (cmul (tn X r) Y) (tn (cmul X Y) r) = true := cv_eq v5 v6 (ru_mul x0 x1 y0 y1 r).1 (ru_mul x0 x1 y0 y1 r).2
  have e5 : ceq (sum2 (tn X r) (tn Y r)) (tn (sum2 X Y) r) = true := cv_eq v7 v8 (ru_add x0 x1 y0 y1 r).1 (ru_add x0 x1 y0 y1 r).2
  have e6 : ceq (tn X s) (tn X s) = true := cv_eq v9 v9 rfl rfl
  have e7 : ceq (tn X 0) X = true := cv_eq vx vx rfl rfl
  have e8 : feq (nrm (cmul X Y)) (fmul (nrm X) (nrm Y)) = true := by
    have e : (x0 * y0 - x1 * y1) * (x0 * y0 - x1 * y1) + (x0 * y1 + x1 * y0) * (x0 * y1 + x1 * y0) = (x0 * x0 + x1 * x1) * (y0 * y0 + y1 * y1) := by grind
    rw [e] at n1
    exact feq_val n1 n4
  have e9 : ceq (cmul X (cnj X)) (nrm X, Fl.bits 0) = true := cv_eq v10 v11 (by grind) (by grind)
  have e10 : feq (nrm (csub X Y)) (nrm (csub Y X)) = true := by
    have e : (x0 - y0) * (x0 - y0) + (x1 - y1) * (x1 - y1) = (y0 - x0) * (y0 - x0) + (y1 - x1) * (y1 - x1) := by grind
    rw [e] at n5
    exact feq_val n5 n6
  have e11 : ceq (cnj (cmul X Y)) (cmul (cnj X) (cnj Y)) = true := cv_eq v12 v13 (by grind) (by grind)
  simp only [e1, e2, e3, e4, e5, e6, e7, e8, e9, e10, e11, Bool.not_true, Bool.false_eq_true, if_false, if_true, Option.bind_some, awake_true]

end Go.Proofs.Yteifkccomfdciaa
