/- PlaneFilters: the plain law. -/
import Derived.Test.YteifkccomfdciaaG3
import Derived.Test.YteifkccomfdciaaGlW
import Derived.Test.YteifkccomfdciaaGlY
set_option linter.unusedVariables false
set_option linter.unusedSimpArgs false
set_option maxRecDepth 8000
namespace Go.Proofs.Yteifkccomfdciaa
open GL Go

/-! ### What a float stands for -/
theorem log2_mul_pow {m : Nat} (hm : m ≠ 0) (a : Nat) : (m * 2 ^ a).log2 = m.log2 + a := by
  have h0 : m * 2 ^ a ≠ 0 := Nat.mul_ne_zero hm (Nat.ne_of_gt (Nat.two_pow_pos a))
  rw [Nat.log2_eq_iff h0]
  have l1 := Nat.log2_self_le hm
  have l2 : m < 2 ^ (m.log2 + 1) := Nat.lt_log2_self
  constructor
  · rw [Nat.pow_add]; exact Nat.mul_le_mul_right _ l1
  · rw [show m.log2 + a + 1 = m.log2 + 1 + a by omega, Nat.pow_add _ _ a]; exact Nat.mul_lt_mul_of_pos_right l2 (Nat.two_pow_pos a)
theorem cut_exact (neg : Bool) {m : Nat} (hm : m ≠ 0) (d : Nat) : Ieee.Toward.even.cut neg (m * 2 ^ d) d = m := by
  unfold Ieee.Toward.cut
  rw [log2_mul_pow hm, Nat.min_eq_left (by omega)]
  have hp := Nat.two_pow_pos d
  simp only [Nat.one_shiftLeft, Nat.mul_div_cancel _ hp, Nat.mul_mod_left]
  have e1 : decide (2 ^ d < 2 * 0) = false := by rw [decide_eq_false_iff_not]; omega
  have e2 : (2 ^ d == 2 * 0) = false := by rw [beq_eq_false_iff_ne]; omega
  rw [e1, e2]; simp
theorem nearest_eq (neg : Bool) {mag : Nat} (place : Int) (h : mag ≠ 0) : Ieee.double.nearest neg mag place = Ieee.double.word neg (min ((max (place + mag.log2 - 52) (-1074) - (-1074)).toNat * 4503599627370496 + Ieee.Toward.even.cut neg (mag <<< (place - max (place + mag.log2 - 52) (-1074)).toNat) (max (place + mag.log2 - 52) (-1074) - place).toNat) 9218868437227405312) := by
  unfold Ieee.Format.nearest
  rw [if_neg h]
  have e1 : (Ieee.double.fractionBits : Nat) = 52 := rfl
  have e2 : Ieee.double.leastPlace = -1074 := by decide
  have e3 : Ieee.double.binade = 4503599627370496 := by decide
  have e4 : Ieee.double.infRung = 9218868437227405312 := by decide
  simp only [e1, e2, e3, e4]
  rfl
theorem read_eq (w : Nat) : Ieee.double.read w = (if w % 9223372036854775808 < 4503599627370496 then .number (w / 9223372036854775808 % 2 == 1) (w % 9223372036854775808) (-1074)
    else if w % 9223372036854775808 < 9218868437227405312 then .number (w / 9223372036854775808 % 2 == 1) (4503599627370496 + w % 9223372036854775808 % 4503599627370496) (-1074 + ((w % 9223372036854775808 / 4503599627370496 - 1 : Nat) : Int))
    else if w % 9223372036854775808 = 9218868437227405312 then .infinity (w / 9223372036854775808 % 2 == 1) else .nan (w / 9223372036854775808 % 2 == 1) (w % 9223372036854775808 - 9218868437227405312)) := by
  have e1 : Ieee.double.signWeight = 9223372036854775808 := by decide
  have e2 : Ieee.double.leastPlace = -1074 := by decide
  have e3 : Ieee.double.binade = 4503599627370496 := by decide
  have e4 : Ieee.double.infRung = 9218868437227405312 := by decide
  simp only [Ieee.Format.read, e1, e2, e3, e4]
theorem word_eq (neg : Bool) (r : Nat) : Ieee.double.word neg r = if neg then 9223372036854775808 + r else r := by
  have e1 : Ieee.double.signWeight = 9223372036854775808 := by decide
  simp only [Ieee.Format.word, e1]
theorem read_word (neg : Bool) {t kept : Nat} (h : kept < 9007199254740992) (h2 : t = 0 ∨ 4503599627370496 ≤ kept) (ht : t < 2000) :
    ∃ m e, Ieee.double.read (Ieee.double.word neg (min (t * 4503599627370496 + kept) 9218868437227405312)) = .number neg m e ∧ -1074 ≤ e ∧ m * 2 ^ (e + 1074).toNat = kept * 2 ^ t := by
  rw [Nat.min_eq_left (by omega), word_eq, read_eq]
  generalize hr : t * 4503599627370496 + kept = r
  have hlt : r < 9218868437227405312 := by omega
  generalize hw : (if neg then 9223372036854775808 + r else r) = w
  have w1 : w % 9223372036854775808 = r := by
    cases neg
    · simp at hw; omega
    · simp at hw; omega
  have w2 : (w / 9223372036854775808 % 2 == 1) = neg := by
    cases neg
    · simp only [Bool.false_eq_true, if_false] at hw
      rw [beq_eq_false_iff_ne]; omega
    · simp only [if_true] at hw
      rw [beq_iff_eq]; omega
  rw [w1, w2]
  by_cases hc : r < 4503599627370496
  · rw [if_pos hc]
    have : t = 0 := by omega
    subst this
    refine ⟨_, _, rfl, by omega, ?_⟩
    have : r = kept := by omega
    subst this
    rfl
  · rw [if_neg hc, if_pos hlt]
    refine ⟨_, _, rfl, by omega, ?_⟩
    have e1 : 4503599627370496 + r % 4503599627370496 = kept := by omega
    have e2 : (-1074 + ((r / 4503599627370496 - 1 : Nat) : Int) + 1074).toNat = t := by omega
    rw [e1, e2]
/-- a number that the format has is written as it is -/
theorem near (neg : Bool) {z p K mag : Nat} {place : Int} (hm : mag ≠ 0) (hK : K < 9007199254740992) (hp : p ≤ 800) (hz : p ≤ z) (hpl : 0 ≤ place + z) (h : mag * 2 ^ (place + z).toNat = K * 2 ^ (z - p)) :
    ∃ m e, Ieee.double.read (Ieee.double.nearest neg mag place) = .number neg m e ∧ -1074 ≤ e ∧ m * 2 ^ (e + 1074).toNat = K * 2 ^ (1074 - p) := by
  have hK0 : K ≠ 0 := by
    intro e
    subst e
    rw [Nat.zero_mul] at h
    exact Nat.mul_ne_zero hm (Nat.ne_of_gt (Nat.two_pow_pos _)) h
  have hL : K.log2 ≤ 52 := by
    have := (Nat.log2_lt hK0 (k := 53)).2 (by simpa using hK)
    omega
  have hlog : place + (mag.log2 : Int) = K.log2 - p := by
    have a1 := log2_mul_pow hm (place + z).toNat
    have a2 := log2_mul_pow hK0 (z - p)
    rw [h] at a1
    omega
  rw [nearest_eq neg place hm]
  have hlast : max (place + mag.log2 - 52) (-1074) = max ((K.log2 : Int) - p - 52) (-1074) := by rw [hlog]
  rw [hlast]
  generalize hl : max ((K.log2 : Int) - p - 52) (-1074) = last
  -- the digits that are kept
  have hlp : last ≤ -p := by omega
  have key : mag * 2 ^ (place - last).toNat = (K * 2 ^ (-p - last).toNat) * 2 ^ (last - place).toNat := by
    have hP := Nat.two_pow_pos (place + z).toNat
    apply Nat.eq_of_mul_eq_mul_right hP
    have s1 : mag * 2 ^ (place - last).toNat * 2 ^ (place + z).toNat = (mag * 2 ^ (place + z).toNat) * 2 ^ (place - last).toNat := by
      rw [Nat.mul_assoc, Nat.mul_comm (2 ^ (place - last).toNat), ← Nat.mul_assoc]
    rw [s1, h, Nat.mul_assoc, ← Nat.pow_add, Nat.mul_assoc K, ← Nat.pow_add, Nat.mul_assoc K, ← Nat.pow_add]
    congr 2
    omega
  have hk0 : K * 2 ^ (-p - last).toNat ≠ 0 := Nat.mul_ne_zero hK0 (Nat.ne_of_gt (Nat.two_pow_pos _))
  rw [Nat.shiftLeft_eq, key, cut_exact neg hk0]
  have hkl := log2_mul_pow hK0 (-p - last).toNat
  have hk53 : K * 2 ^ (-p - last).toNat < 9007199254740992 := by
    have l2 : K * 2 ^ (-p - last).toNat < 2 ^ ((K * 2 ^ (-p - last).toNat).log2 + 1) := Nat.lt_log2_self
    have l3 : 2 ^ ((K * 2 ^ (-p - last).toNat).log2 + 1) ≤ 2 ^ 53 := Nat.pow_le_pow_right (by decide) (by omega)
    have l4 : (2 : Nat) ^ 53 = 9007199254740992 := by decide
    omega
  have hk52 : (last - (-1074)).toNat = 0 ∨ 4503599627370496 ≤ K * 2 ^ (-p - last).toNat := by
    by_cases hc : last = -1074
    · left; omega
    · right
      have l1 := Nat.log2_self_le hk0
      have l3 : 2 ^ 52 ≤ 2 ^ (K * 2 ^ (-p - last).toNat).log2 := Nat.pow_le_pow_right (by decide) (by omega)
      have l4 : (2 : Nat) ^ 52 = 4503599627370496 := by decide
      omega
  obtain ⟨m, e, r1, r2, r3⟩ := read_word neg hk53 hk52 (by omega)
  refine ⟨m, e, r1, r2, r3.trans ?_⟩
  rw [Nat.mul_assoc, ← Nat.pow_add]
  congr 2
  omega
def sg (s : Bool) (m : Nat) : Int := if s then -(m : Int) else (m : Int)
theorem sg_mul (s : Bool) (m n : Nat) : sg s (m * n) = sg s m * (n : Int) := by
  cases s <;> simp [sg, Int.neg_mul]
theorem signed_eq (s : Bool) (m u : Nat) : Ieee.signed s m u = sg s (m * 2 ^ u) := by
  unfold Ieee.signed sg
  rw [Nat.shiftLeft_eq]
/-- 'x' stands for 'k / 2 ^ p' -/
def Val (p : Nat) (x : Fl) (k : Int) : Prop := ∃ b s m e, x = .bits b ∧ Ieee.double.read b = .number s m e ∧ -1074 ≤ e ∧ sg s (m * 2 ^ (e + 1074).toNat) = k * ((2 ^ (1074 - p) : Nat) : Int)
theorem pow_pos_i (a : Nat) : (0 : Int) < ((2 ^ a : Nat) : Int) := by have := Nat.two_pow_pos a; omega
theorem val_near (neg : Bool) {z p : Nat} {k total : Int} {place : Int} (hp : p ≤ 800) (hz : p ≤ z) (hpl : 0 ≤ place + z) (hk : k.natAbs < 9007199254740992)
    (h : total * ((2 ^ (place + z).toNat : Nat) : Int) = k * ((2 ^ (z - p) : Nat) : Int)) (hs : total ≠ 0 → neg = decide (total < 0)) : Val p (.bits (Ieee.double.nearest neg total.natAbs place)) k := by
  have p1 := pow_pos_i (place + z).toNat
  have p2 := pow_pos_i (z - p)
  by_cases h0 : total = 0
  · subst h0
    rw [Int.zero_mul] at h
    have hk0 : k = 0 := by
      rcases Int.mul_eq_zero.1 h.symm with h | h
      · exact h
      · omega
    subst hk0
    refine ⟨_, neg, 0, -1074, rfl, ?_, by decide, ?_⟩
    · have : Ieee.double.nearest neg (0 : Int).natAbs place = Ieee.double.word neg 0 := rfl
      rw [this]
      cases neg <;> decide
    · rw [Nat.zero_mul, Int.zero_mul]; cases neg <;> rfl
  · obtain ⟨m, e, r1, r2, r3⟩ := near neg (mag := total.natAbs) (K := k.natAbs) (place := place) (z := z) (p := p) (by omega) hk hp hz hpl (by
      have := congrArg Int.natAbs h
      rw [Int.natAbs_mul, Int.natAbs_mul, Int.natAbs_natCast, Int.natAbs_natCast] at this
      exact this)
    refine ⟨_, neg, m, e, rfl, r1, r2, ?_⟩
    rw [r3, sg_mul, hs h0]
    congr 1
    by_cases ht : total < 0
    · have : k < 0 := by
        apply Int.not_le.mp
        intro hk
        have a1 : 0 ≤ k * ((2 ^ (z - p) : Nat) : Int) := Int.mul_nonneg hk (by omega)
        have a2 : total * ((2 ^ (place + z).toNat : Nat) : Int) < 0 := Int.mul_neg_of_neg_of_pos ht p1
        omega
      rw [decide_eq_true ht]; simp only [sg, if_true]; omega
    · have : 0 ≤ k := by
        apply Int.not_lt.mp
        intro hk
        have a1 : k * ((2 ^ (z - p) : Nat) : Int) < 0 := Int.mul_neg_of_neg_of_pos hk p2
        have a2 : 0 ≤ total * ((2 ^ (place + z).toNat : Nat) : Int) := Int.mul_nonneg (by omega) (by omega)
        omega
      rw [decide_eq_false ht]; simp only [sg, Bool.false_eq_true, if_false]; omega
theorem fofi_val {k : Int} (hk : k.natAbs < 9007199254740992) : Val 0 (fofi k) k := by
  have := val_near (decide (k < 0)) (z := 0) (p := 0) (k := k) (total := k) (place := 0) (by decide) (by decide) (by decide) hk rfl (fun _ => rfl)
  exact this
theorem zero_val (p : Nat) : Val p (.bits 0) 0 := by
  refine ⟨0, false, 0, -1074, rfl, by decide, by decide, ?_⟩
  rw [Nat.zero_mul, Int.zero_mul]; rfl
theorem sum_read {a b : Nat} {s t : Bool} {m n : Nat} {i j : Int} {p : Nat} {k l : Int} (hp : p ≤ 800) (hi : -1074 ≤ i) (hj : -1074 ≤ j)
    (h1 : sg s (m * 2 ^ (i + 1074).toNat) = k * ((2 ^ (1074 - p) : Nat) : Int)) (h2 : sg t (n * 2 ^ (j + 1074).toNat) = l * ((2 ^ (1074 - p) : Nat) : Int)) (hk : (k + l).natAbs < 9007199254740992) :
    ∃ d, (Ieee.Datum.number s m i).sum (.number t n j) = some d ∧ Val p (.bits (Ieee.double.write d)) (k + l) := by
  refine ⟨_, rfl, ?_⟩
  refine val_near (z := 1074) (p := p) (k := k + l) _ hp (by omega) (by omega) hk ?_ (fun h => by rw [if_neg h])
  rw [signed_eq, signed_eq, Int.add_mul, Int.add_mul, ← h1, ← h2, ← sg_mul, ← sg_mul, Nat.mul_assoc, ← Nat.pow_add, Nat.mul_assoc, ← Nat.pow_add]
  congr 4 <;> omega
theorem fadd_val {p : Nat} {x y : Fl} {k l : Int} (h1 : Val p x k) (h2 : Val p y l) (hp : p ≤ 800) (hk : (k + l).natAbs < 9007199254740992) : Val p (fadd x y) (k + l) := by
  obtain ⟨a, s, m, i, rfl, r1, hi, v1⟩ := h1
  obtain ⟨b, t, n, j, rfl, r2, hj, v2⟩ := h2
  obtain ⟨d, e1, e2⟩ := sum_read (a := a) (b := b) hp hi hj v1 v2 hk
  have : fadd (.bits a) (.bits b) = .bits (Ieee.double.write d) := by
    show farith .add _ _ = _
    have : floatBits .add .f64 a b = some (Ieee.double.write d) := by
      show Ieee.double.add a b = _
      unfold Ieee.Format.add
      rw [r1, r2, e1]; rfl
    simp only [farith, this]
  rw [this]; exact e2
theorem sg_not (s : Bool) (m : Nat) : sg (!s) m = - sg s m := by cases s <;> simp [sg]
theorem fsub_val {p : Nat} {x y : Fl} {k l : Int} (h1 : Val p x k) (h2 : Val p y l) (hp : p ≤ 800) (hk : (k - l).natAbs < 9007199254740992) : Val p (fsub x y) (k - l) := by
  obtain ⟨a, s, m, i, rfl, r1, hi, v1⟩ := h1
  obtain ⟨b, t, n, j, rfl, r2, hj, v2⟩ := h2
  obtain ⟨d, e1, e2⟩ := sum_read (a := a) (b := b) (t := !t) (n := n) (l := -l) hp hi hj v1 (by rw [sg_not, v2, Int.neg_mul]) (by rw [← Int.sub_eq_add_neg]; exact hk)
  have : fsub (.bits a) (.bits b) = .bits (Ieee.double.write d) := by
    show farith .sub _ _ = _
    have : floatBits .sub .f64 a b = some (Ieee.double.write d) := by
      show Ieee.double.sub a b = _
      unfold Ieee.Format.sub
      rw [r1, r2]
      show (Ieee.Datum.sum _ (Ieee.Datum.number (!t) n j)).map _ = _
      rw [e1]; rfl
    simp only [farith, this]
  rw [this, Int.sub_eq_add_neg]; exact e2
theorem sg_prod (s t : Bool) (m n : Nat) : sg (s ^^ t) (m * n) = sg s m * sg t n := by
  cases s <;> cases t <;> simp [sg, Int.neg_mul, Int.mul_neg]
theorem fmul_val {p q : Nat} {x y : Fl} {k l : Int} (h1 : Val p x k) (h2 : Val q y l) (hp : p + q ≤ 800) (hk : (k * l).natAbs < 9007199254740992) : Val (p + q) (fmul x y) (k * l) := by
  obtain ⟨a, s, m, i, rfl, r1, hi, v1⟩ := h1
  obtain ⟨b, t, n, j, rfl, r2, hj, v2⟩ := h2
  have hw : floatBits .mul .f64 a b = some (Ieee.double.nearest (s ^^ t) (m * n) (i + j)) := by
    show Ieee.double.mul a b = _
    unfold Ieee.Format.mul
    rw [r1, r2]; rfl
  have hf : fmul (.bits a) (.bits b) = .bits (Ieee.double.nearest (s ^^ t) (m * n) (i + j)) := by
    show farith .mul _ _ = _
    simp only [farith, hw]
  rw [hf]
  have hab : (sg (s ^^ t) (m * n)).natAbs = m * n := by unfold sg; split <;> omega
  rw [← hab]
  refine val_near (z := 2148) (p := p + q) (k := k * l) (total := sg (s ^^ t) (m * n)) _ hp (by omega) (by omega) hk ?_ (fun h => ?_)
  · rw [← sg_mul]
    have e : m * n * 2 ^ (i + j + ((2148 : Nat) : Int)).toNat = (m * 2 ^ (i + 1074).toNat) * (n * 2 ^ (j + 1074).toNat) := by
      rw [show (i + j + ((2148 : Nat) : Int)).toNat = (i + 1074).toNat + (j + 1074).toNat by omega, Nat.pow_add]
      rw [Nat.mul_assoc, Nat.mul_assoc]
      congr 1
      rw [← Nat.mul_assoc, ← Nat.mul_assoc, Nat.mul_comm n]
    rw [e, sg_prod, v1, v2, show 2148 - (p + q) = (1074 - p) + (1074 - q) by omega, Nat.pow_add, Int.natCast_mul]
    generalize ((2 ^ (1074 - p) : Nat) : Int) = P
    generalize ((2 ^ (1074 - q) : Nat) : Int) = Q
    grind
  · unfold sg at h ⊢
    cases hst : (s ^^ t)
    · rw [hst] at h
      simp only [Bool.false_eq_true, if_false] at h ⊢
      symm; rw [decide_eq_false_iff_not]; omega
    · rw [hst] at h
      simp only [if_true] at h ⊢
      symm; rw [decide_eq_true_eq]; omega
theorem feq_val {p : Nat} {x y : Fl} {k : Int} (h1 : Val p x k) (h2 : Val p y k) : feq x y = true := by
  obtain ⟨a, s, m, i, rfl, r1, hi, v1⟩ := h1
  obtain ⟨b, t, n, j, rfl, r2, hj, v2⟩ := h2
  have : fcmp (.bits a) (.bits b) = some .eq := by
    show (Ieee.double.read a).order (Ieee.double.read b) = _
    rw [r1, r2]
    unfold Ieee.Datum.order
    simp only [signed_eq]
    have hP := pow_pos_i (min i j + 1074).toNat
    have e : sg s (m * 2 ^ (i - min i j).toNat) = sg t (n * 2 ^ (j - min i j).toNat) := by
      apply Int.eq_of_mul_eq_mul_right (a := ((2 ^ (min i j + 1074).toNat : Nat) : Int)) (by omega)
      rw [← sg_mul, ← sg_mul, Nat.mul_assoc, ← Nat.pow_add, Nat.mul_assoc, ← Nat.pow_add, show (i - min i j).toNat + (min i j + 1074).toNat = (i + 1074).toNat by omega, show (j - min i j).toNat + (min i j + 1074).toNat = (j + 1074).toNat by omega, v1, v2]
    rw [e]
    congr 1
    simp
  unfold feq
  rw [this]; rfl
theorem fneg_val {p : Nat} {x : Fl} {k : Int} (h : Val p x k) : Val p (fneg x) (-k) := by
  obtain ⟨a, s, m, i, rfl, r1, hi, v1⟩ := h
  have hr := rung_neg a
  have hs : ((a ^^^ 2 ^ 63) / 9223372036854775808 % 2 == 1) = !(a / 9223372036854775808 % 2 == 1) := by
    have t1 : (a ^^^ 2 ^ 63).testBit 63 = !a.testBit 63 := by rw [Nat.testBit_xor, Nat.testBit_two_pow]; simp
    rw [Nat.testBit_eq_decide_div_mod_eq, Nat.testBit_eq_decide_div_mod_eq] at t1
    exact t1
  rw [show (2 : Nat) ^ 63 = 9223372036854775808 from rfl] at hr hs
  have rd : Ieee.double.read (a ^^^ 9223372036854775808) = (Ieee.double.read a).opposite := by
    rw [read_eq, read_eq, hr, hs]
    split
    · rfl
    · split
      · rfl
      · split <;> rfl
  refine ⟨a ^^^ 9223372036854775808, !s, m, i, rfl, by rw [rd, r1]; rfl, hi, ?_⟩
  rw [sg_not, v1, Int.neg_mul]
theorem awake_true : f_foghornlaw03_awake = some true := by
  have h1 : loop (f_plane_Gauss_Class.s1 3) (3, 2, 0, 0) = some 1 := loop_iff.2 ⟨4, by decide +kernel⟩
  have h2 : f_plane_Gauss_Class 3 2 3 = some (1, 0) := by
    unfold f_plane_Gauss_Class
    rw [h1]; rfl
  have h3 : f_plane_Mul (Fl.bits 4607182418800017408, Fl.bits 4611686018427387904) (Fl.bits 4613937818241073152, Fl.bits 13830554455654793216) = some (Fl.bits 4617315517961601024, Fl.bits 4617315517961601024) := by decide +kernel
  have h4 : f_plane_Turn (Fl.bits 4607182418800017408, Fl.bits 4611686018427387904) 1 = some (Fl.bits 13835058055282163712, Fl.bits 4607182418800017408) := by decide +kernel
  unfold f_foghornlaw03_awake
  rw [h2, h3, h4]
  decide +kernel
/-! ### Quarters -/
theorem fneg_fneg (x : Fl) : fneg (fneg x) = x := by
  cases x with
  | nan => rfl
  | bits b =>
    simp only [fneg, Fl.bits.injEq]
    show (b ^^^ 2 ^ 63) ^^^ 2 ^ 63 = b
    rw [Nat.xor_assoc, Nat.xor_self, Nat.xor_zero]
def tn (z : Fl × Fl) : Nat → Fl × Fl
  | 0 => z
  | i + 1 => (fneg (tn z i).2, (tn z i).1)
theorem iand3 (n : Int) : iand .i64 n 3 = n % 4 := by
  have h3 : (BitVec.ofInt IntKind.i64.bits n &&& BitVec.ofInt IntKind.i64.bits 3).toNat = (n % 4).toNat := by
    rw [BitVec.toNat_and]
    show (BitVec.ofInt 64 n).toNat &&& (BitVec.ofInt 64 3).toNat = _
    have e3 : (BitVec.ofInt 64 3).toNat = 2 ^ 2 - 1 := by decide
    rw [e3, Nat.and_two_pow_sub_one_eq_mod, BitVec.toNat_ofInt]
    omega
  unfold iand
  rw [h3, w64 (by omega) (by omega)]; omega
theorem turn_ok (z : Fl × Fl) (n : Int) : f_plane_Turn z n = some (tn z (n % 4).toNat) := by
  unfold f_plane_Turn
  rw [iand3]
  have h : n % 4 = 0 ∨ n % 4 = 1 ∨ n % 4 = 2 ∨ n % 4 = 3 := by omega
  rcases h with h | h | h | h <;> rw [h] <;> simp [tn, fneg_fneg]
theorem wf_i16 {x : Int} (h : (Lit.int .i16 x).wf = true) : -32768 ≤ x ∧ x < 32768 := by
  simp [Lit.wf, IntKind.min, IntKind.max, IntKind.bits, IntKind.signed] at h
  omega
theorem mul_bd2 {g o C D : Int} (hC : 0 ≤ C) (hD : 0 ≤ D) (h : -C ≤ g ∧ g ≤ C) (k : -D ≤ o ∧ o ≤ D) : g * o ≤ C * D ∧ -(C * D) ≤ g * o := by
  have a1 : 0 ≤ (C - g) * (D + o) := Int.mul_nonneg (by omega) (by omega)
  have a2 : 0 ≤ (C + g) * (D - o) := Int.mul_nonneg (by omega) (by omega)
  have a3 : 0 ≤ (C - g) * (D - o) := Int.mul_nonneg (by omega) (by omega)
  have a4 : 0 ≤ (C + g) * (D + o) := Int.mul_nonneg (by omega) (by omega)
  have e1 : (C - g) * (D + o) = C * D + C * o - g * D - g * o := by grind
  have e2 : (C + g) * (D - o) = C * D - C * o + g * D - g * o := by grind
  have e3 : (C - g) * (D - o) = C * D - C * o - g * D + g * o := by grind
  have e4 : (C + g) * (D + o) = C * D + C * o + g * D + g * o := by grind
  omega
/-! ### Complex values -/
abbrev zc : Fl × Fl := (Fl.bits 0, Fl.bits 0)
def cmul (a b : Fl × Fl) : Fl × Fl := (fsub (fmul a.1 b.1) (fmul a.2 b.2), fadd (fmul a.1 b.2) (fmul a.2 b.1))
def Bn (C u : Int) : Prop := -C ≤ u ∧ u ≤ C
def CV (p : Nat) (z : Fl × Fl) (u v : Int) : Prop := Val p z.1 u ∧ Val p z.2 v
theorem cv_mul {p q : Nat} {x y : Fl × Fl} {a b c d C D : Int} (hp : p + q ≤ 800) (hx : CV p x a b) (hy : CV q y c d) (hC : 0 ≤ C) (hD : 0 ≤ D) (ba : Bn C a) (bb : Bn C b) (bc : Bn D c) (bd : Bn D d) (hCD : C * D ≤ 2251799813685248) :
    CV (p + q) (cmul x y) (a * c - b * d) (a * d + b * c) ∧ Bn (2 * (C * D)) (a * c - b * d) ∧ Bn (2 * (C * D)) (a * d + b * c) := by
  have m1 := mul_bd2 hC hD ba bc
  have m2 := mul_bd2 hC hD bb bd
  have m3 := mul_bd2 hC hD ba bd
  have m4 := mul_bd2 hC hD bb bc
  refine ⟨⟨fsub_val (fmul_val hx.1 hy.1 hp (by omega)) (fmul_val hx.2 hy.2 hp (by omega)) hp (by omega), fadd_val (fmul_val hx.1 hy.2 hp (by omega)) (fmul_val hx.2 hy.1 hp (by omega)) hp (by omega)⟩, ⟨by omega, by omega⟩, ⟨by omega, by omega⟩⟩
theorem cv_add {p : Nat} {x y : Fl × Fl} {a b c d : Int} (hp : p ≤ 800) (hx : CV p x a b) (hy : CV p y c d) (h1 : Bn 9007199254740991 (a + c)) (h2 : Bn 9007199254740991 (b + d)) : CV p (cadd x y) (a + c) (b + d) := by
  unfold Bn at h1 h2
  exact ⟨fadd_val hx.1 hy.1 hp (by omega), fadd_val hx.2 hy.2 hp (by omega)⟩
theorem cv_zero (p : Nat) : CV p zc 0 0 := ⟨zero_val p, zero_val p⟩
theorem cv_eq {p : Nat} {x y : Fl × Fl} {a b c d : Int} (hx : CV p x a b) (hy : CV p y c d) (h1 : a = c) (h2 : b = d) : ceq x y = true := by
  subst h1 h2
  unfold ceq
  rw [feq_val hx.1 hy.1, feq_val hx.2 hy.2]; rfl
def ru (u v : Int) : Nat → Int × Int
  | 0 => (u, v)
  | i + 1 => (-(ru u v i).2, (ru u v i).1)
theorem cv_tn {p : Nat} {z : Fl × Fl} {u v : Int} (h : CV p z u v) : ∀ r, CV p (tn z r) (ru u v r).1 (ru u v r).2
  | 0 => h
  | i + 1 => ⟨fneg_val (cv_tn h i).2, (cv_tn h i).1⟩
theorem ru_bn {C u v : Int} (hu : Bn C u) (hv : Bn C v) : ∀ r, Bn C (ru u v r).1 ∧ Bn C (ru u v r).2
  | 0 => ⟨hu, hv⟩
  | i + 1 => by
    obtain ⟨h1, h2⟩ := ru_bn hu hv i
    unfold Bn at *
    simp only [ru]
    exact ⟨by omega, h1⟩
theorem ru_mul (u v c d : Int) : ∀ r, (ru u v r).1 * c - (ru u v r).2 * d = (ru (u * c - v * d) (u * d + v * c) r).1 ∧ (ru u v r).1 * d + (ru u v r).2 * c = (ru (u * c - v * d) (u * d + v * c) r).2
  | 0 => ⟨rfl, rfl⟩
  | i + 1 => by
    obtain ⟨h1, h2⟩ := ru_mul u v c d i
    simp only [ru]
    rw [← h1, ← h2]
    constructor <;> grind
theorem ru_add (u v c d : Int) : ∀ r, (ru u v r).1 + (ru c d r).1 = (ru (u + c) (v + d) r).1 ∧ (ru u v r).2 + (ru c d r).2 = (ru (u + c) (v + d) r).2
  | 0 => ⟨rfl, rfl⟩
  | i + 1 => by
    obtain ⟨h1, h2⟩ := ru_add u v c d i
    simp only [ru]
    rw [← h1, ← h2]
    constructor <;> grind
theorem tn_tn (z : Fl × Fl) (r : Nat) : ∀ s, tn (tn z r) s = tn z (r + s)
  | 0 => rfl
  | s + 1 => by rw [show r + (s + 1) = r + s + 1 by omega]; simp only [tn]; rw [tn_tn z r s]
theorem tn_four (z : Fl × Fl) (r : Nat) : tn z (4 + r) = tn z r := by
  rw [← tn_tn z 4 r]
  congr 1
  simp [tn, fneg_fneg]
def acc (h row : List (Fl × Fl)) (n : Nat) : Nat → Fl × Fl
  | 0 => zc
  | k + 1 => cadd (acc h row n k) (cmul (gt h (k : Int)) (gt row ((n - k : Nat) : Int)))
def flt (h row : List (Fl × Fl)) : List (Fl × Fl) := (List.range row.length).map fun n => acc h row n (min h.length (n + 1))
theorem flt_len (h row : List (Fl × Fl)) : (flt h row).length = row.length := by simp [flt]
theorem mid_set {α : Type} {A B : List α} (v x : α) {n : Nat} (h : A.length = n) : (A ++ v :: B).set n x = A ++ x :: B := by
  rw [List.set_append_right _ _ (by omega), h, Nat.sub_self, List.set_cons_zero]
theorem mid_gt {α : Type} [Inhabited α] {A B : List α} (v : α) {n : Nat} (h : A.length = n) : gt (A ++ v :: B) (n : Int) = v := by
  rw [gt_nat (by simp; omega), List.getElem_append_right (by omega)]; simp [h]
theorem flt_take (h row : List (Fl × Fl)) {n : Nat} (hn : n < row.length) : (flt h row).take (n + 1) = (flt h row).take n ++ [acc h row n (min h.length (n + 1))] := by
  rw [List.take_succ_eq_append_getElem (by rw [flt_len]; exact hn)]; simp [flt]
theorem filt_ok (h row : List (Fl × Fl)) (hh : 1 ≤ h.length ∧ h.length ≤ 64) (hr : row.length ≤ 65536) : f_plane_Filter h row = some (flt h row, 0) := by
  have inner : ∀ n, n < row.length → ∀ A B : List (Fl × Fl), A.length = n → loop (f_plane_Filter.s2 h row (n : Int)) (A ++ zc :: B, 0) = some (A ++ acc h row n (min h.length (n + 1)) :: B) := by
    intro n hn A B hA
    refine loop_for (f := f_plane_Filter.s2 h row (n : Int)) (min h.length (n + 1)) (fun k => A ++ acc h row n k :: B) (A ++ acc h row n (min h.length (n + 1)) :: B) (fun k hk => ?_) ?_
    · simp only [f_plane_Filter.s2, f_plane_Filter.s2c]
      have hL : ∀ v : Fl × Fl, (A ++ v :: B).length = n + 1 + B.length := fun v => by simp; omega
      have e1 : IntKind.i64.wrap ((n : Int) - (k : Int)) = ((n - k : Nat) : Int) := by rw [w64 (by omega) (by omega)]; omega
      have e2 : imin (h.length : Int) (IntKind.i64.wrap ((n : Int) + 1)) = ((min h.length (n + 1) : Nat) : Int) := by
        rw [w64 (by omega) (by omega), show (n : Int) + 1 = ((n + 1 : Nat) : Int) from rfl, imin_nat]
      rw [e2, if_pos (by rw [decide_eq_true_eq]; omega), hL, if_pos (by omega), if_pos (by omega), e1, if_pos (by omega)]
      rw [show f_plane_Mul (gt h (k : Int)) (gt row ((n - k : Nat) : Int)) = some (cmul (gt h (k : Int)) (gt row ((n - k : Nat) : Int))) from rfl]
      simp only [Option.bind_some]
      rw [if_pos (by omega), Int.toNat_natCast, mid_gt _ hA, mid_set _ _ hA, w64 (by omega) (by omega)]
      rfl
    · simp only [f_plane_Filter.s2, f_plane_Filter.s2c]
      have e2 : imin (h.length : Int) (IntKind.i64.wrap ((n : Int) + 1)) = ((min h.length (n + 1) : Nat) : Int) := by
        rw [w64 (by omega) (by omega), show (n : Int) + 1 = ((n + 1 : Nat) : Int) from rfl, imin_nat]
      rw [e2, if_neg (by simp)]
  unfold f_plane_Filter
  rw [if_neg (by simp only [Bool.or_eq_true, decide_eq_true_eq, beq_iff_eq]; omega), if_pos (by omega), Int.toNat_natCast]
  have := loop_for (f := f_plane_Filter.s1 h row) row.length (fun n => (flt h row).take n ++ List.replicate (row.length - n) zc) (flt h row) (fun n hn => by
    simp only [f_plane_Filter.s1, f_plane_Filter.s1c]
    have hA : ((flt h row).take n).length = n := by rw [List.length_take, flt_len]; omega
    have e : List.replicate (row.length - n) zc = zc :: List.replicate (row.length - (n + 1)) zc := by rw [← List.replicate_succ]; congr 1; omega
    rw [if_pos (by rw [decide_eq_true_eq]; omega), e, inner n hn _ _ hA]
    simp only [Option.bind_some]
    rw [w64 (by omega) (by omega), flt_take h row hn, List.append_assoc]; rfl) (by
    simp only [f_plane_Filter.s1, f_plane_Filter.s1c]
    rw [if_neg (by simp), List.take_of_length_le (by rw [flt_len]; omega), Nat.sub_self]; simp)
  rw [List.take_zero, List.nil_append, Nat.sub_zero] at this
  rw [this]; rfl
/-! ### Sums of pairs -/
abbrev Z2 := Int × Int
def cm (a b : Z2) : Z2 := (a.1 * b.1 - a.2 * b.2, a.1 * b.2 + a.2 * b.1)
def ca (a b : Z2) : Z2 := (a.1 + b.1, a.2 + b.2)
def zs (f : Nat → Z2) : Nat → Z2
  | 0 => (0, 0)
  | k + 1 => ca (zs f k) (f k)
theorem z_ext {a b : Z2} (h1 : a.1 = b.1) (h2 : a.2 = b.2) : a = b := Prod.ext h1 h2
theorem ca_zero (a : Z2) : ca a (0, 0) = a := z_ext (Int.add_zero _) (Int.add_zero _)
theorem ca_four (a b c d : Z2) : ca (ca a b) (ca c d) = ca (ca a c) (ca b d) := z_ext (by simp only [ca]; omega) (by simp only [ca]; omega)
theorem cm_ca (c a b : Z2) : cm c (ca a b) = ca (cm c a) (cm c b) := z_ext (by simp only [ca, cm]; grind) (by simp only [ca, cm]; grind)
theorem cm_zero (c : Z2) : cm c (0, 0) = (0, 0) := z_ext (by simp only [cm]; grind) (by simp only [cm]; grind)
theorem cm_comm3 (a b c : Z2) : cm a (cm b c) = cm b (cm a c) := z_ext (by simp only [cm]; grind) (by simp only [cm]; grind)
theorem zs_congr {f g : Nat → Z2} : ∀ {k}, (∀ i, i < k → f i = g i) → zs f k = zs g k
  | 0, _ => rfl
  | k + 1, h => by simp only [zs]; rw [zs_congr fun i hi => h i (by omega), h k (by omega)]
theorem zs_zero : ∀ k, zs (fun _ => (0, 0)) k = (0, 0)
  | 0 => rfl
  | k + 1 => by simp only [zs]; rw [zs_zero k]; rfl
theorem zs_ca (f g : Nat → Z2) : ∀ k, zs (fun i => ca (f i) (g i)) k = ca (zs f k) (zs g k)
  | 0 => rfl
  | k + 1 => by simp only [zs]; rw [zs_ca f g k, ca_four]
theorem zs_cm (c : Z2) (f : Nat → Z2) : ∀ k, zs (fun i => cm c (f i)) k = cm c (zs f k)
  | 0 => (cm_zero c).symm
  | k + 1 => by simp only [zs]; rw [zs_cm c f k, cm_ca]
theorem zs_swap (f : Nat → Nat → Z2) (L : Nat) : ∀ M, zs (fun j => zs (fun i => f i j) L) M = zs (fun i => zs (fun j => f i j) M) L
  | 0 => (zs_zero L).symm
  | M + 1 => by simp only [zs]; rw [zs_swap f L M, ← zs_ca]
theorem zs_cut (f : Nat → Z2) (k : Nat) : ∀ L, k ≤ L → (∀ i, k ≤ i → i < L → f i = (0, 0)) → zs f L = zs f k
  | 0, h, _ => by have : k = 0 := by omega
                  subst this; rfl
  | L + 1, h, hz => by
    by_cases e : k = L + 1
    · subst e; rfl
    · simp only [zs]
      rw [zs_cut f k L (by omega) (fun i h1 h2 => hz i h1 (by omega)), hz L (by omega) (by omega), ca_zero]
/-- what a filter answers -/
def rr (R : Nat → Z2) (n j : Nat) : Z2 := if j ≤ n then R (n - j) else (0, 0)
def FF (H : Nat → Z2) (L : Nat) (R : Nat → Z2) (n : Nat) : Z2 := zs (fun j => cm (H j) (rr R n j)) L
theorem FF_add (H : Nat → Z2) (L : Nat) (R S : Nat → Z2) (n : Nat) : FF H L (fun i => ca (R i) (S i)) n = ca (FF H L R n) (FF H L S n) := by
  unfold FF
  rw [← zs_ca]
  apply zs_congr
  intro j hj
  rw [← cm_ca]
  congr 1
  unfold rr
  split
  · rfl
  · rfl
theorem FF_comm (V : Nat → Z2) (M : Nat) (U : Nat → Z2) (L : Nat) (R : Nat → Z2) (n : Nat) : FF V M (FF U L R) n = FF U L (FF V M R) n := by
  have key : ∀ (A : Nat → Z2) (K : Nat) (j : Nat), rr (FF A K R) n j = zs (fun i => cm (A i) (rr R n (i + j))) K := by
    intro A K j
    unfold rr
    by_cases hj : j ≤ n
    · rw [if_pos hj]
      unfold FF
      apply zs_congr
      intro i hi
      congr 1
      unfold rr
      by_cases hi2 : i ≤ n - j
      · rw [if_pos hi2, if_pos (by omega)]; congr 1; omega
      · rw [if_neg hi2, if_neg (by omega)]
    · rw [if_neg hj]
      have : zs (fun i => cm (A i) (if i + j ≤ n then R (n - (i + j)) else (0, 0))) K = zs (fun _ => (0, 0)) K := zs_congr fun i hi => by rw [if_neg (by omega), cm_zero]
      rw [this, zs_zero]
  have e1 : FF V M (FF U L R) n = zs (fun j => zs (fun i => cm (V j) (cm (U i) (rr R n (i + j)))) L) M := by
    show zs (fun j => cm (V j) (rr (FF U L R) n j)) M = _
    apply zs_congr
    intro j hj
    rw [key, zs_cm]
  have e2 : FF U L (FF V M R) n = zs (fun i => zs (fun j => cm (U i) (cm (V j) (rr R n (j + i)))) M) L := by
    show zs (fun j => cm (U j) (rr (FF V M R) n j)) L = _
    apply zs_congr
    intro j hj
    rw [key, zs_cm]
  rw [e1, e2, zs_swap]
  apply zs_congr
  intro i hi
  apply zs_congr
  intro j hj
  rw [cm_comm3, Nat.add_comm]
theorem ru_ca (a b : Z2) (r : Nat) : ca (ru a.1 a.2 r) (ru b.1 b.2 r) = ru (ca a b).1 (ca a b).2 r := z_ext (ru_add a.1 a.2 b.1 b.2 r).1 (ru_add a.1 a.2 b.1 b.2 r).2
theorem ru_zero : ∀ r, ru 0 0 r = (0, 0)
  | 0 => rfl
  | r + 1 => by simp only [ru]; rw [ru_zero r]; rfl
theorem cm_comm (a b : Z2) : cm a b = cm b a := z_ext (by simp only [cm]; grind) (by simp only [cm]; grind)
theorem ru_cm (a b : Z2) (r : Nat) : cm a (ru b.1 b.2 r) = ru (cm a b).1 (cm a b).2 r := by
  rw [cm_comm, cm_comm a b]
  exact z_ext (ru_mul b.1 b.2 a.1 a.2 r).1 (ru_mul b.1 b.2 a.1 a.2 r).2
theorem zs_ru (f : Nat → Z2) (r : Nat) : ∀ k, zs (fun i => ru (f i).1 (f i).2 r) k = ru (zs f k).1 (zs f k).2 r
  | 0 => (ru_zero r).symm
  | k + 1 => by simp only [zs]; rw [zs_ru f r k, ru_ca]
theorem FF_ru (H : Nat → Z2) (L : Nat) (R : Nat → Z2) (r n : Nat) : FF H L (fun i => ru (R i).1 (R i).2 r) n = ru (FF H L R n).1 (FF H L R n).2 r := by
  unfold FF
  rw [← zs_ru]
  apply zs_congr
  intro j hj
  rw [← ru_cm]
  congr 1
  unfold rr
  split
  · rfl
  · exact (ru_zero r).symm
/-! ### Lists that stand for pairs -/
structure LV (p : Nat) (C : Int) (l : List (Fl × Fl)) (R : Nat → Z2) : Prop where
  cv : ∀ i, i < l.length → CV p (gt l (i : Int)) (R i).1 (R i).2
  b0 : ∀ i, i < l.length → Bn C (R i).1
  b1 : ∀ i, i < l.length → Bn C (R i).2
theorem acc_val {p q : Nat} {C D : Int} {h row : List (Fl × Fl)} {H R : Nat → Z2} (hp : p + q ≤ 800) (hh : LV p C h H) (hr : LV q D row R) (hC : 0 ≤ C) (hD : 0 ≤ D) (hl : h.length ≤ 8) (hCD : C * D ≤ 2251799813685248 / 16) {n : Nat} (hn : n < row.length) :
    ∀ k, k ≤ min h.length (n + 1) → CV (p + q) (acc h row n k) (zs (fun j => cm (H j) (R (n - j))) k).1 (zs (fun j => cm (H j) (R (n - j))) k).2 ∧ Bn ((k : Int) * (2 * (C * D))) (zs (fun j => cm (H j) (R (n - j))) k).1 ∧ Bn ((k : Int) * (2 * (C * D))) (zs (fun j => cm (H j) (R (n - j))) k).2
  | 0, _ => ⟨cv_zero _, by simp only [zs]; unfold Bn; simp, by simp only [zs]; unfold Bn; simp⟩
  | k + 1, hk => by
    obtain ⟨i1, i2, i3⟩ := acc_val hp hh hr hC hD hl hCD hn k (by omega)
    have hCD0 : 0 ≤ C * D := Int.mul_nonneg hC hD
    obtain ⟨m1, m2, m3⟩ := cv_mul hp (hh.cv k (by omega)) (hr.cv (n - k) (by omega)) hC hD (hh.b0 k (by omega)) (hh.b1 k (by omega)) (hr.b0 (n - k) (by omega)) (hr.b1 (n - k) (by omega)) (by omega)
    have hk8 : (k : Int) ≤ 7 := by omega
    have e1 : ((k + 1 : Nat) : Int) * (2 * (C * D)) = (k : Int) * (2 * (C * D)) + 2 * (C * D) := by
      rw [Int.natCast_add, Int.add_mul]; omega
    have hb : (k : Int) * (2 * (C * D)) ≤ 7 * (2 * (C * D)) := Int.mul_le_mul_of_nonneg_right hk8 (by omega)
    simp only [zs, acc]
    generalize zs (fun j => cm (H j) (R (n - j))) k = Z at *
    generalize (k : Int) * (2 * (C * D)) = B at *
    rw [e1]
    unfold Bn at *
    simp only [ca, cm]
    refine ⟨cv_add hp i1 m1 ?_ ?_, ?_, ?_⟩
    · unfold Bn; omega
    · unfold Bn; omega
    · omega
    · omega
theorem flt_val {p q : Nat} {C D : Int} {h row : List (Fl × Fl)} {H R : Nat → Z2} (hp : p + q ≤ 800) (hh : LV p C h H) (hr : LV q D row R) (hC : 0 ≤ C) (hD : 0 ≤ D) (hl : h.length ≤ 8) (hCD : C * D ≤ 2251799813685248 / 16) :
    LV (p + q) (16 * (C * D)) (flt h row) (FF H h.length R) := by
  have key : ∀ n, n < row.length → CV (p + q) (gt (flt h row) (n : Int)) (FF H h.length R n).1 (FF H h.length R n).2 ∧ Bn (16 * (C * D)) (FF H h.length R n).1 ∧ Bn (16 * (C * D)) (FF H h.length R n).2 := by
    intro n hn
    obtain ⟨a1, a2, a3⟩ := acc_val hp hh hr hC hD hl hCD hn (min h.length (n + 1)) (Nat.le_refl _)
    have e : FF H h.length R n = zs (fun j => cm (H j) (R (n - j))) (min h.length (n + 1)) := by
      unfold FF
      rw [zs_cut _ (min h.length (n + 1)) h.length (Nat.min_le_left _ _) (fun i h1 h2 => by unfold rr; rw [if_neg (by omega), cm_zero])]
      apply zs_congr
      intro j hj
      unfold rr
      rw [if_pos (by omega)]
    have hg : gt (flt h row) (n : Int) = acc h row n (min h.length (n + 1)) := by
      rw [gt_nat (by rw [flt_len]; exact hn)]; simp [flt]
    rw [hg, e]
    have hCD0 : 0 ≤ C * D := Int.mul_nonneg hC hD
    have hb : ((min h.length (n + 1) : Nat) : Int) * (2 * (C * D)) ≤ 8 * (2 * (C * D)) := Int.mul_le_mul_of_nonneg_right (by omega) (by omega)
    unfold Bn at *
    exact ⟨a1, by omega, by omega⟩
  exact ⟨fun n hn => (key n (by rw [flt_len] at hn; exact hn)).1, fun n hn => (key n (by rw [flt_len] at hn; exact hn)).2.1, fun n hn => (key n (by rw [flt_len] at hn; exact hn)).2.2⟩
/-! ### numbers -/
def chk (p : Nat) (by2 : Fl) (k : Int) : Bool := match farithS .quo (fofi k) by2 with
  | some (.bits b) => (match Ieee.double.read b with
    | .number s m e => decide (-1074 ≤ e) && (sg s (m * 2 ^ (e + 1074).toNat) == k * ((2 ^ (1074 - p) : Nat) : Int))
    | _ => false)
  | _ => false
theorem chk_val {p : Nat} {by2 : Fl} {k : Int} (h : chk p by2 k = true) : ∃ r, farithS .quo (fofi k) by2 = some r ∧ Val p r k := by
  unfold chk at h
  cases hf : farithS .quo (fofi k) by2 with
  | none => rw [hf] at h; cases h
  | some r =>
    rw [hf] at h
    cases r with
    | nan => cases h
    | bits b =>
      simp only at h
      cases hr : Ieee.double.read b with
      | number s m e =>
        rw [hr] at h
        simp only [Bool.and_eq_true, decide_eq_true_eq, beq_iff_eq] at h
        exact ⟨_, rfl, b, s, m, e, rfl, hr, h.1, h.2⟩
      | infinity s => rw [hr] at h; cases h
      | nan s t => rw [hr] at h; cases h
theorem tab64 : ∀ j : Nat, j < 127 → chk 6 (Fl.bits 4634204016564240384) ((j : Int) - 63) = true := by decide +kernel
theorem tab1 : ∀ j : Nat, j < 127 → chk 0 (Fl.bits 4607182418800017408) ((j : Int) - 63) = true := by decide +kernel
theorem t64 (x : Int) : -63 ≤ x.tmod 64 ∧ x.tmod 64 ≤ 63 := by
  have m1 : x.tmod 64 < 64 := Int.tmod_lt_of_pos x (by decide)
  by_cases h0 : 0 ≤ x
  · have := Int.tmod_nonneg 64 h0; omega
  · have h3 := Int.neg_tmod (a := -x) (b := 64)
    have h4 := Int.tmod_lt_of_pos (-x) (show (0 : Int) < 64 by decide)
    rw [Int.neg_neg] at h3
    omega
def nv (l : List (Int × Int)) (i : Nat) : Z2 := ((gt l (i : Int)).1.tmod 64, (gt l (i : Int)).2.tmod 64)
def qel (by2 : Fl) (l : List (Int × Int)) (j : Nat) : Fl × Fl := ((farithS .quo (fofi ((gt l (j : Int)).1.tmod 64)) by2).getD .nan, (farithS .quo (fofi ((gt l (j : Int)).2.tmod 64)) by2).getD .nan)
theorem numbers_ok {p : Nat} {by2 : Fl} (ht : ∀ j : Nat, j < 127 → chk p by2 ((j : Int) - 63) = true) (l : List (Int × Int)) (most : Nat) (hm : most ≤ 40) :
    ∃ out, f_foghornlaw03_numbers l (most : Int) by2 = some out ∧ out.length = min l.length most ∧ LV p 63 out (nv l) := by
  have hq : ∀ x : Int, ∃ r, farithS .quo (fofi (x.tmod 64)) by2 = some r ∧ Val p r (x.tmod 64) := by
    intro x
    have := t64 x
    have h := ht (x.tmod 64 + 63).toNat (by omega)
    rw [show (((x.tmod 64 + 63).toNat : Nat) : Int) - 63 = x.tmod 64 by omega] at h
    exact chk_val h
  have hL : ∀ i, ((List.range i).map (qel by2 l)).length = i := fun i => by simp
  refine ⟨(List.range (min l.length most)).map (qel by2 l), ?_, hL _, ?_⟩
  · unfold f_foghornlaw03_numbers
    have := loop_for (f := f_foghornlaw03_numbers.s1 l (most : Int) by2) (min l.length most) (fun i => (List.range i).map (qel by2 l)) ((List.range (min l.length most)).map (qel by2 l)) (fun i hi => ?_) ?_
    · rw [show (List.range 0).map (qel by2 l) = [] from rfl] at this
      rw [this]; rfl
    · simp only [f_foghornlaw03_numbers.s1, f_foghornlaw03_numbers.s1c]
      obtain ⟨r1, q1, _⟩ := hq (gt l (i : Int)).1
      obtain ⟨r2, q2, _⟩ := hq (gt l (i : Int)).2
      have qe : qel by2 l i = (r1, r2) := by unfold qel; rw [q1, q2]; rfl
      rw [if_pos (by simp only [Bool.and_eq_true, decide_eq_true_eq]; omega), if_pos (by omega), q1]
      simp only [Option.bind_some]
      rw [if_pos (by omega), q2]
      simp only [Option.bind_some]
      rw [if_pos (by rw [hL]; simp only [List.length_cons, List.length_nil]; omega), w64 (by omega) (by omega), List.range_succ, List.map_append, List.map_cons, List.map_nil, qe]
      rfl
    · simp only [f_foghornlaw03_numbers.s1, f_foghornlaw03_numbers.s1c]
      rw [if_neg (by simp only [Bool.and_eq_true, decide_eq_true_eq]; omega)]
  · have hg : ∀ i, i < min l.length most → gt ((List.range (min l.length most)).map (qel by2 l)) (i : Int) = qel by2 l i := by
      intro i hi
      rw [gt_nat (by rw [hL]; exact hi)]; simp
    refine ⟨fun i hi => ?_, fun i _ => by have := t64 (gt l (i : Int)).1; exact ⟨this.1, this.2⟩, fun i _ => by have := t64 (gt l (i : Int)).2; exact ⟨this.1, this.2⟩⟩
    rw [hL] at hi
    rw [hg i hi]
    obtain ⟨r1, q1, v1⟩ := hq (gt l (i : Int)).1
    obtain ⟨r2, q2, v2⟩ := hq (gt l (i : Int)).2
    have qe : qel by2 l i = (r1, r2) := by unfold qel; rw [q1, q2]; rfl
    rw [qe]
    exact ⟨v1, v2⟩
/-! ### The law -/
theorem lst {σ R : Type} {f : σ → Option (σ ⊕ R)} (n : Nat) (g : Nat → σ) (r : R)
    (h1 : ∀ i : Nat, i < n → f (g i) = some (.inl (g (i + 1)))) (h2 : f (g n) = some (.inr r)) : loop f (g 0) = some r := by
  have : ∀ k i : Nat, i + k = n → loop f (g i) = some r := by
    intro k
    induction k with
    | zero => intro i hi; obtain rfl : i = n := by omega
              exact loop_done h2
    | succ k ih => intro i hi; rw [loop_step (h1 i (by omega))]; exact ih (i + 1) (by omega)
  exact this n 0 (by omega)
theorem pad_ok (r s : List (Fl × Fl)) (hr : r.length ≤ 40) : loop (f_foghornlaw03_PlaneFilters.s1 r) s = some (s ++ List.replicate (r.length - s.length) zc) := by
  have := lst (f := f_foghornlaw03_PlaneFilters.s1 r) (r.length - s.length) (fun i => s ++ List.replicate i zc) (s ++ List.replicate (r.length - s.length) zc) (fun i hi => ?_) ?_
  · rw [show s ++ List.replicate 0 zc = s by simp] at this
    exact this
  · simp only [f_foghornlaw03_PlaneFilters.s1, f_foghornlaw03_PlaneFilters.s1c]
    have hL : (s ++ List.replicate i zc).length = s.length + i := by simp
    rw [if_pos (by rw [decide_eq_true_eq, hL]; omega), if_pos (by rw [hL]; simp only [List.length_cons, List.length_nil]; omega), List.append_assoc, List.replicate_succ']
  · simp only [f_foghornlaw03_PlaneFilters.s1, f_foghornlaw03_PlaneFilters.s1c]
    rw [if_neg (by rw [decide_eq_true_eq, List.length_append, List.length_replicate]; omega)]
def sv (m : Nat) (S : Nat → Z2) (i : Nat) : Z2 := if i < m then S i else (0, 0)
theorem bn_zero {C : Int} (h : 0 ≤ C) : Bn C 0 := ⟨by omega, h⟩
theorem pad_val {r s : List (Fl × Fl)} {S : Nat → Z2} (hs : LV 0 63 s S) :
    ((s ++ List.replicate (r.length - s.length) zc).take r.length).length = r.length ∧ LV 0 63 ((s ++ List.replicate (r.length - s.length) zc).take r.length) (sv s.length S) := by
  have hL : ((s ++ List.replicate (r.length - s.length) zc).take r.length).length = r.length := by
    rw [List.length_take, List.length_append, List.length_replicate]; omega
  refine ⟨hL, fun i hi => ?_, fun i hi => ?_, fun i hi => ?_⟩
  · rw [gt_nat hi, List.getElem_take]
    unfold sv
    by_cases h : i < s.length
    · rw [if_pos h, List.getElem_append_left h]
      have := hs.cv i h
      rwa [gt_nat h] at this
    · rw [if_neg h, List.getElem_append_right (by omega), List.getElem_replicate]
      exact cv_zero 0
  · unfold sv
    by_cases h : i < s.length
    · rw [if_pos h]; exact hs.b0 i h
    · rw [if_neg h]; exact bn_zero (by decide)
  · unfold sv
    by_cases h : i < s.length
    · rw [if_pos h]; exact hs.b1 i h
    · rw [if_neg h]; exact bn_zero (by decide)
theorem map_gt {α : Type} [Inhabited α] (f : Nat → α) {m i : Nat} (h : i < m) : gt ((List.range m).map f) (i : Int) = f i := by
  rw [gt_nat (by simpa using h)]; simp
def belF (r st : List (Fl × Fl)) (j : Nat) : Fl × Fl := cadd (gt r (j : Int)) (gt st (j : Int))
def telF (r : List (Fl × Fl)) (m j : Nat) : Fl × Fl := tn (gt r (j : Int)) m
set_option maxHeartbeats 2000000 in
theorem filters_true (H : List (Int × Int)) (w0 : ∀ x ∈ H, (Lit.int .i8 x.1).wf = true ∧ (Lit.int .i8 x.2).wf = true) (G : List (Int × Int)) (w1 : ∀ x ∈ G, (Lit.int .i8 x.1).wf = true ∧ (Lit.int .i8 x.2).wf = true)
    (Row : List (Int × Int)) (w2 : ∀ x ∈ Row, (Lit.int .i8 x.1).wf = true ∧ (Lit.int .i8 x.2).wf = true) (More : List (Int × Int)) (w3 : ∀ x ∈ More, (Lit.int .i8 x.1).wf = true ∧ (Lit.int .i8 x.2).wf = true)
    (N : Int) (w4 : (Lit.int .i64 N).wf = true) : f_foghornlaw03_PlaneFilters H G Row More N = some true := by
  obtain ⟨u, u1, u2, u3⟩ := numbers_ok tab64 H 8 (by decide)
  obtain ⟨v, v1, v2, v3⟩ := numbers_ok tab64 G 8 (by decide)
  obtain ⟨r, r1, r2, r3⟩ := numbers_ok tab1 Row 40 (by decide)
  obtain ⟨s0, s1, s2, s3⟩ := numbers_ok tab1 More 40 (by decide)
  unfold f_foghornlaw03_PlaneFilters
  rw [show (8 : Int) = ((8 : Nat) : Int) from rfl, show (40 : Int) = ((40 : Nat) : Int) from rfl, u1, v1, r1, s1]
  simp only [Option.bind_some]
  by_cases he : u.length = 0 ∨ v.length = 0
  · rw [if_pos (by simp only [Bool.or_eq_true, beq_iff_eq]; omega), awake_true]; rfl
  rw [if_neg (by simp only [Bool.or_eq_true, beq_iff_eq]; omega), pad_ok r s0 (by omega)]
  obtain ⟨p1, p2⟩ := pad_val (r := r) s3
  generalize hU : nv H = U at *
  generalize hV : nv G = V at *
  generalize hR : nv Row = R at *
  generalize hS : sv s0.length (nv More) = S at *
  simp only [Option.bind_some]
  have hl40 : r.length ≤ 40 := by omega
  rw [if_pos (by rw [List.append_nil, List.length_append, List.length_replicate]; omega)]
  generalize hq31 : s0 ++ List.replicate (r.length - s0.length) zc = q31 at *
  have hst : (q31 ++ ([] : List (Fl × Fl))).take (((r.length : Int)).toNat) = q31.take r.length := by rw [List.append_nil, Int.toNat_natCast]
  -- both, turned
  have l2 : loop (f_foghornlaw03_PlaneFilters.s2 N r q31) ([], [], 0) = some ((List.range r.length).map (belF r (q31.take r.length)), (List.range r.length).map (telF r (N % 4).toNat)) := by
    have := lst (f := f_foghornlaw03_PlaneFilters.s2 N r q31) r.length (fun i => ((List.range i).map (belF r (q31.take r.length)), (List.range i).map (telF r (N % 4).toNat), (i : Int))) ((List.range r.length).map (belF r (q31.take r.length)), (List.range r.length).map (telF r (N % 4).toNat)) (fun i hi => ?_) ?_
    · exact this
    · simp only [f_foghornlaw03_PlaneFilters.s2, f_foghornlaw03_PlaneFilters.s2c, hst, turn_ok, Option.bind_some]
      have hA : ∀ f : Nat → Fl × Fl, ((List.range i).map f).length = i := fun f => by simp
      rw [if_pos (by rw [decide_eq_true_eq]; omega), if_pos (by omega), if_pos (by omega), if_pos (by rw [hA]; simp only [List.length_cons, List.length_nil]; omega), if_pos (by omega), if_pos (by rw [hA]; simp only [List.length_cons, List.length_nil]; omega),
        w64 (by omega) (by omega), List.range_succ, List.map_append, List.map_append]
      rfl
    · simp only [f_foghornlaw03_PlaneFilters.s2, f_foghornlaw03_PlaneFilters.s2c]
      rw [if_neg (by simp)]
  rw [l2]
  generalize hm4 : (N % 4).toNat = m4 at *
  generalize hst2 : q31.take r.length = st at *
  generalize hB : (List.range r.length).map (belF r st) = B at *
  generalize hT : (List.range r.length).map (telF r m4) = T at *
  have lB : B.length = r.length := by rw [← hB]; simp
  have lT : T.length = r.length := by rw [← hT]; simp
  have vB : LV 0 126 B (fun i => ca (R i) (S i)) := by
    refine ⟨fun i hi => ?_, fun i hi => ?_, fun i hi => ?_⟩
    · rw [lB] at hi
      rw [← hB, map_gt _ hi]
      have x0 := r3.b0 i hi; have x1 := r3.b1 i hi; have y0 := p2.b0 i (by omega); have y1 := p2.b1 i (by omega)
      unfold Bn at x0 x1 y0 y1
      exact cv_add (by decide) (r3.cv i hi) (p2.cv i (by omega)) (by unfold Bn; omega) (by unfold Bn; omega)
    · rw [lB] at hi
      have x0 := r3.b0 i hi; have y0 := p2.b0 i (by omega)
      unfold Bn at *
      simp only [ca]; omega
    · rw [lB] at hi
      have x0 := r3.b1 i hi; have y0 := p2.b1 i (by omega)
      unfold Bn at *
      simp only [ca]; omega
  have vT : LV 0 63 T (fun i => ru (R i).1 (R i).2 m4) := by
    refine ⟨fun i hi => ?_, fun i hi => ?_, fun i hi => ?_⟩
    · rw [lT] at hi
      rw [← hT, map_gt _ hi]
      exact cv_tn (r3.cv i hi) m4
    · rw [lT] at hi; exact (ru_bn (r3.b0 i hi) (r3.b1 i hi) m4).1
    · rw [lT] at hi; exact (ru_bn (r3.b0 i hi) (r3.b1 i hi) m4).2
  -- the answers
  have hu : 1 ≤ u.length ∧ u.length ≤ 64 := by omega
  have hv : 1 ≤ v.length ∧ v.length ≤ 64 := by omega
  have fa := flt_val (by decide) u3 r3 (by decide) (by decide) (by omega) (by decide)
  have fb := flt_val (by decide) u3 p2 (by decide) (by decide) (by omega) (by decide)
  have fc := flt_val (by decide) u3 vB (by decide) (by decide) (by omega) (by decide)
  have fd := flt_val (by decide) u3 vT (by decide) (by decide) (by omega) (by decide)
  have fy := flt_val (by decide) v3 r3 (by decide) (by decide) (by omega) (by decide)
  have fe := flt_val (by decide) v3 fa (by decide) (by decide) (by omega) (by decide)
  have fz := flt_val (by decide) u3 fy (by decide) (by decide) (by omega) (by decide)
  have la := flt_len u r
  have lb := flt_len u st
  have lc := flt_len u B
  have ld := flt_len u T
  have ly := flt_len v r
  have le := flt_len v (flt u r)
  have lz := flt_len u (flt v r)
  simp only [Option.bind_some, hst]
  rw [filt_ok u r hu (by omega), filt_ok u st hu (by omega), filt_ok u B hu (by omega), filt_ok u T hu (by omega)]
  simp only [Option.bind_some]
  simp only [la, lb, lc, ld, lB, lT, p1, bne_self_eq_false, Bool.or_self, Bool.false_eq_true, if_false]
  rw [filt_ok v (flt u r) hv (by omega), filt_ok v r hv (by omega)]
  simp only [Option.bind_some]
  rw [filt_ok u (flt v r) hu (by omega)]
  simp only [Option.bind_some]
  simp only [la, ly, le, lz, bne_self_eq_false, Bool.or_self, Bool.false_eq_true, if_false]
  have l3 : loop (f_foghornlaw03_PlaneFilters.s3 N r (flt u r, 0) (flt u st, 0) (flt u B, 0) (flt u T, 0) (flt v (flt u r), 0) (flt u (flt v r), 0)) 0 = some (.inl ()) := by
    refine loop_for1 r.length (Sum.inl ()) (fun i hi => ?_) ?_
    · simp only [f_foghornlaw03_PlaneFilters.s3, f_foghornlaw03_PlaneFilters.s3c, turn_ok, hm4, Option.bind_some]
      have ga := fa.cv i (by omega)
      have gb := fb.cv i (by omega)
      have gc := fc.cv i (by omega)
      have gd := fd.cv i (by omega)
      have ge := fe.cv i (by omega)
      have gz := fz.cv i (by omega)
      rw [FF_add] at gc
      rw [FF_ru] at gd
      rw [FF_comm] at ge
      have a0 := fa.b0 i (by omega); have a1 := fa.b1 i (by omega)
      have b0 := fb.b0 i (by omega); have b1 := fb.b1 i (by omega)
      generalize FF U u.length (FF V v.length R) i = Q at *
      generalize FF U u.length R i = A at *
      generalize FF U u.length S i = A2 at *
      have gs := cv_add (by decide) ga gb (by unfold Bn at *; omega) (by unfold Bn at *; omega)
      have e1 : ceq (gt (flt u B) (i : Int)) (cadd (gt (flt u r) (i : Int)) (gt (flt u st) (i : Int))) = true := cv_eq gc gs (by simp only [ca]) (by simp only [ca])
      have e2 : ceq (gt (flt u T) (i : Int)) (tn (gt (flt u r) (i : Int)) m4) = true := cv_eq gd (cv_tn ga m4) rfl rfl
      have e3 : ceq (gt (flt v (flt u r)) (i : Int)) (gt (flt u (flt v r)) (i : Int)) = true := cv_eq ge gz rfl rfl
      rw [if_pos (by rw [decide_eq_true_eq]; omega), if_pos (by omega), if_pos (by omega), if_pos (by omega), e1, e2, e3]
      have k1 : (0 ≤ (i : Int) ∧ (i : Int) < ((flt u T).length : Int)) = True := by rw [eq_iff_iff, iff_true]; omega
      have k2 : (0 ≤ (i : Int) ∧ (i : Int) < ((flt u r).length : Int)) = True := by rw [eq_iff_iff, iff_true]; omega
      have k3 : (0 ≤ (i : Int) ∧ (i : Int) < ((flt v (flt u r)).length : Int)) = True := by rw [eq_iff_iff, iff_true]; omega
      have k4 : (0 ≤ (i : Int) ∧ (i : Int) < ((flt u (flt v r)).length : Int)) = True := by rw [eq_iff_iff, iff_true]; omega
      simp only [k1, k2, k3, k4, Bool.not_true, Bool.false_eq_true, if_true, if_false, Option.bind_some]
      rw [w64 (by omega) (by omega)]; rfl
    · simp only [f_foghornlaw03_PlaneFilters.s3, f_foghornlaw03_PlaneFilters.s3c]
      rw [if_neg (by simp)]
  rw [l3]
  simp only [Option.bind_some, sm, awake_true]

end Go.Proofs.Yteifkccomfdciaa
