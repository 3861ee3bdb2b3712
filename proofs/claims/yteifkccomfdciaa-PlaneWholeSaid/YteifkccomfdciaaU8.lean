/- The plain law of PlaneWhole. -/
import Derived.Test.YteifkccomfdciaaG8
import Derived.Test.YteifkccomfdciaaGlW
import Derived.Test.YteifkccomfdciaaGlU
set_option linter.unusedVariables false
set_option linter.unusedSimpArgs false
set_option maxRecDepth 8000
set_option exponentiation.threshold 3000
namespace Go.Proofs.Yteifkccomfdciaa
open GL Go

theorem awake_true : f_foghornlaw03_awake = some true := by
  have h1 : loop (f_plane_Gauss_Class.s1 3) (3, 2, 0, 0) = some 1 := loop_iff.2 ⟨4, by decide +kernel⟩
  have h2 : f_plane_Gauss_Class 3 2 3 = some (1, 0) := by
    unfold f_plane_Gauss_Class
    rw [h1]; rfl
  have h3 : f_plane_Mul (Fl.bits 4607182418800017408, Fl.bits 4611686018427387904) (Fl.bits 4613937818241073152, Fl.bits 13830554455654793216) = some (Fl.bits 4617315517961601024, Fl.bits 4617315517961601024) := by decide +kernel
  have h4 : f_plane_Turn (Fl.bits 4607182418800017408, Fl.bits 4611686018427387904) 1 = some (Fl.bits 13835058055282163712, Fl.bits 4607182418800017408) := by decide +kernel
  unfold f_foghornlaw03_awake
  rw [h2, h3, h4]
  decide +kernel
/-! ### Whole numbers of the plane -/
theorem wf_i16 {x : Int} (h : (Lit.int .i16 x).wf = true) : -32768 ≤ x ∧ x < 32768 := by
  simp [Lit.wf, IntKind.min, IntKind.max, IntKind.bits, IntKind.signed] at h
  omega
def Bd (x : Int) : Prop := -1073741824 ≤ x ∧ x ≤ 1073741824
theorem Bd.sq {x : Int} (h : Bd x) : 0 ≤ x * x ∧ x * x ≤ 1152921504606846976 := by
  obtain ⟨h1, h2⟩ := h
  have h3 : 0 ≤ (1073741824 - x) * (1073741824 + x) := Int.mul_nonneg (by omega) (by omega)
  have h4 : (1073741824 - x) * (1073741824 + x) = 1152921504606846976 - x * x := by grind
  have h5 : 0 ≤ x * x := by
    by_cases h0 : 0 ≤ x
    · exact Int.mul_nonneg h0 h0
    · exact Int.mul_nonneg_of_nonpos_of_nonpos (by omega) (by omega)
  omega
theorem sq_nn (x : Int) : 0 ≤ x * x := by
  by_cases h0 : 0 ≤ x
  · exact Int.mul_nonneg h0 h0
  · exact Int.mul_nonneg_of_nonpos_of_nonpos (by omega) (by omega)
theorem sq_ge (x : Int) : x ≤ x * x ∧ -x ≤ x * x := by
  by_cases h0 : x = 0
  · subst h0; decide
  · by_cases hp : 0 < x
    · have : 0 ≤ x * (x - 1) := Int.mul_nonneg (by omega) (by omega)
      have e : x * (x - 1) = x * x - x := by grind
      omega
    · have : 0 ≤ (-x) * (-x - 1) := Int.mul_nonneg (by omega) (by omega)
      have e : (-x) * (-x - 1) = x * x + x := by grind
      omega
/-- a product against a square -/
theorem mul_bd {g o C : Int} (hC : 0 ≤ C) (h : -C ≤ g ∧ g ≤ C) : g * o ≤ C * (o * o) ∧ -(C * (o * o)) ≤ g * o := by
  have s1 : 0 ≤ C * (o * o - o) := Int.mul_nonneg hC (by have := sq_ge o; omega)
  have s2 : 0 ≤ C * (o * o + o) := Int.mul_nonneg hC (by have := sq_ge o; omega)
  have e1 : C * (o * o - o) = C * (o * o) - C * o := by grind
  have e2 : C * (o * o + o) = C * (o * o) + C * o := by grind
  by_cases ho : 0 ≤ o
  · have m1 : 0 ≤ (C - g) * o := Int.mul_nonneg (by omega) ho
    have m2 : 0 ≤ (C + g) * o := Int.mul_nonneg (by omega) ho
    have e3 : (C - g) * o = C * o - g * o := by grind
    have e4 : (C + g) * o = C * o + g * o := by grind
    omega
  · have m1 : 0 ≤ (C - g) * (-o) := Int.mul_nonneg (by omega) (by omega)
    have m2 : 0 ≤ (C + g) * (-o) := Int.mul_nonneg (by omega) (by omega)
    have e3 : (C - g) * (-o) = g * o - C * o := by grind
    have e4 : (C + g) * (-o) = - (C * o) - g * o := by grind
    omega
theorem mul_bd2 {g o C D : Int} (hC : 0 ≤ C) (hD : 0 ≤ D) (h : -C ≤ g ∧ g ≤ C) (k : -D ≤ o ∧ o ≤ D) : g * o ≤ C * D ∧ -(C * D) ≤ g * o := by
  have a1 : 0 ≤ (C - g) * (D + o) := Int.mul_nonneg (by omega) (by omega)
  have a2 : 0 ≤ (C + g) * (D - o) := Int.mul_nonneg (by omega) (by omega)
  have a3 : 0 ≤ (C - g) * (D - o) := Int.mul_nonneg (by omega) (by omega)
  have a4 : 0 ≤ (C + g) * (D + o) := Int.mul_nonneg (by omega) (by omega)
  have e1 : (C - g) * (D + o) = C * D + C * o - g * D - g * o := by grind
  have e2 : (C + g) * (D - o) = C * D - C * o + g * D - g * o := by grind
  have e3 : (C - g) * (D - o) = C * D - C * o - g * D + g * o := by grind
  have e4 : (C + g) * (D + o) = C * D + C * o + g * D + g * o := by grind
  omega
theorem may_ok {x y : Int} (hx : -1073741824 ≤ x ∧ x ≤ 1073741824) (hy : -1073741824 ≤ y ∧ y ≤ 1073741824) : f_plane_Gauss_may x y = some true := by
  unfold f_plane_Gauss_may
  congr 1
  simp only [Bool.and_eq_true, decide_eq_true_eq]
  omega
theorem Bd.may {x y : Int} (hx : Bd x) (hy : Bd y) : f_plane_Gauss_may x y = some true := may_ok (by unfold Bd at hx; omega) (by unfold Bd at hy; omega)
theorem times_ok {a b c d C D : Int} (hC : 0 ≤ C) (hD : 0 ≤ D) (ha : -C ≤ a ∧ a ≤ C) (hb : -C ≤ b ∧ b ≤ C) (hc : -D ≤ c ∧ c ≤ D) (hd : -D ≤ d ∧ d ≤ D) (hCD : C * D ≤ 4611686018427387903) :
    f_plane_Gauss_times a b c d = some (a * c - b * d, a * d + b * c) := by
  unfold f_plane_Gauss_times
  have h1 := mul_bd2 hC hD ha hc
  have h2 := mul_bd2 hC hD hb hd
  have h3 := mul_bd2 hC hD ha hd
  have h4 := mul_bd2 hC hD hb hc
  rw [w64 (x := a * c) (by omega) (by omega), w64 (x := b * d) (by omega) (by omega), w64 (x := a * d) (by omega) (by omega), w64 (x := b * c) (by omega) (by omega), w64 (by omega) (by omega), w64 (by omega) (by omega)]
theorem norm_ok {x y : Int} (hx : Bd x) (hy : Bd y) : f_plane_Gauss_norm x y = some (x * x + y * y) := by
  have := hx.sq; have := hy.sq
  unfold f_plane_Gauss_norm
  rw [w64 (x := x * x) (by omega) (by omega), w64 (x := y * y) (by omega) (by omega), w64 (by omega) (by omega)]
theorem nearest_ok {n d : Int} (hd : 0 < d) (hd2 : d ≤ 2305843009213693952) (hn : -4611686018427387904 ≤ n ∧ n ≤ 4611686018427387904) :
    ∃ q, f_plane_nearest n d = some q ∧ 2 * (n - q * d) ≤ d ∧ -d ≤ 2 * (n - q * d) := by
  unfold f_plane_nearest
  have e := Int.tmod_add_mul_tdiv n d
  have m1 : n.tmod d < d := Int.tmod_lt_of_pos n hd
  have m2 : -d < n.tmod d := by
    by_cases h0 : 0 ≤ n
    · have := Int.tmod_nonneg d h0; omega
    · have h3 := Int.neg_tmod (a := -n) (b := d)
      have h4 := Int.tmod_lt_of_pos (-n) hd
      rw [Int.neg_neg] at h3
      omega
  generalize n.tmod d = m at *
  generalize n.tdiv d = t at *
  have tb : -7000000000000000000 ≤ t ∧ t ≤ 7000000000000000000 := by
    by_cases h0 : 0 ≤ t
    · have : 0 ≤ (d - 1) * t := Int.mul_nonneg (by omega) h0
      have e2 : (d - 1) * t = d * t - t := by grind
      omega
    · have : 0 ≤ (d - 1) * (-t) := Int.mul_nonneg (by omega) (by omega)
      have e2 : (d - 1) * (-t) = t - d * t := by grind
      omega
  have key : ∀ u r : Int, n = r + d * u → 0 ≤ r → r < d → -7000000000000000001 ≤ u ∧ u ≤ 7000000000000000000 → ∃ q, f_plane_nearest.j1 d u r = some q ∧ 2 * (n - q * d) ≤ d ∧ -d ≤ 2 * (n - q * d) := by
    intro u r hu h0 h1 hb
    unfold f_plane_nearest.j1
    rw [w64 (x := d - r) (by omega) (by omega)]
    by_cases hc : d - r < r
    · rw [if_pos (by rw [decide_eq_true_eq]; exact hc), w64 (by omega) (by omega)]
      have e3 : (u + 1) * d = d * u + d := by grind
      exact ⟨_, rfl, by omega, by omega⟩
    · rw [if_neg (by rw [decide_eq_true_eq]; exact hc)]
      have e3 : u * d = d * u := Int.mul_comm ..
      exact ⟨_, rfl, by omega, by omega⟩
  rw [if_pos (by omega), if_pos (by omega), w64 (x := t) (by omega) (by omega)]
  by_cases hm : m < 0
  · rw [if_pos (by rw [decide_eq_true_eq]; exact hm), w64 (x := t - 1) (by omega) (by omega), w64 (x := m + d) (by omega) (by omega)]
    exact key _ _ (by have : d * (t - 1) = d * t - d := by grind
                      omega) (by omega) (by omega) (by omega)
  · rw [if_neg (by rw [decide_eq_true_eq]; exact hm)]
    exact key _ _ (by omega) (by omega) m1 (by omega)
/-- what 'by' answers -/
structure Divd (g0 g1 o0 o1 q0 q1 : Int) : Prop where
  c0 : 2 * (g0 * o0 + g1 * o1 - q0 * (o0 * o0 + o1 * o1)) ≤ o0 * o0 + o1 * o1 ∧ -(o0 * o0 + o1 * o1) ≤ 2 * (g0 * o0 + g1 * o1 - q0 * (o0 * o0 + o1 * o1))
  c1 : 2 * (g1 * o0 - g0 * o1 - q1 * (o0 * o0 + o1 * o1)) ≤ o0 * o0 + o1 * o1 ∧ -(o0 * o0 + o1 * o1) ≤ 2 * (g1 * o0 - g0 * o1 - q1 * (o0 * o0 + o1 * o1))
theorem q_bd {t q N : Int} (hN : 0 < N) (ht : t ≤ 2147483648 * N ∧ -(2147483648 * N) ≤ t) (h : 2 * (t - q * N) ≤ N ∧ -N ≤ 2 * (t - q * N)) : -2147483648 ≤ q ∧ q ≤ 2147483648 := by
  constructor
  · apply Int.not_lt.mp
    intro hc
    have : 0 ≤ (-2147483649 - q) * N := Int.mul_nonneg (by omega) (by omega)
    have e : (-2147483649 - q) * N = -2147483649 * N - q * N := by grind
    omega
  · apply Int.not_lt.mp
    intro hc
    have : 0 ≤ (q - 2147483649) * N := Int.mul_nonneg (by omega) (by omega)
    have e : (q - 2147483649) * N = q * N - 2147483649 * N := by grind
    omega
theorem n_pos {x y : Int} (h : ¬ (x = 0 ∧ y = 0)) : 0 < x * x + y * y := by
  have s1 := sq_ge x; have s2 := sq_ge y
  have := sq_nn x; have := sq_nn y
  omega
theorem by_ok {g0 g1 o0 o1 : Int} (h0 : Bd g0) (h1 : Bd g1) (h2 : Bd o0) (h3 : Bd o1) (ho : ¬ (o0 = 0 ∧ o1 = 0)) :
    ∃ q0 q1, f_plane_Gauss_by g0 g1 o0 o1 = some ((q0, q1), (g0 - (q0 * o0 - q1 * o1), g1 - (q0 * o1 + q1 * o0))) ∧ Divd g0 g1 o0 o1 q0 q1 ∧ (-2147483648 ≤ q0 ∧ q0 ≤ 2147483648) ∧ (-2147483648 ≤ q1 ∧ q1 ≤ 2147483648) := by
  have hN := n_pos ho
  have s2 := h2.sq; have s3 := h3.sq
  have p0 := mul_bd (g := g0) (o := o0) (C := 1073741824) (by decide) h0
  have p1 := mul_bd (g := g1) (o := o1) (C := 1073741824) (by decide) h1
  have p2 := mul_bd (g := g1) (o := o0) (C := 1073741824) (by decide) h1
  have p3 := mul_bd (g := g0) (o := o1) (C := 1073741824) (by decide) h0
  have r0 := mul_bd2 (g := g0) (o := o0) (C := 1073741824) (D := 1073741824) (by decide) (by decide) h0 h2
  have r1 := mul_bd2 (g := g1) (o := o1) (C := 1073741824) (D := 1073741824) (by decide) (by decide) h1 h3
  have r2 := mul_bd2 (g := g1) (o := o0) (C := 1073741824) (D := 1073741824) (by decide) (by decide) h1 h2
  have r3 := mul_bd2 (g := g0) (o := o1) (C := 1073741824) (D := 1073741824) (by decide) (by decide) h0 h3
  have b2 := h2; have b3 := h3
  unfold Bd at b2 b3
  obtain ⟨q0, a1, a2, a3⟩ := nearest_ok (n := g0 * o0 + g1 * o1) hN (by omega) (by omega)
  obtain ⟨q1, a4, a5, a6⟩ := nearest_ok (n := g1 * o0 - g0 * o1) hN (by omega) (by omega)
  have x0 := q_bd hN (by omega) ⟨a2, a3⟩
  have x1 := q_bd hN (by omega) ⟨a5, a6⟩
  refine ⟨q0, q1, ?_, ⟨⟨a2, a3⟩, ⟨a5, a6⟩⟩, x0, x1⟩
  unfold f_plane_Gauss_by
  rw [w64 (x := 0 - o1) (by omega) (by omega), times_ok (C := 1073741824) (D := 1073741824) (by decide) (by decide) h0 h1 h2 (by omega) (by decide)]
  simp only [Option.bind_some]
  rw [norm_ok h2 h3]
  simp only [Option.bind_some]
  have e1 : g0 * o0 - g1 * (0 - o1) = g0 * o0 + g1 * o1 := by grind
  have e2 : g0 * (0 - o1) + g1 * o0 = g1 * o0 - g0 * o1 := by grind
  rw [e1, e2, a1, a4]
  simp only [Option.bind_some]
  rw [times_ok (C := 2147483648) (D := 1073741824) (by decide) (by decide) x0 x1 h2 h3 (by decide)]
  simp only [Option.bind_some]
  have y0 := mul_bd2 (g := q0) (o := o0) (C := 2147483648) (D := 1073741824) (by decide) (by decide) x0 h2
  have y1 := mul_bd2 (g := q1) (o := o1) (C := 2147483648) (D := 1073741824) (by decide) (by decide) x1 h3
  have y2 := mul_bd2 (g := q0) (o := o1) (C := 2147483648) (D := 1073741824) (by decide) (by decide) x0 h3
  have y3 := mul_bd2 (g := q1) (o := o0) (C := 2147483648) (D := 1073741824) (by decide) (by decide) x1 h2
  unfold Bd at h0 h1
  rw [w64 (x := g0 - (q0 * o0 - q1 * o1)) (by omega) (by omega), w64 (x := g1 - (q0 * o1 + q1 * o0)) (by omega) (by omega)]
theorem four_sq {a N : Int} (h : 2 * a ≤ N ∧ -N ≤ 2 * a) : 4 * (a * a) ≤ N * N := by
  have h3 : 0 ≤ (N - 2 * a) * (N + 2 * a) := Int.mul_nonneg (by omega) (by omega)
  have e : (N - 2 * a) * (N + 2 * a) = N * N - 4 * (a * a) := by grind
  omega
theorem rest_id (g0 g1 o0 o1 q0 q1 : Int) : ((g0 - (q0*o0 - q1*o1)) * (g0 - (q0*o0 - q1*o1)) + (g1 - (q0*o1 + q1*o0)) * (g1 - (q0*o1 + q1*o0))) * (o0*o0+o1*o1) = (g0*o0+g1*o1 - q0*(o0*o0+o1*o1)) * (g0*o0+g1*o1 - q0*(o0*o0+o1*o1)) + (g1*o0 - g0*o1 - q1*(o0*o0+o1*o1)) * (g1*o0 - g0*o1 - q1*(o0*o0+o1*o1)) := by grind
theorem rest_small {g0 g1 o0 o1 q0 q1 : Int} (ho : ¬ (o0 = 0 ∧ o1 = 0)) (h : Divd g0 g1 o0 o1 q0 q1) :
    2 * ((g0 - (q0*o0 - q1*o1)) * (g0 - (q0*o0 - q1*o1)) + (g1 - (q0*o1 + q1*o0)) * (g1 - (q0*o1 + q1*o0))) ≤ o0*o0+o1*o1 := by
  have hN := n_pos ho
  have e := rest_id g0 g1 o0 o1 q0 q1
  have f0 := four_sq h.c0
  have f1 := four_sq h.c1
  generalize (g0 - (q0*o0 - q1*o1)) * (g0 - (q0*o0 - q1*o1)) + (g1 - (q0*o1 + q1*o0)) * (g1 - (q0*o1 + q1*o0)) = R at *
  generalize (g0*o0+g1*o1 - q0*(o0*o0+o1*o1)) * (g0*o0+g1*o1 - q0*(o0*o0+o1*o1)) = X at *
  generalize (g1*o0 - g0*o1 - q1*(o0*o0+o1*o1)) * (g1*o0 - g0*o1 - q1*(o0*o0+o1*o1)) = Y at *
  generalize o0*o0+o1*o1 = M at *
  have : (2 * R) * M ≤ M * M := by
    have e2 : (2 * R) * M = 2 * (R * M) := Int.mul_assoc ..
    omega
  exact Int.le_of_mul_le_mul_right this hN
/-- 'd' divides 'x' -/
def Dv (d0 d1 x0 x1 : Int) : Prop := ∃ a b, x0 = a * d0 - b * d1 ∧ x1 = a * d1 + b * d0
theorem Dv.self (d0 d1 : Int) : Dv d0 d1 d0 d1 := ⟨1, 0, by grind, by grind⟩
theorem Dv.zero (d0 d1 : Int) : Dv d0 d1 0 0 := ⟨0, 0, by grind, by grind⟩
theorem Dv.sub {d0 d1 g0 g1 o0 o1 : Int} (h : Dv d0 d1 g0 g1) (k : Dv d0 d1 o0 o1) (q0 q1 : Int) : Dv d0 d1 (g0 - (q0 * o0 - q1 * o1)) (g1 - (q0 * o1 + q1 * o0)) := by
  obtain ⟨a, b, rfl, rfl⟩ := h
  obtain ⟨c, d, rfl, rfl⟩ := k
  exact ⟨a - (q0 * c - q1 * d), b - (q0 * d + q1 * c), by grind, by grind⟩
theorem Dv.unsub {d0 d1 g0 g1 o0 o1 q0 q1 : Int} (h : Dv d0 d1 (g0 - (q0 * o0 - q1 * o1)) (g1 - (q0 * o1 + q1 * o0))) (k : Dv d0 d1 o0 o1) : Dv d0 d1 g0 g1 := by
  have := h.sub k (-q0) (-q1)
  rwa [show g0 - (q0 * o0 - q1 * o1) - (-q0 * o0 - -q1 * o1) = g0 by grind, show g1 - (q0 * o1 + q1 * o0) - (-q0 * o1 + -q1 * o0) = g1 by grind] at this
theorem Dv.rot {d0 d1 x y : Int} (h : Dv d0 d1 x y) : Dv d0 d1 (-y) x := by
  obtain ⟨a, b, rfl, rfl⟩ := h
  exact ⟨-b, a, by grind, by grind⟩
theorem sq_zero {x : Int} (h : x * x ≤ 0) : x = 0 := by
  have := sq_ge x; omega
/-- exact division leaves nothing -/
theorem rest_none {g0 g1 o0 o1 q0 q1 : Int} (ho : ¬ (o0 = 0 ∧ o1 = 0)) (h : Divd g0 g1 o0 o1 q0 q1) (hd : Dv o0 o1 g0 g1) :
    g0 - (q0*o0 - q1*o1) = 0 ∧ g1 - (q0*o1 + q1*o0) = 0 := by
  have hN := n_pos ho
  obtain ⟨a, b, ha, hb⟩ := hd
  have e := rest_id g0 g1 o0 o1 q0 q1
  have z : ∀ c q t : Int, t = c * (o0*o0+o1*o1) → (2 * (t - q * (o0*o0+o1*o1)) ≤ o0*o0+o1*o1 ∧ -(o0*o0+o1*o1) ≤ 2 * (t - q * (o0*o0+o1*o1))) → t - q * (o0*o0+o1*o1) = 0 := by
    intro c q t ht hc
    generalize o0*o0+o1*o1 = M at *
    subst ht
    have e1 : c * M - q * M = (c - q) * M := by grind
    rw [e1] at hc ⊢
    by_cases hz : c - q = 0
    · rw [hz]; exact Int.zero_mul _
    · exfalso
      by_cases hp : 0 < c - q
      · have : 0 ≤ (c - q - 1) * M := Int.mul_nonneg (by omega) (by omega)
        have e2 : (c - q - 1) * M = (c - q) * M - M := by grind
        omega
      · have : 0 ≤ (-(c - q) - 1) * M := Int.mul_nonneg (by omega) (by omega)
        have e2 : (-(c - q) - 1) * M = -((c - q) * M) - M := by grind
        omega
  have z0 := z a q0 (g0*o0+g1*o1) (by rw [ha, hb]; grind) h.c0
  have z1 := z b q1 (g1*o0-g0*o1) (by rw [ha, hb]; grind) h.c1
  rw [z0, z1] at e
  have s0 := sq_nn (g0 - (q0*o0 - q1*o1))
  have s1 := sq_nn (g1 - (q0*o1 + q1*o0))
  have hz : (g0 - (q0*o0 - q1*o1)) * (g0 - (q0*o0 - q1*o1)) + (g1 - (q0*o1 + q1*o0)) * (g1 - (q0*o1 + q1*o0)) ≤ 0 := by
    apply Int.le_of_mul_le_mul_right (a := o0*o0+o1*o1) _ hN
    rw [e]; simp
  exact ⟨sq_zero (by omega), sq_zero (by omega)⟩
theorem sq_le {x : Int} (h : x * x ≤ 1152921504606846976) : Bd x := by
  have c1 : -1073741824 ≤ x := by
    apply Int.not_lt.mp
    intro hc
    have : 0 ≤ (-1073741825 - x) * (-x) := Int.mul_nonneg (by omega) (by omega)
    have e : (-1073741825 - x) * (-x) = 1073741825 * x + x * x := by grind
    omega
  have c2 : x ≤ 1073741824 := by
    apply Int.not_lt.mp
    intro hc
    have : 0 ≤ (x - 1073741825) * x := Int.mul_nonneg (by omega) (by omega)
    have e : (x - 1073741825) * x = x * x - 1073741825 * x := by grind
    omega
  exact ⟨c1, c2⟩
/-! ### Gcd -/
def Cm (a0 a1 b0 b1 c0 c1 d0 d1 : Int) : Prop := ∀ x y, (Dv x y a0 a1 ∧ Dv x y b0 b1) ↔ (Dv x y c0 c1 ∧ Dv x y d0 d1)
theorem gcd_loop : ∀ (M : Nat) (a0 a1 b0 b1 : Int), (b0 * b0 + b1 * b1).toNat < M → Bd a0 → Bd a1 → Bd b0 → Bd b1 →
    ∃ k0 k1, loop f_plane_Gcd.s1 (a0, a1, b0, b1) = some (k0, k1) ∧ Bd k0 ∧ Bd k1 ∧ Cm a0 a1 b0 b1 k0 k1 0 0 := by
  intro M
  induction M with
  | zero => intro a0 a1 b0 b1 h; omega
  | succ M ih =>
    intro a0 a1 b0 b1 hM h0 h1 h2 h3
    by_cases hz : b0 = 0 ∧ b1 = 0
    · obtain ⟨rfl, rfl⟩ := hz
      refine ⟨a0, a1, loop_done ?_, h0, h1, fun x y => Iff.rfl⟩
      simp only [f_plane_Gcd.s1, f_plane_Gcd.s1c]
      rw [if_pos (by decide)]
    · obtain ⟨q0, q1, e1, e2, e3, e4⟩ := by_ok h0 h1 h2 h3 hz
      have rs := rest_small hz e2
      have hN := n_pos hz
      have t0 := h2.sq; have t1 := h3.sq
      have s0 := sq_nn (a0 - (q0*b0 - q1*b1))
      have s1 := sq_nn (a1 - (q0*b1 + q1*b0))
      obtain ⟨k0, k1, f1, f2, f3, f4⟩ := ih b0 b1 (a0 - (q0*b0 - q1*b1)) (a1 - (q0*b1 + q1*b0)) (by omega) h2 h3 (sq_le (by omega)) (sq_le (by omega))
      refine ⟨k0, k1, (loop_step ?_).trans f1, f2, f3, fun x y => ?_⟩
      · simp only [f_plane_Gcd.s1, f_plane_Gcd.s1c]
        rw [if_neg (by simp only [Bool.and_true, Bool.and_eq_true, beq_iff_eq]; exact hz), e1]; rfl
      · rw [← f4 x y]
        constructor
        · rintro ⟨u, v⟩
          exact ⟨v, u.sub v q0 q1⟩
        · rintro ⟨u, v⟩
          exact ⟨v.unsub u, u⟩
def Qd (x y : Int) : Prop := (x = 0 ∧ y = 0) ∨ (0 < x ∧ 0 ≤ y)
theorem rot_done {x y : Int} (h : Qd x y) : loop f_plane_Gcd.s2 (x, y) = some (x, y) := by
  apply loop_done
  simp only [f_plane_Gcd.s2, f_plane_Gcd.s2c]
  rw [if_neg (by
    unfold Qd at h
    simp only [Bool.and_true, Bool.and_eq_true, Bool.not_eq_true', Bool.and_eq_false_iff, beq_eq_false_iff_ne, decide_eq_false_iff_not, ne_eq]
    omega)]
theorem rot_step {x y : Int} (hy : Bd y) (h : ¬ Qd x y) : loop f_plane_Gcd.s2 (x, y) = loop f_plane_Gcd.s2 (-y, x) := by
  apply loop_step
  simp only [f_plane_Gcd.s2, f_plane_Gcd.s2c]
  unfold Bd at hy
  rw [if_pos (by
    unfold Qd at h
    simp only [Bool.and_true, Bool.and_eq_true, Bool.not_eq_true', Bool.and_eq_false_iff, beq_eq_false_iff_ne, decide_eq_false_iff_not, ne_eq]
    omega), w64 (by omega) (by omega), Int.zero_sub]
structure Rt (x y u v : Int) : Prop where
  b0 : Bd u
  b1 : Bd v
  to : ∀ c d, Dv c d x y ↔ Dv c d u v
theorem Dv.rot_iff {c d x y : Int} : Dv c d x y ↔ Dv c d (-y) x := by
  constructor
  · exact Dv.rot
  · intro h
    have := h.rot.rot.rot
    rwa [Int.neg_neg, Int.neg_neg] at this
theorem Bd.neg {x : Int} (h : Bd x) : Bd (-x) := by unfold Bd at *; omega
theorem rot_ok {x y : Int} (hx : Bd x) (hy : Bd y) : ∃ u v, loop f_plane_Gcd.s2 (x, y) = some (u, v) ∧ Qd u v ∧ Rt x y u v := by
  by_cases c0 : Qd x y
  · exact ⟨x, y, rot_done c0, c0, hx, hy, fun c d => Iff.rfl⟩
  rw [rot_step hy c0]
  by_cases c1 : Qd (-y) x
  · exact ⟨_, _, rot_done c1, c1, hy.neg, hx, fun c d => Dv.rot_iff⟩
  rw [rot_step hx c1]
  by_cases c2 : Qd (-x) (-y)
  · exact ⟨_, _, rot_done c2, c2, hx.neg, hy.neg, fun c d => Dv.rot_iff.trans Dv.rot_iff⟩
  rw [rot_step hy.neg c2, Int.neg_neg]
  have c3 : Qd y (-x) := by unfold Qd at *; omega
  refine ⟨_, _, rot_done c3, c3, hy, hx.neg, fun c d => ?_⟩
  have := (Dv.rot_iff (c := c) (d := d) (x := x) (y := y)).trans (Dv.rot_iff.trans Dv.rot_iff)
  rwa [Int.neg_neg] at this
theorem gcd_ok {a0 a1 b0 b1 : Int} (h0 : Bd a0) (h1 : Bd a1) (h2 : Bd b0) (h3 : Bd b1) :
    ∃ k0 k1, f_plane_Gcd a0 a1 b0 b1 = some ((k0, k1), 0) ∧ Bd k0 ∧ Bd k1 ∧ Qd k0 k1 ∧ ∀ x y, (Dv x y a0 a1 ∧ Dv x y b0 b1) ↔ Dv x y k0 k1 := by
  obtain ⟨k0, k1, e1, e2, e3, e4⟩ := gcd_loop _ a0 a1 b0 b1 (Nat.lt_succ_self _) h0 h1 h2 h3
  obtain ⟨u, v, f1, f2, f3⟩ := rot_ok e2 e3
  refine ⟨u, v, ?_, f3.b0, f3.b1, f2, fun x y => ?_⟩
  · unfold f_plane_Gcd
    rw [h0.may h1, h2.may h3]
    simp only [Option.bind_some, Bool.not_true, Bool.false_eq_true, if_false]
    rw [e1]
    simp only [Option.bind_some]
    rw [f1]
    rfl
  · rw [e4 x y, ← f3.to x y]
    exact ⟨fun h => h.1, fun h => ⟨h, Dv.zero x y⟩⟩
theorem By_ok {g0 g1 o0 o1 : Int} (h0 : Bd g0) (h1 : Bd g1) (h2 : Bd o0) (h3 : Bd o1) :
    (o0 = 0 ∧ o1 = 0 ∧ f_plane_Gauss_By g0 g1 o0 o1 = some ((0, 0), (0, 0), 6)) ∨ (¬ (o0 = 0 ∧ o1 = 0) ∧ ∃ q0 q1, f_plane_Gauss_By g0 g1 o0 o1 = some ((q0, q1), (g0 - (q0 * o0 - q1 * o1), g1 - (q0 * o1 + q1 * o0)), 0) ∧ Divd g0 g1 o0 o1 q0 q1 ∧ (-2147483648 ≤ q0 ∧ q0 ≤ 2147483648) ∧ (-2147483648 ≤ q1 ∧ q1 ≤ 2147483648)) := by
  unfold f_plane_Gauss_By
  rw [h0.may h1, h2.may h3]
  simp only [Option.bind_some, Bool.not_true, Bool.false_eq_true, if_false]
  by_cases hz : o0 = 0 ∧ o1 = 0
  · left
    obtain ⟨rfl, rfl⟩ := hz
    exact ⟨rfl, rfl, by rw [if_pos (by decide)]⟩
  · right
    obtain ⟨q0, q1, e1, e2, e3, e4⟩ := by_ok h0 h1 h2 h3 hz
    refine ⟨hz, q0, q1, ?_, e2, e3, e4⟩
    rw [if_neg (by simp only [Bool.and_true, Bool.and_eq_true, beq_iff_eq]; exact hz), e1]; rfl
theorem Times_ok {a b c d C D : Int} (hC : 0 ≤ C) (hD : 0 ≤ D) (hC2 : C ≤ 1073741824) (hD2 : D ≤ 1073741824) (ha : -C ≤ a ∧ a ≤ C) (hb : -C ≤ b ∧ b ≤ C) (hc : -D ≤ c ∧ c ≤ D) (hd : -D ≤ d ∧ d ≤ D) (hCD : C * D ≤ 4611686018427387903) :
    f_plane_Gauss_Times a b c d = some ((a * c - b * d, a * d + b * c), 0) := by
  unfold f_plane_Gauss_Times
  rw [may_ok (by omega) (by omega), may_ok (by omega) (by omega)]
  simp only [Option.bind_some, Bool.not_true, Bool.false_eq_true, if_false]
  rw [times_ok hC hD ha hb hc hd hCD]; rfl
/-! ### Classes -/
theorem iand1 (n : Int) : iand .i64 n 1 = n % 2 := by
  have h3 : (BitVec.ofInt IntKind.i64.bits n &&& BitVec.ofInt IntKind.i64.bits 1).toNat = (n % 2).toNat := by
    rw [BitVec.toNat_and]
    show (BitVec.ofInt 64 n).toNat &&& (BitVec.ofInt 64 1).toNat = _
    have e3 : (BitVec.ofInt 64 1).toNat = 2 ^ 1 - 1 := by decide
    rw [e3, Nat.and_two_pow_sub_one_eq_mod, BitVec.toNat_ofInt]
    omega
  unfold iand
  rw [h3, w64 (by omega) (by omega)]; omega
def bt (g : Int × Int) : Int := (g.1 + g.2) % 2
def hf (g : Int × Int) : Int × Int := ((g.1 - bt g + g.2) / 2, (g.2 - (g.1 - bt g)) / 2)
theorem bt_b (g : Int × Int) : 0 ≤ bt g ∧ bt g < 2 := by unfold bt; omega
theorem hf_eq (g : Int × Int) : g.1 = bt g + ((hf g).1 - (hf g).2) ∧ g.2 = (hf g).1 + (hf g).2 := by
  unfold hf bt
  simp only
  omega
def B2 (g : Int × Int) : Prop := Bd g.1 ∧ Bd g.2
theorem hf_bd {g : Int × Int} (h : B2 g) : B2 (hf g) := by
  have e := hf_eq g
  have b := bt_b g
  unfold B2 Bd at *
  omega
theorem half_ok {g : Int × Int} (h : B2 g) : f_plane_Gauss_half g.1 g.2 = some (hf g, bt g) := by
  have b := bt_b g
  have e := hf_eq g
  unfold B2 Bd at h
  unfold f_plane_Gauss_half
  rw [w64 (x := g.1 + g.2) (by omega) (by omega), iand1, show (g.1 + g.2) % 2 = bt g from rfl, w64 (x := g.1 - bt g) (by omega) (by omega), w64 (x := g.1 - bt g + g.2) (by omega) (by omega), w64 (x := g.2 - (g.1 - bt g)) (by omega) (by omega)]
  rw [show g.1 - bt g + g.2 = 2 * (hf g).1 by omega, show g.2 - (g.1 - bt g) = 2 * (hf g).2 by omega, Int.mul_tdiv_cancel_left _ (by decide), Int.mul_tdiv_cancel_left _ (by decide), w64 (x := (hf g).1) (by omega) (by omega), w64 (x := (hf g).2) (by omega) (by omega), w32 b.1 (by omega)]
def GG (g : Int × Int) : Nat → Int × Int
  | 0 => g
  | j + 1 => hf (GG g j)
def CC (g : Int × Int) : Nat → Nat
  | 0 => 0
  | j + 1 => CC g j + (bt (GG g j)).toNat * 2 ^ j
theorem GG_bd {g : Int × Int} (h : B2 g) : ∀ j, B2 (GG g j)
  | 0 => h
  | j + 1 => hf_bd (GG_bd h j)
theorem CC_lt (g : Int × Int) : ∀ j, CC g j < 2 ^ j
  | 0 => by simp [CC]
  | j + 1 => by
    have := CC_lt g j
    have b := bt_b (GG g j)
    have : (bt (GG g j)).toNat = 0 ∨ (bt (GG g j)).toNat = 1 := by omega
    simp only [CC]
    rw [Nat.pow_succ]
    rcases this with e | e <;> rw [e] <;> omega
theorem class_ok {g : Int × Int} (h : B2 g) {k : Nat} (hk : k ≤ 30) : f_plane_Gauss_Class g.1 g.2 (k : Int) = some ((CC g k : Int), 0) := by
  unfold f_plane_Gauss_Class
  rw [h.1.may h.2]
  simp only [Option.bind_some]
  rw [if_neg (by simp only [Bool.or_eq_true, decide_eq_true_eq, Bool.not_true, Bool.false_eq_true, false_or]; omega)]
  have key : ∀ m i : Nat, i + m = k → loop (f_plane_Gauss_Class.s1 (k : Int)) ((GG g i).1, (GG g i).2, (CC g i : Int), (i : Int)) = some (CC g k : Int) := by
    intro m
    induction m with
    | zero =>
      intro i hi
      obtain rfl : i = k := by omega
      apply loop_done
      simp only [f_plane_Gauss_Class.s1, f_plane_Gauss_Class.s1c]
      rw [if_neg (by simp)]
    | succ m ih =>
      intro i hi
      rw [← ih (i + 1) (by omega)]
      apply loop_step
      simp only [f_plane_Gauss_Class.s1, f_plane_Gauss_Class.s1c]
      have b := bt_b (GG g i)
      have hc := CC_lt g i
      have hp : 2 ^ i ≤ 2 ^ 30 := Nat.pow_le_pow_right (by decide) (by omega)
      obtain ⟨β, hβ⟩ : ∃ β : Nat, bt (GG g i) = (β : Int) := ⟨(bt (GG g i)).toNat, by omega⟩
      have hβ1 : β = 0 ∨ β = 1 := by omega
      have hm : β * 2 ^ i ≤ 2 ^ 30 := by rcases hβ1 with e | e <;> rw [e] <;> omega
      rw [if_pos (by rw [decide_eq_true_eq]; omega), half_ok (GG_bd h i)]
      simp only [Option.bind_some]
      rw [if_pos (by omega), hβ, ishl32 (by omega) (by omega), ior32 (by omega) (by omega), w64 (by omega) (by omega)]
      have e : CC g i ||| β * 2 ^ i = CC g (i + 1) := by
        simp only [CC]
        rw [hβ, Int.toNat_natCast, Nat.or_comm, Nat.mul_comm β, ← Nat.two_pow_add_eq_or_of_lt hc, Nat.add_comm]
      rw [e]; rfl
  have := key k 0 (by omega)
  simp only [GG, CC, Int.natCast_zero] at this
  rw [this]; rfl
theorem GG_front (g : Int × Int) : ∀ j, GG g (j + 1) = GG (hf g) j
  | 0 => rfl
  | j + 1 => by
    have := GG_front g j
    show hf (GG g (j + 1)) = hf (GG (hf g) j)
    rw [this]
theorem CC_front (g : Int × Int) : ∀ k, CC g (k + 1) = (bt g).toNat + 2 * CC (hf g) k
  | 0 => by simp [CC, GG]
  | k + 1 => by
    have ih := CC_front g k
    show CC g (k + 1) + (bt (GG g (k + 1))).toNat * 2 ^ (k + 1) = _
    rw [ih, GG_front]
    simp only [CC]
    rw [Nat.pow_succ, Nat.mul_add, ← Nat.mul_assoc]
    omega
/-! ### First -/
def PF (c k : Nat) : Nat → Int × Int
  | 0 => (0, 0)
  | m + 1 => ((PF c k m).1 - (PF c k m).2 + ((c / 2 ^ (k - 1 - m) % 2 : Nat) : Int), (PF c k m).1 + (PF c k m).2)
theorem PF_bd (c k : Nat) : ∀ m, -((2 ^ m : Nat) : Int) < (PF c k m).1 ∧ (PF c k m).1 < ((2 ^ m : Nat) : Int) ∧ -((2 ^ m : Nat) : Int) < (PF c k m).2 ∧ (PF c k m).2 < ((2 ^ m : Nat) : Int)
  | 0 => by simp [PF]
  | m + 1 => by
    have := PF_bd c k m
    simp only [PF]
    rw [Nat.pow_succ]
    omega
theorem first_ok {c k : Nat} (hk : k ≤ 30) (hc : c < 2 ^ k) : f_plane_First (c : Int) (k : Int) = some (PF c k k, 0) := by
  have hp : 2 ^ k ≤ 2 ^ 30 := Nat.pow_le_pow_right (by decide) (by omega)
  unfold f_plane_First
  have hs : ishr .u32 (c : Int) (k : Int) = 0 := by
    rw [ishr_nat (show k ≤ 32 by omega), Nat.div_eq_of_lt hc]; rfl
  rw [if_neg (by simp only [Bool.or_eq_true, decide_eq_true_eq]; omega), if_pos (by omega), hs]
  simp only [Option.bind_some]
  rw [if_neg (by decide), w64 (by omega) (by omega)]
  have key : ∀ j m : Nat, m + j = k → loop (f_plane_First.s1 (c : Int)) ((PF c k m).1, (PF c k m).2, (k : Int) - 1 - (m : Int)) = some (PF c k k) := by
    intro j
    induction j with
    | zero =>
      intro m hm
      obtain rfl : m = k := by omega
      apply loop_done
      simp only [f_plane_First.s1, f_plane_First.s1c]
      rw [if_neg (by rw [decide_eq_true_eq]; omega)]
    | succ j ih =>
      intro m hm
      rw [← ih (m + 1) (by omega)]
      apply loop_step
      simp only [f_plane_First.s1, f_plane_First.s1c]
      have b := PF_bd c k m
      have hpm : 2 ^ m ≤ 2 ^ 30 := Nat.pow_le_pow_right (by decide) (by omega)
      have ei : (k : Int) - 1 - (m : Int) = ((k - 1 - m : Nat) : Int) := by omega
      have hbit : iand .u32 (ishr .u32 (c : Int) ((k - 1 - m : Nat) : Int)) 1 = ((c / 2 ^ (k - 1 - m) % 2 : Nat) : Int) := by
        have hd : c / 2 ^ (k - 1 - m) ≤ c := Nat.div_le_self _ _
        rw [ishr_nat (show k - 1 - m ≤ 32 by omega), show (1 : Int) = ((1 : Nat) : Int) from rfl, iand32 (by omega) (by omega), Nat.and_one_is_mod]
      rw [ei, if_pos (by rw [decide_eq_true_eq]; omega), times_ok (C := 1073741824) (D := 1) (by decide) (by decide) (by omega) (by omega) (by decide) (by decide) (by decide)]
      simp only [Option.bind_some]
      rw [if_pos (by omega), hbit, Int.mul_one, Int.mul_one, w64 (x := ((c / 2 ^ (k - 1 - m) % 2 : Nat) : Int)) (by omega) (by omega), w64 (by omega) (by omega), w64 (by omega) (by omega)]
      simp only [PF]
      rw [show ((k - 1 - m : Nat) : Int) - 1 = (k : Int) - 1 - ((m + 1 : Nat) : Int) by omega]
  have := key k 0 (by omega)
  rw [show (k : Int) - 1 - ((0 : Nat) : Int) = (k : Int) - 1 by omega] at this
  simp only [PF] at this
  rw [this]; rfl
/-! ### Depth -/
theorem CC_zero (g : Int × Int) : ∀ k, CC g k = 0 ↔ ∀ j, j < k → bt (GG g j) = 0
  | 0 => ⟨fun _ j hj => by omega, fun _ => rfl⟩
  | k + 1 => by
    have ih := CC_zero g k
    have b := bt_b (GG g k)
    have hp := Nat.two_pow_pos k
    have hb : (bt (GG g k)).toNat * 2 ^ k = 0 ↔ bt (GG g k) = 0 := by
      rw [Nat.mul_eq_zero]; omega
    constructor
    · intro h j hj
      simp only [CC] at h
      by_cases e : j = k
      · subst e; exact hb.1 (by omega)
      · exact ih.1 (by omega) j (by omega)
    · intro h
      simp only [CC]
      rw [hb.2 (h k (by omega)), ih.2 fun j hj => h j (by omega)]
theorem depth_ok {g : Int × Int} (h : B2 g) (hg : ¬ (g.1 = 0 ∧ g.2 = 0)) : ∃ n : Nat, f_plane_Gauss_Depth g.1 g.2 = some ((n : Int), 0) ∧ (∀ k, CC g k = 0 ↔ k ≤ n) ∧ (n : Int) ≤ 4611686018427387904 := by
  unfold f_plane_Gauss_Depth
  rw [h.1.may h.2]
  simp only [Option.bind_some, Bool.not_true, Bool.false_eq_true, if_false]
  rw [if_neg (by simp only [Bool.and_true, Bool.and_eq_true, beq_iff_eq]; exact hg), half_ok h]
  simp only [Option.bind_some]
  have key : ∀ (M n : Nat), ((GG g n).1 * (GG g n).1 + (GG g n).2 * (GG g n).2).toNat < M → (n : Int) + ((GG g n).1 * (GG g n).1 + (GG g n).2 * (GG g n).2) ≤ 4611686018427387904 → ¬ ((GG g n).1 = 0 ∧ (GG g n).2 = 0) → (∀ j, j < n → bt (GG g j) = 0) →
      ∃ r : Nat, loop f_plane_Gauss_Depth.s1 ((n : Int), (GG g (n + 1)).1, (GG g (n + 1)).2, bt (GG g n)) = some (r : Int) ∧ (∀ j, j < r → bt (GG g j) = 0) ∧ bt (GG g r) = 1 ∧ (r : Int) ≤ 4611686018427387904 := by
    intro M
    induction M with
    | zero => intro n h; omega
    | succ M ih =>
      intro n hM hN hz hb
      have b := bt_b (GG g n)
      by_cases hc : bt (GG g n) = 0
      · have e := hf_eq (GG g n)
        rw [hc] at e
        have hnp := n_pos hz
        have e1 : (GG g (n + 1)) = hf (GG g n) := rfl
        have e2 : (GG g n).1 * (GG g n).1 + (GG g n).2 * (GG g n).2 = 2 * ((GG g (n + 1)).1 * (GG g (n + 1)).1 + (GG g (n + 1)).2 * (GG g (n + 1)).2) := by
          rw [e1, e.1, e.2]; grind
        have hz2 : ¬ ((GG g (n + 1)).1 = 0 ∧ (GG g (n + 1)).2 = 0) := fun ⟨h1, h2⟩ => by
          rw [h1, h2] at e2
          omega
        have hnp2 := n_pos hz2
        obtain ⟨r, r1, r2, r3⟩ := ih (n + 1) (by omega) (by omega) hz2 (fun j hj => by
          by_cases ej : j = n
          · subst ej; exact hc
          · exact hb j (by omega))
        refine ⟨r, (loop_step ?_).trans r1, r2, r3⟩
        simp only [f_plane_Gauss_Depth.s1, f_plane_Gauss_Depth.s1c]
        rw [if_pos (by rw [beq_iff_eq]; exact hc), half_ok (GG_bd h (n + 1))]
        simp only [Option.bind_some]
        rw [w64 (by omega) (by omega)]; rfl
      · have hnp := n_pos hz
        refine ⟨n, loop_done ?_, hb, by omega, by omega⟩
        simp only [f_plane_Gauss_Depth.s1, f_plane_Gauss_Depth.s1c]
        rw [if_neg (by rw [beq_iff_eq]; exact hc)]
  have t0 := h.1.sq
  have t1 := h.2.sq
  obtain ⟨r, r1, r2, r3, r4⟩ := key _ 0 (Nat.lt_succ_self _) (by simp only [GG]; omega) hg (fun j hj => by omega)
  simp only [GG] at r1
  rw [show ((0 : Nat) : Int) = 0 from rfl] at r1
  rw [r1]
  refine ⟨r, rfl, fun k => ?_, r4⟩
  rw [CC_zero]
  constructor
  · intro hk
    apply Nat.le_of_not_lt
    intro hlt
    have := hk r hlt
    omega
  · intro hk j hj
    exact r2 j (by omega)
/-! ### The same of both -/
def mb (x y : Int) : Bool := (((decide ((-1073741824 : Int) ≤ x)) && (decide (x ≤ (1073741824 : Int)))) && (decide ((-1073741824 : Int) ≤ y))) && (decide (y ≤ (1073741824 : Int)))
theorem may_c (x y : Int) : f_plane_Gauss_may x y = some (mb x y) := rfl
theorem may_r (x y : Int) : f_foghornref03_May x y = some (mb x y) := rfl
theorem mb_bd {x y : Int} (h : mb x y = true) : Bd x ∧ Bd y := by
  unfold mb at h
  simp only [Bool.and_eq_true, decide_eq_true_eq] at h
  unfold Bd
  omega
theorem mb_of {x y : Int} (hx : Bd x) (hy : Bd y) : mb x y = true := by
  unfold mb
  unfold Bd at hx hy
  simp only [Bool.and_eq_true, decide_eq_true_eq]
  omega
theorem Times_both (a b c d : Int) : ∃ v, f_plane_Gauss_Times a b c d = some v ∧ f_foghornref03_Times a b c d = some v := by
  unfold f_plane_Gauss_Times f_foghornref03_Times
  rw [may_c, may_c, may_r, may_r]
  cases h1 : mb a b
  · exact ⟨_, rfl, rfl⟩
  · cases h2 : mb c d
    · exact ⟨_, rfl, rfl⟩
    · exact ⟨_, rfl, rfl⟩
theorem Norm_both (a b : Int) : ∃ v, f_plane_Gauss_Norm a b = some v ∧ f_foghornref03_Norm1 a b = some v := by
  unfold f_plane_Gauss_Norm f_foghornref03_Norm1
  rw [may_c, may_r]
  cases h1 : mb a b
  · exact ⟨_, rfl, rfl⟩
  · exact ⟨_, rfl, rfl⟩
theorem by_eq (a b c d : Int) : f_foghornref03_by a b c d = f_plane_Gauss_by a b c d := rfl
theorem rnorm_ok {x y : Int} (hx : Bd x) (hy : Bd y) : f_foghornref03_norm x y = some (x * x + y * y) := norm_ok hx hy
theorem By_both (a b c d : Int) : ∃ v, f_plane_Gauss_By a b c d = some v ∧ f_foghornref03_By a b c d = some v := by
  unfold f_plane_Gauss_By f_foghornref03_By
  rw [may_c, may_c, may_r, may_r]
  cases h1 : mb a b
  · exact ⟨_, rfl, rfl⟩
  · cases h2 : mb c d
    · exact ⟨_, rfl, rfl⟩
    · obtain ⟨g0, g1⟩ := mb_bd h1
      obtain ⟨g2, g3⟩ := mb_bd h2
      simp only [Option.bind_some, Bool.not_true, Bool.false_eq_true, if_false]
      rw [rnorm_ok g2 g3]
      simp only [Option.bind_some]
      by_cases hz : c = 0 ∧ d = 0
      · obtain ⟨rfl, rfl⟩ := hz
        exact ⟨_, rfl, rfl⟩
      · have hN := n_pos hz
        obtain ⟨q0, q1, e1, _, _, _⟩ := by_ok g0 g1 g2 g3 hz
        rw [if_neg (by simp only [Bool.and_true, Bool.and_eq_true, beq_iff_eq]; exact hz), if_neg (by rw [beq_iff_eq]; omega), by_eq, e1]
        exact ⟨_, rfl, rfl⟩
theorem gcd_loop2 : ∀ (M : Nat) (a0 a1 b0 b1 : Int), (b0 * b0 + b1 * b1).toNat < M → Bd a0 → Bd a1 → Bd b0 → Bd b1 →
    ∃ k0 k1, loop f_plane_Gcd.s1 (a0, a1, b0, b1) = some (k0, k1) ∧ loop f_foghornref03_Gcd.s1 (a0, a1, b0, b1) = some (k0, k1) ∧ Bd k0 ∧ Bd k1 := by
  intro M
  induction M with
  | zero => intro a0 a1 b0 b1 h; omega
  | succ M ih =>
    intro a0 a1 b0 b1 hM h0 h1 h2 h3
    by_cases hz : b0 = 0 ∧ b1 = 0
    · obtain ⟨rfl, rfl⟩ := hz
      refine ⟨a0, a1, loop_done ?_, loop_done ?_, h0, h1⟩
      · simp only [f_plane_Gcd.s1, f_plane_Gcd.s1c]
        rw [if_pos (by decide)]
      · simp only [f_foghornref03_Gcd.s1, f_foghornref03_Gcd.s1c]
        rw [rnorm_ok h2 h3]; rfl
    · obtain ⟨q0, q1, e1, e2, e3, e4⟩ := by_ok h0 h1 h2 h3 hz
      have rs := rest_small hz e2
      have hN := n_pos hz
      have t0 := h2.sq; have t1 := h3.sq
      have s0 := sq_nn (a0 - (q0*b0 - q1*b1))
      have s1 := sq_nn (a1 - (q0*b1 + q1*b0))
      obtain ⟨k0, k1, f1, f1', f2, f3⟩ := ih b0 b1 (a0 - (q0*b0 - q1*b1)) (a1 - (q0*b1 + q1*b0)) (by omega) h2 h3 (sq_le (by omega)) (sq_le (by omega))
      refine ⟨k0, k1, (loop_step ?_).trans f1, (loop_step ?_).trans f1', f2, f3⟩
      · simp only [f_plane_Gcd.s1, f_plane_Gcd.s1c]
        rw [if_neg (by simp only [Bool.and_true, Bool.and_eq_true, beq_iff_eq]; exact hz), e1]; rfl
      · simp only [f_foghornref03_Gcd.s1, f_foghornref03_Gcd.s1c]
        rw [rnorm_ok h2 h3]
        simp only [Option.bind_some]
        rw [if_pos (by rw [bne_iff_ne]; omega), by_eq, e1]; rfl
theorem rrot_done {x y : Int} {i : Int} (h : 4 ≤ i ∨ (0 < x ∧ 0 ≤ y)) : loop f_foghornref03_Gcd.s2 (x, y, i) = some (x, y) := by
  apply loop_done
  simp only [f_foghornref03_Gcd.s2, f_foghornref03_Gcd.s2c]
  rw [if_neg (by
    simp only [Bool.and_eq_true, Bool.not_eq_true', Bool.and_eq_false_iff, decide_eq_false_iff_not, decide_eq_true_eq]
    omega)]
theorem rrot_step {x y : Int} (hy : Bd y) {i : Int} (hi : 0 ≤ i ∧ i < 4) (h : ¬ (0 < x ∧ 0 ≤ y)) : loop f_foghornref03_Gcd.s2 (x, y, i) = loop f_foghornref03_Gcd.s2 (-y, x, i + 1) := by
  apply loop_step
  simp only [f_foghornref03_Gcd.s2, f_foghornref03_Gcd.s2c]
  unfold Bd at hy
  rw [if_pos (by
    simp only [Bool.and_eq_true, Bool.not_eq_true', Bool.and_eq_false_iff, decide_eq_false_iff_not, decide_eq_true_eq]
    omega), w64 (by omega) (by omega), w64 (by omega) (by omega), Int.zero_sub]
theorem rot_both {x y : Int} (hx : Bd x) (hy : Bd y) : ∃ u v, loop f_plane_Gcd.s2 (x, y) = some (u, v) ∧ loop f_foghornref03_Gcd.s2 (x, y, 0) = some (u, v) := by
  by_cases hz : x = 0 ∧ y = 0
  · obtain ⟨rfl, rfl⟩ := hz
    refine ⟨0, 0, rot_done (.inl ⟨rfl, rfl⟩), ?_⟩
    rw [rrot_step hy ⟨by decide, by decide⟩ (by decide), Int.neg_zero, rrot_step hy ⟨by decide, by decide⟩ (by decide), Int.neg_zero, rrot_step hy ⟨by decide, by decide⟩ (by decide), Int.neg_zero, rrot_step hy ⟨by decide, by decide⟩ (by decide), Int.neg_zero, rrot_done (.inl (by decide))]
  have nz : ∀ {u v : Int}, ¬ (u = 0 ∧ v = 0) → ¬ Qd u v → ¬ (0 < u ∧ 0 ≤ v) := fun _ h1 h2 => h1 (.inr h2)
  by_cases c0 : Qd x y
  · exact ⟨x, y, rot_done c0, rrot_done (.inr (by unfold Qd at c0; omega))⟩
  rw [rot_step hy c0, rrot_step hy ⟨by decide, by decide⟩ (nz hz c0)]
  by_cases c1 : Qd (-y) x
  · exact ⟨_, _, rot_done c1, rrot_done (.inr (by unfold Qd at c1; omega))⟩
  rw [rot_step hx c1, rrot_step hx ⟨by decide, by decide⟩ (nz (by omega) c1)]
  by_cases c2 : Qd (-x) (-y)
  · exact ⟨_, _, rot_done c2, rrot_done (.inr (by unfold Qd at c2; omega))⟩
  rw [rot_step hy.neg c2, rrot_step hy.neg ⟨by decide, by decide⟩ (nz (by omega) c2), Int.neg_neg]
  have c3 : Qd y (-x) := by unfold Qd at *; omega
  exact ⟨_, _, rot_done c3, rrot_done (.inr (by unfold Qd at c3; omega))⟩
theorem Gcd_both (a b c d : Int) : ∃ v, f_plane_Gcd a b c d = some v ∧ f_foghornref03_Gcd a b c d = some v := by
  unfold f_plane_Gcd f_foghornref03_Gcd
  rw [may_c, may_c, may_r, may_r]
  cases h1 : mb a b
  · exact ⟨_, rfl, rfl⟩
  · cases h2 : mb c d
    · exact ⟨_, rfl, rfl⟩
    · obtain ⟨g0, g1⟩ := mb_bd h1
      obtain ⟨g2, g3⟩ := mb_bd h2
      obtain ⟨k0, k1, e1, e2, e3, e4⟩ := gcd_loop2 _ a b c d (Nat.lt_succ_self _) g0 g1 g2 g3
      obtain ⟨u, v, f1, f2⟩ := rot_both e3 e4
      simp only [Option.bind_some, Bool.not_true, Bool.false_eq_true, if_false]
      rw [e1, e2]
      simp only [Option.bind_some]
      rw [f1, f2]
      exact ⟨_, rfl, rfl⟩
theorem rstep_ok {g : Int × Int} (h : B2 g) : f_foghornref03_step g.1 g.2 = some (bt g, hf g) := by
  have b := bt_b g
  have e := hf_eq g
  unfold B2 Bd at h
  have key : f_foghornref03_step.j1 g.1 g.2 (bt g) = some (bt g, hf g) := by
    unfold f_foghornref03_step.j1
    rw [w64 (x := g.1 - bt g) (by omega) (by omega), w64 (x := g.1 - bt g + g.2) (by omega) (by omega), w64 (x := g.2 - (g.1 - bt g)) (by omega) (by omega)]
    rw [show g.1 - bt g + g.2 = 2 * (hf g).1 by omega, show g.2 - (g.1 - bt g) = 2 * (hf g).2 by omega, Int.mul_tdiv_cancel_left _ (by decide), Int.mul_tdiv_cancel_left _ (by decide), w64 (x := (hf g).1) (by omega) (by omega), w64 (x := (hf g).2) (by omega) (by omega), w32 b.1 (by omega)]
  unfold f_foghornref03_step
  rw [w64 (x := g.1 + g.2) (by omega) (by omega)]
  have hm : (g.1 + g.2).tmod 2 = bt g ∨ ((g.1 + g.2).tmod 2 < 0 ∧ (g.1 + g.2).tmod 2 + 2 = bt g) := by
    unfold bt
    by_cases h0 : 0 ≤ g.1 + g.2
    · left; rw [Int.tmod_eq_emod_of_nonneg h0]
    · have h3 := Int.neg_tmod (a := -(g.1 + g.2)) (b := 2)
      rw [Int.neg_neg, Int.tmod_eq_emod_of_nonneg (a := -(g.1 + g.2)) (by omega)] at h3
      omega
  rcases hm with hm | ⟨hm1, hm2⟩
  · rw [hm, if_neg (by rw [decide_eq_true_eq]; omega)]; exact key
  · rw [if_pos (by rw [decide_eq_true_eq]; exact hm1), w64 (by omega) (by omega), hm2]; exact key
theorem Class_both (a b depth : Int) : ∃ v, f_plane_Gauss_Class a b depth = some v ∧ f_foghornref03_Class a b depth = some v := by
  cases h1 : mb a b
  · unfold f_plane_Gauss_Class f_foghornref03_Class
    rw [may_c, may_r, h1]
    exact ⟨_, rfl, rfl⟩
  by_cases hd : 0 ≤ depth ∧ depth ≤ 30
  · obtain ⟨k, rfl⟩ : ∃ k : Nat, depth = (k : Int) := ⟨depth.toNat, by omega⟩
    have hg : B2 (a, b) := mb_bd h1
    have hc := class_ok hg (k := k) (by omega)
    refine ⟨_, hc, ?_⟩
    unfold f_foghornref03_Class
    rw [may_r, h1]
    simp only [Option.bind_some]
    rw [if_neg (by simp only [Bool.or_eq_true, decide_eq_true_eq, Bool.not_true, Bool.false_eq_true, false_or]; omega)]
    have key : ∀ m i : Nat, i + m = k → loop (f_foghornref03_Class.s1 (k : Int)) ((GG (a, b) i).1, (GG (a, b) i).2, (CC (a, b) i : Int), ((2 ^ i : Nat) : Int), (i : Int)) = some (CC (a, b) k : Int) := by
      intro m
      induction m with
      | zero =>
        intro i hi
        obtain rfl : i = k := by omega
        apply loop_done
        simp only [f_foghornref03_Class.s1, f_foghornref03_Class.s1c]
        rw [if_neg (by simp)]
      | succ m ih =>
        intro i hi
        rw [← ih (i + 1) (by omega)]
        apply loop_step
        simp only [f_foghornref03_Class.s1, f_foghornref03_Class.s1c]
        have b' := bt_b (GG (a, b) i)
        have hcl := CC_lt (a, b) i
        have hp : 2 ^ i ≤ 2 ^ 30 := Nat.pow_le_pow_right (by decide) (by omega)
        obtain ⟨β, hβ⟩ : ∃ β : Nat, bt (GG (a, b) i) = (β : Int) := ⟨(bt (GG (a, b) i)).toNat, by omega⟩
        have hβ1 : β = 0 ∨ β = 1 := by omega
        have hm : β * 2 ^ i ≤ 2 ^ 30 := by rcases hβ1 with e | e <;> rw [e] <;> omega
        rw [if_pos (by rw [decide_eq_true_eq]; omega), rstep_ok (GG_bd hg i)]
        simp only [Option.bind_some]
        rw [hβ, ← Int.natCast_mul, w32 (x := ((β * 2 ^ i : Nat) : Int)) (by omega) (by omega), w32 (by omega) (by omega), w32 (by omega) (by omega), w64 (by omega) (by omega)]
        have e : (CC (a, b) i : Int) + ((β * 2 ^ i : Nat) : Int) = (CC (a, b) (i + 1) : Int) := by
          simp only [CC]
          rw [hβ, Int.toNat_natCast]; omega
        have e2 : ((2 ^ i : Nat) : Int) * 2 = ((2 ^ (i + 1) : Nat) : Int) := by rw [Nat.pow_succ]; omega
        rw [e, e2]; rfl
    have := key k 0 (by omega)
    have this2 : loop (f_foghornref03_Class.s1 (k : Int)) (a, b, 0, 1, 0) = some (CC (a, b) k : Int) := this
    rw [this2]; rfl
  · unfold f_plane_Gauss_Class f_foghornref03_Class
    rw [may_c, may_r, h1]
    simp only [Option.bind_some]
    rw [if_pos (by simp only [Bool.or_eq_true, decide_eq_true_eq, Bool.not_true, Bool.false_eq_true, false_or]; omega), if_pos (by simp only [Bool.or_eq_true, decide_eq_true_eq, Bool.not_true, Bool.false_eq_true, false_or]; omega)]
    exact ⟨_, rfl, rfl⟩
/-! ### First -/
def HH (c : Nat) : Nat → Int × Int
  | 0 => (0, 0)
  | k + 1 => ((HH (c / 2) k).1 - (HH (c / 2) k).2 + ((c % 2 : Nat) : Int), (HH (c / 2) k).1 + (HH (c / 2) k).2)
theorem PF_HH (c k : Nat) : ∀ m, m ≤ k → PF c k m = HH (c / 2 ^ (k - m)) m
  | 0, _ => rfl
  | m + 1, hm => by
    have ih := PF_HH c k m (by omega)
    have e : c / 2 ^ (k - (m + 1)) / 2 = c / 2 ^ (k - m) := by rw [Nat.div_div_eq_div_mul, ← Nat.pow_succ]; congr 2; omega
    simp only [PF, HH]
    rw [e, ih, show k - 1 - m = k - (m + 1) by omega]
theorem HH_bd : ∀ (k c : Nat), -((2 ^ k : Nat) : Int) < (HH c k).1 ∧ (HH c k).1 < ((2 ^ k : Nat) : Int) ∧ -((2 ^ k : Nat) : Int) < (HH c k).2 ∧ (HH c k).2 < ((2 ^ k : Nat) : Int)
  | 0, c => by simp [HH]
  | k + 1, c => by
    have := HH_bd k (c / 2)
    simp only [HH]
    rw [Nat.pow_succ]
    omega
def pw : Nat → Int × Int
  | 0 => (1, 0)
  | k + 1 => ((pw k).1 - (pw k).2, (pw k).1 + (pw k).2)
theorem pw_bd : ∀ k, -((2 ^ k : Nat) : Int) ≤ (pw k).1 ∧ (pw k).1 ≤ ((2 ^ k : Nat) : Int) ∧ -((2 ^ k : Nat) : Int) ≤ (pw k).2 ∧ (pw k).2 ≤ ((2 ^ k : Nat) : Int)
  | 0 => by decide
  | k + 1 => by
    have := pw_bd k
    simp only [pw]
    rw [Nat.pow_succ]
    omega
/-- the sum so far -/
def SS (c : Nat) : Nat → Int × Int
  | 0 => (0, 0)
  | i + 1 => if c / 2 ^ i % 2 = 1 then ((SS c i).1 + (pw i).1, (SS c i).2 + (pw i).2) else SS c i
theorem SS_bd (c : Nat) : ∀ k, -((2 ^ k : Nat) : Int) < (SS c k).1 ∧ (SS c k).1 < ((2 ^ k : Nat) : Int) ∧ -((2 ^ k : Nat) : Int) < (SS c k).2 ∧ (SS c k).2 < ((2 ^ k : Nat) : Int)
  | 0 => by simp [SS]
  | k + 1 => by
    have h1 := SS_bd c k
    have h2 := pw_bd k
    simp only [SS]
    rw [Nat.pow_succ]
    split
    · simp only; omega
    · omega
theorem SS_HH (c k : Nat) : ∀ i, i ≤ k → (SS c i).1 + ((pw i).1 * (HH (c / 2 ^ i) (k - i)).1 - (pw i).2 * (HH (c / 2 ^ i) (k - i)).2) = (HH c k).1 ∧ (SS c i).2 + ((pw i).1 * (HH (c / 2 ^ i) (k - i)).2 + (pw i).2 * (HH (c / 2 ^ i) (k - i)).1) = (HH c k).2
  | 0, _ => by simp [SS, pw]
  | i + 1, hi => by
    obtain ⟨h1, h2⟩ := SS_HH c k i (by omega)
    have e : c / 2 ^ i / 2 = c / 2 ^ (i + 1) := by rw [Nat.div_div_eq_div_mul, ← Nat.pow_succ]
    have ek : k - i = (k - (i + 1)) + 1 := by omega
    rw [ek] at h1 h2
    simp only [HH] at h1 h2
    rw [e] at h1 h2
    rw [← h1, ← h2]
    generalize (HH (c / 2 ^ (i + 1)) (k - (i + 1))).1 = X
    generalize (HH (c / 2 ^ (i + 1)) (k - (i + 1))).2 = Y
    simp only [SS, pw]
    by_cases hb : c / 2 ^ i % 2 = 1
    · rw [if_pos hb, hb]
      simp only [Int.natCast_one]
      constructor <;> grind
    · rw [if_neg hb, show c / 2 ^ i % 2 = 0 by omega]
      simp only [Int.natCast_zero]
      constructor <;> grind
theorem SS_PF (c k : Nat) : SS c k = PF c k k := by
  have h := SS_HH c k k (Nat.le_refl _)
  rw [Nat.sub_self] at h
  simp only [HH, Int.mul_zero, Int.sub_zero, Int.add_zero] at h
  rw [PF_HH c k k (Nat.le_refl _), Nat.sub_self, Nat.pow_zero, Nat.div_one]
  exact Prod.ext h.1 h.2
theorem rfirst_loop (c k : Nat) (hk : k ≤ 30) (hc : c < 2 ^ 32) : loop (f_foghornref03_First.s1 (k : Int)) ((c : Int), 0, 0, 1, 0, 0) = some (SS c k) := by
  have key : ∀ m i : Nat, i + m = k → loop (f_foghornref03_First.s1 (k : Int)) (((c / 2 ^ i : Nat) : Int), (SS c i).1, (SS c i).2, (pw i).1, (pw i).2, (i : Int)) = some (SS c k) := by
    intro m
    induction m with
    | zero =>
      intro i hi
      obtain rfl : i = k := by omega
      apply loop_done
      simp only [f_foghornref03_First.s1, f_foghornref03_First.s1c]
      rw [if_neg (by simp)]
    | succ m ih =>
      intro i hi
      rw [← ih (i + 1) (by omega)]
      apply loop_step
      simp only [f_foghornref03_First.s1, f_foghornref03_First.s1c]
      have hpp : 2 ^ i ≤ 2 ^ 29 := Nat.pow_le_pow_right (by decide) (by omega)
      have hp := pw_bd i
      have hs := SS_bd c i
      have hd : c / 2 ^ i ≤ c := Nat.div_le_self _ _
      have hj : ∀ x y : Int, f_foghornref03_First.j1 ((c / 2 ^ i : Nat) : Int) (pw i).1 (pw i).2 (i : Int) x y = some (.inl (((c / 2 ^ (i + 1) : Nat) : Int), x, y, (pw (i + 1)).1, (pw (i + 1)).2, ((i + 1 : Nat) : Int))) := by
        intro x y
        unfold f_foghornref03_First.j1
        have ht : f_foghornref03_times (pw i).1 (pw i).2 1 1 = some ((pw i).1 * 1 - (pw i).2 * 1, (pw i).1 * 1 + (pw i).2 * 1) := times_ok (C := 536870912) (D := 1) (by decide) (by decide) (by omega) (by omega) (by decide) (by decide) (by decide)
        have hdd : ((c / 2 ^ i : Nat) : Int).tdiv 2 = ((c / 2 ^ (i + 1) : Nat) : Int) := by
          rw [show (2 : Int) = ((2 : Nat) : Int) from rfl, tdiv_nat, Nat.div_div_eq_div_mul, ← Nat.pow_succ]
        have hd2 : c / 2 ^ (i + 1) ≤ c := Nat.div_le_self _ _
        rw [ht, hdd, w32 (Int.natCast_nonneg _) (by omega), w64 (by omega) (by omega)]
        simp only [Option.bind_some, Int.mul_one, pw]
        rfl
      have hm : ((c / 2 ^ i : Nat) : Int).tmod 2 = ((c / 2 ^ i % 2 : Nat) : Int) := by
        rw [show (2 : Int) = ((2 : Nat) : Int) from rfl, tmod_nat]
      rw [if_pos (by rw [decide_eq_true_eq]; omega), hm]
      by_cases hb : c / 2 ^ i % 2 = 1
      · rw [if_pos (by rw [beq_iff_eq]; omega), w64 (by omega) (by omega), w64 (by omega) (by omega), hj]
        simp only [SS]; rw [if_pos hb]
      · rw [if_neg (by rw [beq_iff_eq]; omega), hj]
        simp only [SS]; rw [if_neg hb]
  have := key k 0 (by omega)
  rw [Nat.pow_zero, Nat.div_one] at this
  exact this
theorem First_both (c : Nat) (hc : c < 2 ^ 32) (depth : Int) : ∃ v, f_plane_First (c : Int) depth = some v ∧ f_foghornref03_First (c : Int) depth = some v := by
  by_cases hd : 0 ≤ depth ∧ depth ≤ 30
  · obtain ⟨k, rfl⟩ : ∃ k : Nat, depth = (k : Int) := ⟨depth.toNat, by omega⟩
    have hk : k ≤ 30 := by omega
    have hp : 2 ^ k ≤ 2 ^ 30 := Nat.pow_le_pow_right (by decide) hk
    have hl : ishl .u32 1 (k : Int) = ((2 ^ k : Nat) : Int) := by
      have := ishl32 (a := 1) (s := k) (by omega) (by omega)
      rw [Nat.one_mul] at this
      exact this
    by_cases hcl : c < 2 ^ k
    · refine ⟨_, first_ok hk hcl, ?_⟩
      unfold f_foghornref03_First
      rw [if_neg (by simp only [Bool.or_eq_true, decide_eq_true_eq]; omega), if_pos (by omega), hl, decide_eq_false (by omega)]
      simp only [Option.bind_some]
      rw [if_neg (by decide), rfirst_loop c k hk hc, SS_PF]; rfl
    · refine ⟨((0, 0), 1), ?_, ?_⟩
      · unfold f_plane_First
        rw [if_neg (by simp only [Bool.or_eq_true, decide_eq_true_eq]; omega), if_pos (by omega), ishr_nat (show k ≤ 32 by omega)]
        have : 0 < c / 2 ^ k := Nat.div_pos (by omega) (Nat.two_pow_pos k)
        rw [decide_eq_true (by omega)]; rfl
      · unfold f_foghornref03_First
        rw [if_neg (by simp only [Bool.or_eq_true, decide_eq_true_eq]; omega), if_pos (by omega), hl, decide_eq_true (by omega)]; rfl
  · unfold f_plane_First f_foghornref03_First
    rw [if_pos (by simp only [Bool.or_eq_true, decide_eq_true_eq]; omega), if_pos (by simp only [Bool.or_eq_true, decide_eq_true_eq]; omega)]
    exact ⟨_, rfl, rfl⟩
/-! ### What a float stands for -/
theorem log2_mul_pow {m : Nat} (hm : m ≠ 0) (a : Nat) : (m * 2 ^ a).log2 = m.log2 + a := by
  have h0 : m * 2 ^ a ≠ 0 := Nat.mul_ne_zero hm (Nat.ne_of_gt (Nat.two_pow_pos a))
  rw [Nat.log2_eq_iff h0]
  have l1 := Nat.log2_self_le hm
  have l2 : m < 2 ^ (m.log2 + 1) := Nat.lt_log2_self
  constructor
  · rw [Nat.pow_add]; exact Nat.mul_le_mul_right _ l1
  · rw [show m.log2 + a + 1 = m.log2 + 1 + a by omega, Nat.pow_add _ _ a]; exact Nat.mul_lt_mul_of_pos_right l2 (Nat.two_pow_pos a)
theorem cut_exact (neg : Bool) {m : Nat} (hm : m ≠ 0) (d : Nat) : Ieee.Toward.even.cut neg (m * 2 ^ d) d = m := by
  unfold Ieee.Toward.cut
  rw [log2_mul_pow hm, Nat.min_eq_left (by omega)]
  have hp := Nat.two_pow_pos d
  simp only [Nat.one_shiftLeft, Nat.mul_div_cancel _ hp, Nat.mul_mod_left]
  have e1 : decide (2 ^ d < 2 * 0) = false := by rw [decide_eq_false_iff_not]; omega
  have e2 : (2 ^ d == 2 * 0) = false := by rw [beq_eq_false_iff_ne]; omega
  rw [e1, e2]; simp
theorem nearest_eq (neg : Bool) {mag : Nat} (place : Int) (h : mag ≠ 0) : Ieee.double.nearest neg mag place = Ieee.double.word neg (min ((max (place + mag.log2 - 52) (-1074) - (-1074)).toNat * 4503599627370496 + Ieee.Toward.even.cut neg (mag <<< (place - max (place + mag.log2 - 52) (-1074)).toNat) (max (place + mag.log2 - 52) (-1074) - place).toNat) 9218868437227405312) := by
  unfold Ieee.Format.nearest
  rw [if_neg h]
  have e1 : (Ieee.double.fractionBits : Nat) = 52 := rfl
  have e2 : Ieee.double.leastPlace = -1074 := by decide
  have e3 : Ieee.double.binade = 4503599627370496 := by decide
  have e4 : Ieee.double.infRung = 9218868437227405312 := by decide
  simp only [e1, e2, e3, e4]
  rfl
theorem read_eq (w : Nat) : Ieee.double.read w = (if w % 9223372036854775808 < 4503599627370496 then .number (w / 9223372036854775808 % 2 == 1) (w % 9223372036854775808) (-1074)
    else if w % 9223372036854775808 < 9218868437227405312 then .number (w / 9223372036854775808 % 2 == 1) (4503599627370496 + w % 9223372036854775808 % 4503599627370496) (-1074 + ((w % 9223372036854775808 / 4503599627370496 - 1 : Nat) : Int))
    else if w % 9223372036854775808 = 9218868437227405312 then .infinity (w / 9223372036854775808 % 2 == 1) else .nan (w / 9223372036854775808 % 2 == 1) (w % 9223372036854775808 - 9218868437227405312)) := by
  have e1 : Ieee.double.signWeight = 9223372036854775808 := by decide
  have e2 : Ieee.double.leastPlace = -1074 := by decide
  have e3 : Ieee.double.binade = 4503599627370496 := by decide
  have e4 : Ieee.double.infRung = 9218868437227405312 := by decide
  simp only [Ieee.Format.read, e1, e2, e3, e4]
theorem word_eq (neg : Bool) (r : Nat) : Ieee.double.word neg r = if neg then 9223372036854775808 + r else r := by
  have e1 : Ieee.double.signWeight = 9223372036854775808 := by decide
  simp only [Ieee.Format.word, e1]
theorem read_word (neg : Bool) {t kept : Nat} (h : kept < 9007199254740992) (h2 : t = 0 ∨ 4503599627370496 ≤ kept) (ht : t < 2000) :
    ∃ m e, Ieee.double.read (Ieee.double.word neg (min (t * 4503599627370496 + kept) 9218868437227405312)) = .number neg m e ∧ -1074 ≤ e ∧ m * 2 ^ (e + 1074).toNat = kept * 2 ^ t := by
  rw [Nat.min_eq_left (by omega), word_eq, read_eq]
  generalize hr : t * 4503599627370496 + kept = r
  have hlt : r < 9218868437227405312 := by omega
  generalize hw : (if neg then 9223372036854775808 + r else r) = w
  have w1 : w % 9223372036854775808 = r := by
    cases neg
    · simp at hw; omega
    · simp at hw; omega
  have w2 : (w / 9223372036854775808 % 2 == 1) = neg := by
    cases neg
    · simp only [Bool.false_eq_true, if_false] at hw
      rw [beq_eq_false_iff_ne]; omega
    · simp only [if_true] at hw
      rw [beq_iff_eq]; omega
  rw [w1, w2]
  by_cases hc : r < 4503599627370496
  · rw [if_pos hc]
    have : t = 0 := by omega
    subst this
    refine ⟨_, _, rfl, by omega, ?_⟩
    have : r = kept := by omega
    subst this
    rfl
  · rw [if_neg hc, if_pos hlt]
    refine ⟨_, _, rfl, by omega, ?_⟩
    have e1 : 4503599627370496 + r % 4503599627370496 = kept := by omega
    have e2 : (-1074 + ((r / 4503599627370496 - 1 : Nat) : Int) + 1074).toNat = t := by omega
    rw [e1, e2]
/-- a number that the format has is written as it is -/
theorem near (neg : Bool) {z p K mag : Nat} {place : Int} (hm : mag ≠ 0) (hK : K < 9007199254740992) (hp : p ≤ 800) (hz : p ≤ z) (hpl : 0 ≤ place + z) (h : mag * 2 ^ (place + z).toNat = K * 2 ^ (z - p)) :
    ∃ m e, Ieee.double.read (Ieee.double.nearest neg mag place) = .number neg m e ∧ -1074 ≤ e ∧ m * 2 ^ (e + 1074).toNat = K * 2 ^ (1074 - p) := by
  have hK0 : K ≠ 0 := by
    intro e
    subst e
    rw [Nat.zero_mul] at h
    exact Nat.mul_ne_zero hm (Nat.ne_of_gt (Nat.two_pow_pos _)) h
  have hL : K.log2 ≤ 52 := by
    have := (Nat.log2_lt hK0 (k := 53)).2 (by simpa using hK)
    omega
  have hlog : place + (mag.log2 : Int) = K.log2 - p := by
    have a1 := log2_mul_pow hm (place + z).toNat
    have a2 := log2_mul_pow hK0 (z - p)
    rw [h] at a1
    omega
  rw [nearest_eq neg place hm]
  have hlast : max (place + mag.log2 - 52) (-1074) = max ((K.log2 : Int) - p - 52) (-1074) := by rw [hlog]
  rw [hlast]
  generalize hl : max ((K.log2 : Int) - p - 52) (-1074) = last
  -- the digits that are kept
  have hlp : last ≤ -p := by omega
  have key : mag * 2 ^ (place - last).toNat = (K * 2 ^ (-p - last).toNat) * 2 ^ (last - place).toNat := by
    have hP := Nat.two_pow_pos (place + z).toNat
    apply Nat.eq_of_mul_eq_mul_right hP
    have s1 : mag * 2 ^ (place - last).toNat * 2 ^ (place + z).toNat = (mag * 2 ^ (place + z).toNat) * 2 ^ (place - last).toNat := by
      rw [Nat.mul_assoc, Nat.mul_comm (2 ^ (place - last).toNat), ← Nat.mul_assoc]
    rw [s1, h, Nat.mul_assoc, ← Nat.pow_add, Nat.mul_assoc K, ← Nat.pow_add, Nat.mul_assoc K, ← Nat.pow_add]
    congr 2
    omega
  have hk0 : K * 2 ^ (-p - last).toNat ≠ 0 := Nat.mul_ne_zero hK0 (Nat.ne_of_gt (Nat.two_pow_pos _))
  rw [Nat.shiftLeft_eq, key, cut_exact neg hk0]
  have hkl := log2_mul_pow hK0 (-p - last).toNat
  have hk53 : K * 2 ^ (-p - last).toNat < 9007199254740992 := by
    have l2 : K * 2 ^ (-p - last).toNat < 2 ^ ((K * 2 ^ (-p - last).toNat).log2 + 1) := Nat.lt_log2_self
    have l3 : 2 ^ ((K * 2 ^ (-p - last).toNat).log2 + 1) ≤ 2 ^ 53 := Nat.pow_le_pow_right (by decide) (by omega)
    have l4 : (2 : Nat) ^ 53 = 9007199254740992 := by decide
    omega
  have hk52 : (last - (-1074)).toNat = 0 ∨ 4503599627370496 ≤ K * 2 ^ (-p - last).toNat := by
    by_cases hc : last = -1074
    · left; omega
    · right
      have l1 := Nat.log2_self_le hk0
      have l3 : 2 ^ 52 ≤ 2 ^ (K * 2 ^ (-p - last).toNat).log2 := Nat.pow_le_pow_right (by decide) (by omega)
      have l4 : (2 : Nat) ^ 52 = 4503599627370496 := by decide
      omega
  obtain ⟨m, e, r1, r2, r3⟩ := read_word neg hk53 hk52 (by omega)
  refine ⟨m, e, r1, r2, r3.trans ?_⟩
  rw [Nat.mul_assoc, ← Nat.pow_add]
  congr 2
  omega
def sg (s : Bool) (m : Nat) : Int := if s then -(m : Int) else (m : Int)
theorem sg_mul (s : Bool) (m n : Nat) : sg s (m * n) = sg s m * (n : Int) := by
  cases s <;> simp [sg, Int.neg_mul]
theorem signed_eq (s : Bool) (m u : Nat) : Ieee.signed s m u = sg s (m * 2 ^ u) := by
  unfold Ieee.signed sg
  rw [Nat.shiftLeft_eq]
/-- 'x' stands for 'k / 2 ^ p' -/
def Val (p : Nat) (x : Fl) (k : Int) : Prop := ∃ b s m e, x = .bits b ∧ Ieee.double.read b = .number s m e ∧ -1074 ≤ e ∧ sg s (m * 2 ^ (e + 1074).toNat) = k * ((2 ^ (1074 - p) : Nat) : Int)
theorem pow_pos_i (a : Nat) : (0 : Int) < ((2 ^ a : Nat) : Int) := by have := Nat.two_pow_pos a; omega
theorem val_near (neg : Bool) {z p : Nat} {k total : Int} {place : Int} (hp : p ≤ 800) (hz : p ≤ z) (hpl : 0 ≤ place + z) (hk : k.natAbs < 9007199254740992)
    (h : total * ((2 ^ (place + z).toNat : Nat) : Int) = k * ((2 ^ (z - p) : Nat) : Int)) (hs : total ≠ 0 → neg = decide (total < 0)) : Val p (.bits (Ieee.double.nearest neg total.natAbs place)) k := by
  have p1 := pow_pos_i (place + z).toNat
  have p2 := pow_pos_i (z - p)
  by_cases h0 : total = 0
  · subst h0
    rw [Int.zero_mul] at h
    have hk0 : k = 0 := by
      rcases Int.mul_eq_zero.1 h.symm with h | h
      · exact h
      · omega
    subst hk0
    refine ⟨_, neg, 0, -1074, rfl, ?_, by decide, ?_⟩
    · have : Ieee.double.nearest neg (0 : Int).natAbs place = Ieee.double.word neg 0 := rfl
      rw [this]
      cases neg <;> decide
    · rw [Nat.zero_mul, Int.zero_mul]; cases neg <;> rfl
  · obtain ⟨m, e, r1, r2, r3⟩ := near neg (mag := total.natAbs) (K := k.natAbs) (place := place) (z := z) (p := p) (by omega) hk hp hz hpl (by
      have := congrArg Int.natAbs h
      rw [Int.natAbs_mul, Int.natAbs_mul, Int.natAbs_natCast, Int.natAbs_natCast] at this
      exact this)
    refine ⟨_, neg, m, e, rfl, r1, r2, ?_⟩
    rw [r3, sg_mul, hs h0]
    congr 1
    by_cases ht : total < 0
    · have : k < 0 := by
        apply Int.not_le.mp
        intro hk
        have a1 : 0 ≤ k * ((2 ^ (z - p) : Nat) : Int) := Int.mul_nonneg hk (by omega)
        have a2 : total * ((2 ^ (place + z).toNat : Nat) : Int) < 0 := Int.mul_neg_of_neg_of_pos ht p1
        omega
      rw [decide_eq_true ht]; simp only [sg, if_true]; omega
    · have : 0 ≤ k := by
        apply Int.not_lt.mp
        intro hk
        have a1 : k * ((2 ^ (z - p) : Nat) : Int) < 0 := Int.mul_neg_of_neg_of_pos hk p2
        have a2 : 0 ≤ total * ((2 ^ (place + z).toNat : Nat) : Int) := Int.mul_nonneg (by omega) (by omega)
        omega
      rw [decide_eq_false ht]; simp only [sg, Bool.false_eq_true, if_false]; omega
theorem fofi_val {k : Int} (hk : k.natAbs < 9007199254740992) : Val 0 (fofi k) k := by
  have := val_near (decide (k < 0)) (z := 0) (p := 0) (k := k) (total := k) (place := 0) (by decide) (by decide) (by decide) hk rfl (fun _ => rfl)
  exact this
theorem zero_val (p : Nat) : Val p (.bits 0) 0 := by
  refine ⟨0, false, 0, -1074, rfl, by decide, by decide, ?_⟩
  rw [Nat.zero_mul, Int.zero_mul]; rfl
theorem sum_read {a b : Nat} {s t : Bool} {m n : Nat} {i j : Int} {p : Nat} {k l : Int} (hp : p ≤ 800) (hi : -1074 ≤ i) (hj : -1074 ≤ j)
    (h1 : sg s (m * 2 ^ (i + 1074).toNat) = k * ((2 ^ (1074 - p) : Nat) : Int)) (h2 : sg t (n * 2 ^ (j + 1074).toNat) = l * ((2 ^ (1074 - p) : Nat) : Int)) (hk : (k + l).natAbs < 9007199254740992) :
    ∃ d, (Ieee.Datum.number s m i).sum (.number t n j) = some d ∧ Val p (.bits (Ieee.double.write d)) (k + l) := by
  refine ⟨_, rfl, ?_⟩
  refine val_near (z := 1074) (p := p) (k := k + l) _ hp (by omega) (by omega) hk ?_ (fun h => by rw [if_neg h])
  rw [signed_eq, signed_eq, Int.add_mul, Int.add_mul, ← h1, ← h2, ← sg_mul, ← sg_mul, Nat.mul_assoc, ← Nat.pow_add, Nat.mul_assoc, ← Nat.pow_add]
  congr 4 <;> omega
theorem fadd_val {p : Nat} {x y : Fl} {k l : Int} (h1 : Val p x k) (h2 : Val p y l) (hp : p ≤ 800) (hk : (k + l).natAbs < 9007199254740992) : Val p (fadd x y) (k + l) := by
  obtain ⟨a, s, m, i, rfl, r1, hi, v1⟩ := h1
  obtain ⟨b, t, n, j, rfl, r2, hj, v2⟩ := h2
  obtain ⟨d, e1, e2⟩ := sum_read (a := a) (b := b) hp hi hj v1 v2 hk
  have : fadd (.bits a) (.bits b) = .bits (Ieee.double.write d) := by
    show farith .add _ _ = _
    have : floatBits .add .f64 a b = some (Ieee.double.write d) := by
      show Ieee.double.add a b = _
      unfold Ieee.Format.add
      rw [r1, r2, e1]; rfl
    simp only [farith, this]
  rw [this]; exact e2
theorem sg_not (s : Bool) (m : Nat) : sg (!s) m = - sg s m := by cases s <;> simp [sg]
theorem fsub_val {p : Nat} {x y : Fl} {k l : Int} (h1 : Val p x k) (h2 : Val p y l) (hp : p ≤ 800) (hk : (k - l).natAbs < 9007199254740992) : Val p (fsub x y) (k - l) := by
  obtain ⟨a, s, m, i, rfl, r1, hi, v1⟩ := h1
  obtain ⟨b, t, n, j, rfl, r2, hj, v2⟩ := h2
  obtain ⟨d, e1, e2⟩ := sum_read (a := a) (b := b) (t := !t) (n := n) (l := -l) hp hi hj v1 (by rw [sg_not, v2, Int.neg_mul]) (by rw [← Int.sub_eq_add_neg]; exact hk)
  have : fsub (.bits a) (.bits b) = .bits (Ieee.double.write d) := by
    show farith .sub _ _ = _
    have : floatBits .sub .f64 a b = some (Ieee.double.write d) := by
      show Ieee.double.sub a b = _
      unfold Ieee.Format.sub
      rw [r1, r2]
      show (Ieee.Datum.sum _ (Ieee.Datum.number (!t) n j)).map _ = _
      rw [e1]; rfl
    simp only [farith, this]
  rw [this, Int.sub_eq_add_neg]; exact e2
theorem sg_prod (s t : Bool) (m n : Nat) : sg (s ^^ t) (m * n) = sg s m * sg t n := by
  cases s <;> cases t <;> simp [sg, Int.neg_mul, Int.mul_neg]
theorem fmul_val {p q : Nat} {x y : Fl} {k l : Int} (h1 : Val p x k) (h2 : Val q y l) (hp : p + q ≤ 800) (hk : (k * l).natAbs < 9007199254740992) : Val (p + q) (fmul x y) (k * l) := by
  obtain ⟨a, s, m, i, rfl, r1, hi, v1⟩ := h1
  obtain ⟨b, t, n, j, rfl, r2, hj, v2⟩ := h2
  have hw : floatBits .mul .f64 a b = some (Ieee.double.nearest (s ^^ t) (m * n) (i + j)) := by
    show Ieee.double.mul a b = _
    unfold Ieee.Format.mul
    rw [r1, r2]; rfl
  have hf : fmul (.bits a) (.bits b) = .bits (Ieee.double.nearest (s ^^ t) (m * n) (i + j)) := by
    show farith .mul _ _ = _
    simp only [farith, hw]
  rw [hf]
  have hab : (sg (s ^^ t) (m * n)).natAbs = m * n := by unfold sg; split <;> omega
  rw [← hab]
  refine val_near (z := 2148) (p := p + q) (k := k * l) (total := sg (s ^^ t) (m * n)) _ hp (by omega) (by omega) hk ?_ (fun h => ?_)
  · rw [← sg_mul]
    have e : m * n * 2 ^ (i + j + ((2148 : Nat) : Int)).toNat = (m * 2 ^ (i + 1074).toNat) * (n * 2 ^ (j + 1074).toNat) := by
      rw [show (i + j + ((2148 : Nat) : Int)).toNat = (i + 1074).toNat + (j + 1074).toNat by omega, Nat.pow_add]
      rw [Nat.mul_assoc, Nat.mul_assoc]
      congr 1
      rw [← Nat.mul_assoc, ← Nat.mul_assoc, Nat.mul_comm n]
    rw [e, sg_prod, v1, v2, show 2148 - (p + q) = (1074 - p) + (1074 - q) by omega, Nat.pow_add, Int.natCast_mul]
    generalize ((2 ^ (1074 - p) : Nat) : Int) = P
    generalize ((2 ^ (1074 - q) : Nat) : Int) = Q
    grind
  · unfold sg at h ⊢
    cases hst : (s ^^ t)
    · rw [hst] at h
      simp only [Bool.false_eq_true, if_false] at h ⊢
      symm; rw [decide_eq_false_iff_not]; omega
    · rw [hst] at h
      simp only [if_true] at h ⊢
      symm; rw [decide_eq_true_eq]; omega
theorem feq_val {p : Nat} {x y : Fl} {k : Int} (h1 : Val p x k) (h2 : Val p y k) : feq x y = true := by
  obtain ⟨a, s, m, i, rfl, r1, hi, v1⟩ := h1
  obtain ⟨b, t, n, j, rfl, r2, hj, v2⟩ := h2
  have : fcmp (.bits a) (.bits b) = some .eq := by
    show (Ieee.double.read a).order (Ieee.double.read b) = _
    rw [r1, r2]
    unfold Ieee.Datum.order
    simp only [signed_eq]
    have hP := pow_pos_i (min i j + 1074).toNat
    have e : sg s (m * 2 ^ (i - min i j).toNat) = sg t (n * 2 ^ (j - min i j).toNat) := by
      apply Int.eq_of_mul_eq_mul_right (a := ((2 ^ (min i j + 1074).toNat : Nat) : Int)) (by omega)
      rw [← sg_mul, ← sg_mul, Nat.mul_assoc, ← Nat.pow_add, Nat.mul_assoc, ← Nat.pow_add, show (i - min i j).toNat + (min i j + 1074).toNat = (i + 1074).toNat by omega, show (j - min i j).toNat + (min i j + 1074).toNat = (j + 1074).toNat by omega, v1, v2]
    rw [e]
    congr 1
    simp
  unfold feq
  rw [this]; rfl
theorem fneg_val {p : Nat} {x : Fl} {k : Int} (h : Val p x k) : Val p (fneg x) (-k) := by
  obtain ⟨a, s, m, i, rfl, r1, hi, v1⟩ := h
  have hr := rung_neg a
  have hs : ((a ^^^ 2 ^ 63) / 9223372036854775808 % 2 == 1) = !(a / 9223372036854775808 % 2 == 1) := by
    have t1 : (a ^^^ 2 ^ 63).testBit 63 = !a.testBit 63 := by rw [Nat.testBit_xor, Nat.testBit_two_pow]; simp
    rw [Nat.testBit_eq_decide_div_mod_eq, Nat.testBit_eq_decide_div_mod_eq] at t1
    exact t1
  rw [show (2 : Nat) ^ 63 = 9223372036854775808 from rfl] at hr hs
  have rd : Ieee.double.read (a ^^^ 9223372036854775808) = (Ieee.double.read a).opposite := by
    rw [read_eq, read_eq, hr, hs]
    split
    · rfl
    · split
      · rfl
      · split <;> rfl
  refine ⟨a ^^^ 9223372036854775808, !s, m, i, rfl, by rw [rd, r1]; rfl, hi, ?_⟩
  rw [sg_not, v1, Int.neg_mul]
/-! ### Order, scale, quotients by 4096 -/
theorem fcmp_val {p : Nat} {x y : Fl} {k l : Int} (h1 : Val p x k) (h2 : Val p y l) : fcmp x y = some (compare k l) := by
  obtain ⟨a, s, m, i, rfl, r1, hi, v1⟩ := h1
  obtain ⟨b, t, n, j, rfl, r2, hj, v2⟩ := h2
  show (Ieee.double.read a).order (Ieee.double.read b) = _
  rw [r1, r2]
  unfold Ieee.Datum.order
  simp only [signed_eq]
  have hP := pow_pos_i (min i j + 1074).toNat
  have hQ := pow_pos_i (1074 - p)
  have e1 : sg s (m * 2 ^ (i - min i j).toNat) * ((2 ^ (min i j + 1074).toNat : Nat) : Int) = k * ((2 ^ (1074 - p) : Nat) : Int) := by
    rw [← sg_mul, Nat.mul_assoc, ← Nat.pow_add, show (i - min i j).toNat + (min i j + 1074).toNat = (i + 1074).toNat by omega, v1]
  have e2 : sg t (n * 2 ^ (j - min i j).toNat) * ((2 ^ (min i j + 1074).toNat : Nat) : Int) = l * ((2 ^ (1074 - p) : Nat) : Int) := by
    rw [← sg_mul, Nat.mul_assoc, ← Nat.pow_add, show (j - min i j).toNat + (min i j + 1074).toNat = (j + 1074).toNat by omega, v2]
  generalize sg s (m * 2 ^ (i - min i j).toNat) = A at *
  generalize sg t (n * 2 ^ (j - min i j).toNat) = B at *
  generalize ((2 ^ (min i j + 1074).toNat : Nat) : Int) = P at *
  generalize ((2 ^ (1074 - p) : Nat) : Int) = K at *
  congr 1
  have lt1 : A < B ↔ k < l := by
    rw [← Int.mul_lt_mul_right hP, e1, e2, Int.mul_lt_mul_right hQ]
  have eq1 : A = B ↔ k = l := by
    constructor
    · intro h
      subst h
      exact Int.eq_of_mul_eq_mul_right (by omega) (e1.symm.trans e2)
    · intro h
      subst h
      exact Int.eq_of_mul_eq_mul_right (by omega) (e1.trans e2.symm)
  show compareOfLessAndEq A B = compareOfLessAndEq k l
  unfold compareOfLessAndEq
  simp only [lt1, eq1]
theorem fgt_val {p : Nat} {x y : Fl} {k l : Int} (h1 : Val p x k) (h2 : Val p y l) : fgt x y = decide (l < k) := by
  unfold fgt
  rw [fcmp_val h1 h2]
  show (some (compareOfLessAndEq k l) == some Ordering.gt) = _
  unfold compareOfLessAndEq
  by_cases h : k < l
  · rw [if_pos h, decide_eq_false (by omega)]; rfl
  · rw [if_neg h]
    by_cases h' : k = l
    · rw [if_pos h', decide_eq_false (by omega)]; rfl
    · rw [if_neg h', decide_eq_true (by omega)]; rfl
theorem feq_ne {p : Nat} {x y : Fl} {k l : Int} (h1 : Val p x k) (h2 : Val p y l) (h : k ≠ l) : feq x y = false := by
  unfold feq
  rw [fcmp_val h1 h2]
  show (some (compareOfLessAndEq k l) == some Ordering.eq) = _
  unfold compareOfLessAndEq
  by_cases h' : k < l
  · rw [if_pos h']; rfl
  · rw [if_neg h', if_neg h]; rfl
theorem val_scale {p d : Nat} {x : Fl} {k : Int} (h : Val p x k) (hd : p + d ≤ 1074) : Val (p + d) x (k * ((2 ^ d : Nat) : Int)) := by
  obtain ⟨b, s, m, e, rfl, r, he, v⟩ := h
  refine ⟨b, s, m, e, rfl, r, he, v.trans ?_⟩
  rw [Int.mul_assoc, ← Int.natCast_mul, ← Nat.pow_add]
  congr 4
  omega
theorem read_lt {b : Nat} {s : Bool} {m : Nat} {e : Int} (h : Ieee.double.read b = .number s m e) : m < 9007199254740992 := by
  rw [read_eq] at h
  split at h
  · cases h; omega
  · split at h
    · cases h; omega
    · split at h <;> cases h
theorem fadd_s {p : Nat} {x y : Fl} {k l : Int} (h1 : Val p x k) (h2 : Val p y l) (hp : p ≤ 800) (hk : (k + l).natAbs < 9007199254740992) : ∃ r, farithS .add x y = some r ∧ Val p r (k + l) := by
  obtain ⟨a, s, m, i, rfl, r1, hi, v1⟩ := h1
  obtain ⟨b, t, n, j, rfl, r2, hj, v2⟩ := h2
  obtain ⟨d, e1, e2⟩ := sum_read (a := a) (b := b) hp hi hj v1 v2 hk
  refine ⟨_, ?_, e2⟩
  have : floatBits .add .f64 a b = some (Ieee.double.write d) := by
    show Ieee.double.add a b = _
    unfold Ieee.Format.add
    rw [r1, r2, e1]; rfl
  simp only [farithS, this]; rfl
theorem quo_s {x : Fl} {k : Int} (h : Val 0 x k) (hk : k.natAbs < 9007199254740992) : ∃ r, farithS .quo x (Fl.bits 4661225614328463360) = some r ∧ Val 12 r k := by
  obtain ⟨a, s, m, i, rfl, r1, hi, v1⟩ := h
  have hm := read_lt r1
  have r2 : Ieee.double.read 4661225614328463360 = .number false 4503599627370496 (-40) := by decide
  have hl : m.log2 ≤ 52 := by
    by_cases h0 : m = 0
    · subst h0; decide
    · have := (Nat.log2_lt h0 (k := 53)).2 (by simpa using hm); omega
  have l52 : (4503599627370496 : Nat).log2 = 52 := by decide
  generalize hmo : 106 - m.log2 = more
  have hq : (m <<< more) / 4503599627370496 = m * 2 ^ (more - 52) := by
    rw [Nat.shiftLeft_eq, show more = (more - 52) + 52 by omega, Nat.pow_add, ← Nat.mul_assoc, show (4503599627370496 : Nat) = 2 ^ 52 by decide, Nat.mul_div_cancel _ (by decide)]
    congr 1
  have hr : (m <<< more) % 4503599627370496 = 0 := by
    rw [Nat.shiftLeft_eq, show more = (more - 52) + 52 by omega, Nat.pow_add, ← Nat.mul_assoc, show (4503599627370496 : Nat) = 2 ^ 52 by decide, Nat.mul_mod_left]
  have hw : floatBits .quo .f64 a 4661225614328463360 = some (Ieee.double.nearest s (2 * (m * 2 ^ (more - 52))) (i + 40 - more - 1)) := by
    show Ieee.double.div a 4661225614328463360 = _
    unfold Ieee.Format.div
    rw [r1, r2]
    unfold Ieee.Datum.quotient
    simp only [l52]
    rw [if_neg (by decide)]
    have e54 : Ieee.double.fractionBits + 2 + 52 - m.log2 = more := by
      show 52 + 2 + 52 - m.log2 = more
      omega
    rw [e54, hq, hr]
    show some (Ieee.double.nearest (s ^^ false) (2 * (m * 2 ^ (more - 52)) + 0) (i - -40 - more - 1)) = _
    rw [Bool.xor_false, Nat.add_zero, Int.sub_neg]
  refine ⟨_, by simp only [farithS, hw]; rfl, ?_⟩
  have hab : (sg s (2 * (m * 2 ^ (more - 52)))).natAbs = 2 * (m * 2 ^ (more - 52)) := by unfold sg; split <;> omega
  rw [← hab]
  refine val_near (z := 1374) (p := 12) (k := k) (total := sg s (2 * (m * 2 ^ (more - 52)))) s (by decide) (by decide) (by omega) hk ?_ (fun h => ?_)
  · rw [← sg_mul]
    have e : 2 * (m * 2 ^ (more - 52)) * 2 ^ (i + 40 - more - 1 + ((1374 : Nat) : Int)).toNat = m * 2 ^ (i + 1074).toNat * 2 ^ (1374 - 12 - 1074) := by
      rw [show 2 * (m * 2 ^ (more - 52)) = m * 2 ^ (more - 51) by rw [show more - 51 = more - 52 + 1 by omega, Nat.pow_succ]; generalize 2 ^ (more - 52) = X; rw [Nat.mul_comm X 2, ← Nat.mul_assoc, ← Nat.mul_assoc, Nat.mul_comm 2 m]]
      rw [Nat.mul_assoc, ← Nat.pow_add, Nat.mul_assoc, ← Nat.pow_add]
      congr 2
      omega
    rw [e, sg_mul, v1, Int.mul_assoc, ← Int.natCast_mul, ← Nat.pow_add]
  · unfold sg at h ⊢
    cases s
    · simp only [Bool.false_eq_true, if_false] at h ⊢
      symm; rw [decide_eq_false_iff_not]; omega
    · simp only [if_true] at h ⊢
      symm; rw [decide_eq_true_eq]; omega
/-! ### Depth -/
theorem Depth_both (a b : Int) : ∃ v, f_plane_Gauss_Depth a b = some v ∧ f_foghornref03_Depth a b = some v := by
  cases h1 : mb a b
  · unfold f_plane_Gauss_Depth f_foghornref03_Depth
    rw [may_c, may_r, h1]
    exact ⟨_, rfl, rfl⟩
  obtain ⟨g0, g1⟩ := mb_bd h1
  by_cases hz : a = 0 ∧ b = 0
  · obtain ⟨rfl, rfl⟩ := hz
    exact ⟨(0, 6), rfl, rfl⟩
  · obtain ⟨n, e1, e2, e3⟩ := depth_ok (g := (a, b)) ⟨g0, g1⟩ hz
    refine ⟨_, e1, ?_⟩
    have hN := n_pos hz
    have z1 : ∀ j, j < n → bt (GG (a, b) j) = 0 := (CC_zero (a, b) n).1 ((e2 n).2 (Nat.le_refl _))
    have z2 : bt (GG (a, b) n) = 1 := by
      have hb := bt_b (GG (a, b) n)
      have : ¬ bt (GG (a, b) n) = 0 := fun h0 => by
        have := (e2 (n + 1)).1 ((CC_zero (a, b) (n + 1)).2 fun j hj => by
          by_cases e : j = n
          · subst e; exact h0
          · exact z1 j (by omega))
        omega
      omega
    unfold f_foghornref03_Depth
    rw [may_r, h1]
    simp only [Option.bind_some, Bool.not_true, Bool.false_eq_true, if_false]
    rw [rnorm_ok g0 g1]
    simp only [Option.bind_some]
    rw [if_neg (by rw [beq_iff_eq]; omega)]
    have key : ∀ m i : Nat, i + m = n → loop f_foghornref03_Depth.s1 ((GG (a, b) i).1, (GG (a, b) i).2, (i : Int)) = some ((n : Int), 0) := by
      intro m
      induction m with
      | zero =>
        intro i hi
        obtain rfl : i = n := by omega
        apply loop_done
        simp only [f_foghornref03_Depth.s1, f_foghornref03_Depth.s1c]
        rw [rstep_ok (GG_bd (g := (a, b)) ⟨g0, g1⟩ i)]
        simp only [Option.bind_some]
        rw [z2]; rfl
      | succ m ih =>
        intro i hi
        rw [← ih (i + 1) (by omega)]
        apply loop_step
        simp only [f_foghornref03_Depth.s1, f_foghornref03_Depth.s1c]
        rw [rstep_ok (GG_bd (g := (a, b)) ⟨g0, g1⟩ i)]
        simp only [Option.bind_some]
        rw [z1 i (by omega), if_neg (by decide), w64 (by omega) (by omega)]; rfl
    have this2 : loop f_foghornref03_Depth.s1 (a, b, 0) = some ((n : Int), 0) := key n 0 (by omega)
    rw [this2]; rfl
/-! ### Floats made whole -/
theorem cut_zero (s : Bool) (n drop : Nat) : Ieee.Toward.zero.cut s n drop = n / 2 ^ drop := by
  unfold Ieee.Toward.cut
  simp only [Nat.one_shiftLeft, Bool.toNat_false, Nat.add_zero]
  by_cases h : drop ≤ n.log2 + 2
  · rw [Nat.min_eq_left h]
  · rw [Nat.min_eq_right (by omega)]
    have h1 : n < 2 ^ (n.log2 + 1) := Nat.lt_log2_self
    have h2 : 2 ^ (n.log2 + 1) ≤ 2 ^ (n.log2 + 2) := Nat.pow_le_pow_right (by decide) (by omega)
    have h3 : 2 ^ (n.log2 + 1) ≤ 2 ^ drop := Nat.pow_le_pow_right (by decide) (by omega)
    rw [Nat.div_eq_of_lt (by omega), Nat.div_eq_of_lt (by omega)]
theorem cut_down (s : Bool) (n drop : Nat) : Ieee.Toward.down.cut s n drop = n / 2 ^ drop + (if s = true ∧ n % 2 ^ drop ≠ 0 then 1 else 0) := by
  unfold Ieee.Toward.cut
  simp only [Nat.one_shiftLeft]
  have key : ∀ r : Nat, (s && r != 0).toNat = if s = true ∧ r ≠ 0 then 1 else 0 := by
    intro r
    cases s
    · simp
    · by_cases h : r = 0
      · subst h; rfl
      · rw [if_pos ⟨rfl, h⟩, bne_iff_ne.2 h]; rfl
  rw [key]
  by_cases h : drop ≤ n.log2 + 2
  · rw [Nat.min_eq_left h]
  · rw [Nat.min_eq_right (by omega)]
    have h1 : n < 2 ^ (n.log2 + 1) := Nat.lt_log2_self
    have h2 : 2 ^ (n.log2 + 1) ≤ 2 ^ (n.log2 + 2) := Nat.pow_le_pow_right (by decide) (by omega)
    have h3 : 2 ^ (n.log2 + 1) ≤ 2 ^ drop := Nat.pow_le_pow_right (by decide) (by omega)
    rw [Nat.div_eq_of_lt (by omega), Nat.div_eq_of_lt (by omega), Nat.mod_eq_of_lt (by omega), Nat.mod_eq_of_lt (by omega)]
theorem sg_natAbs (s : Bool) (m : Nat) : (sg s m).natAbs = m := by unfold sg; split <;> omega
theorem whole_val (s : Bool) {K : Nat} (hK : K < 9007199254740992) : Val 0 (.bits (Ieee.double.nearest s K 0)) (sg s K) := by
  have := val_near s (z := 0) (p := 0) (k := sg s K) (total := sg s K) (place := 0) (by decide) (by decide) (by decide) (by rw [sg_natAbs]; exact hK) rfl (fun h => by
    unfold sg at h ⊢
    cases s
    · simp only [Bool.false_eq_true, if_false] at h ⊢
      symm; rw [decide_eq_false_iff_not]; omega
    · simp only [if_true] at h ⊢
      symm; rw [decide_eq_true_eq]; omega)
  rw [sg_natAbs] at this
  exact this
theorem fint_num (way : Ieee.Toward) {a : Nat} {s : Bool} {m : Nat} {e : Int} (h : Ieee.double.read a = .number s m e) : fint way (.bits a) = .bits (Ieee.double.nearest s (way.cut s (m * 2 ^ e.toNat) (-e).toNat) 0) := by
  have h' : FloatKind.f64.decode a = .number s m e := h
  simp only [fint, h']
  show Fl.bits (Ieee.double.nearest s (way.cut s (m <<< e.toNat) (-e).toNat) 0) = _
  rw [Nat.shiftLeft_eq]
theorem feq_dec {p : Nat} {x y : Fl} {k l : Int} (h1 : Val p x k) (h2 : Val p y l) : feq x y = decide (k = l) := by
  by_cases h : k = l
  · subst h; rw [feq_val h1 h2, decide_eq_true rfl]
  · rw [feq_ne h1 h2 h, decide_eq_false h]
theorem fle_dec {p : Nat} {x y : Fl} {k l : Int} (h1 : Val p x k) (h2 : Val p y l) : fle x y = decide (k ≤ l) := by
  unfold fle
  rw [fcmp_val h1 h2]
  show (some (compareOfLessAndEq k l) == some Ordering.lt || some (compareOfLessAndEq k l) == some Ordering.eq) = _
  unfold compareOfLessAndEq
  by_cases h : k < l
  · rw [if_pos h, decide_eq_true (by omega)]; rfl
  · rw [if_neg h]
    by_cases h' : k = l
    · rw [if_pos h', decide_eq_true (by omega)]; rfl
    · rw [if_neg h', decide_eq_false (by omega)]; rfl
theorem fge_dec {p : Nat} {x y : Fl} {k l : Int} (h1 : Val p x k) (h2 : Val p y l) : fge x y = decide (l ≤ k) := by
  unfold fge
  rw [fcmp_val h1 h2]
  show (some (compareOfLessAndEq k l) == some Ordering.gt || some (compareOfLessAndEq k l) == some Ordering.eq) = _
  unfold compareOfLessAndEq
  by_cases h : k < l
  · rw [if_pos h, decide_eq_false (by omega)]; rfl
  · rw [if_neg h]
    by_cases h' : k = l
    · rw [if_pos h', decide_eq_true (by omega)]; rfl
    · rw [if_neg h', decide_eq_true (by omega)]; rfl
theorem c30 : Val 1074 (Fl.bits 4742290407621132288) (1073741824 * ((2 ^ 1074 : Nat) : Int)) := by
  have : Val 0 (Fl.bits 4742290407621132288) 1073741824 := ⟨_, false, 4503599627370496, -22, rfl, by decide, by decide, by decide +kernel⟩
  have := val_scale (d := 1074) this (by decide)
  rwa [Nat.zero_add] at this
theorem m30 : Val 1074 (Fl.bits 13965662444475908096) (-1073741824 * ((2 ^ 1074 : Nat) : Int)) := by
  have : Val 0 (Fl.bits 13965662444475908096) (-1073741824) := ⟨_, true, 4503599627370496, -22, rfl, by decide, by decide, by decide +kernel⟩
  have := val_scale (d := 1074) this (by decide)
  rwa [Nat.zero_add] at this
theorem abs_bits {a : Nat} (ha : a < 18446744073709551616) : (iandn .u64 (a : Int) 9223372036854775808).toNat = a % 9223372036854775808 := by
  have h1 : (BitVec.ofInt IntKind.u64.bits (a : Int) &&& ~~~(BitVec.ofInt IntKind.u64.bits 9223372036854775808)).toNat = a % 9223372036854775808 := by
    rw [BitVec.toNat_and]
    show (BitVec.ofInt 64 (a : Int)).toNat &&& (~~~(BitVec.ofInt 64 9223372036854775808)).toNat = _
    have e3 : (~~~(BitVec.ofInt 64 9223372036854775808)).toNat = 2 ^ 63 - 1 := by decide
    rw [e3, Nat.and_two_pow_sub_one_eq_mod, BitVec.ofInt_natCast, BitVec.toNat_ofNat]
    omega
  unfold iandn
  rw [h1]
  have : IntKind.u64.wrap ((a % 9223372036854775808 : Nat) : Int) = ((a % 9223372036854775808 : Nat) : Int) := by
    simp [IntKind.wrap, IntKind.bits, IntKind.signed, IntKind.min, IntKind.max]
    omega
  rw [this]; omega
theorem abs_read {a : Nat} : Ieee.double.read (a % 9223372036854775808) = (match Ieee.double.read a with | .number _ m e => .number false m e | .infinity _ => .infinity false | .nan _ t => .nan false t) := by
  have h1 : a % 9223372036854775808 % 9223372036854775808 = a % 9223372036854775808 := Nat.mod_mod _ _
  have h2 : (a % 9223372036854775808 / 9223372036854775808 % 2 == 1) = false := by rw [beq_eq_false_iff_ne]; omega
  rw [read_eq, read_eq a, h1, h2]
  split
  · rfl
  · split
    · rfl
    · split <;> rfl
theorem dv_sg (s : Bool) {n G K : Nat} {W : Int} (hW : 0 < W) : sg s K * ((G : Int) * W) = sg s n * W ↔ K * G = n := by
  have e : sg s K * ((G : Int) * W) = sg s (K * G) * W := by rw [sg_mul, Int.mul_assoc]
  rw [e]
  constructor
  · intro h
    have h2 := Int.eq_of_mul_eq_mul_right (by omega) h
    have := congrArg Int.natAbs h2
    rwa [sg_natAbs, sg_natAbs] at this
  · intro h; rw [h]
/-- the two ways to ask whether a float is whole -/
theorem fits_both {a : Nat} (ha : a < 18446744073709551616) : (f_plane_Whole_1 (.bits a) = some false ∧ f_foghornref03_whole (.bits a) = some (0, false)) ∨ (∃ q, f_plane_Whole_1 (.bits a) = some true ∧ f_foghornref03_whole (.bits a) = some (q, true) ∧ ftoi .i64 (.bits a) = some q) := by
  have hab : f_math_Abs (.bits a) = some (.bits (a % 9223372036854775808)) := by
    unfold f_math_Abs
    show some (Fl.bits ((iandn .u64 (a : Int) 9223372036854775808).toNat)) = _
    rw [abs_bits ha]
  unfold f_plane_Whole_1 f_foghornref03_whole f_math_Trunc f_math_Floor
  rw [hab]
  simp only [Option.bind_some]
  cases hr : Ieee.double.read a with
  | nan s t =>
    left
    have c1 : fle (.bits (a % 9223372036854775808)) (.bits 4742290407621132288) = false := by
      have : fcmp (.bits (a % 9223372036854775808)) (.bits 4742290407621132288) = none := by
        show (Ieee.double.read _).order _ = none
        rw [abs_read, hr]; rfl
      unfold fle; rw [this]; rfl
    have c2 : fge (.bits a) (.bits 13965662444475908096) = false := by
      have : fcmp (.bits a) (.bits 13965662444475908096) = none := by
        show (Ieee.double.read _).order _ = none
        rw [hr]; rfl
      unfold fge; rw [this]; rfl
    rw [c1, c2]
    exact ⟨rfl, rfl⟩
  | infinity s =>
    left
    have c1 : fle (.bits (a % 9223372036854775808)) (.bits 4742290407621132288) = false := by
      have : fcmp (.bits (a % 9223372036854775808)) (.bits 4742290407621132288) = some .gt := by
        show (Ieee.double.read _).order (Ieee.double.read 4742290407621132288) = _
        rw [abs_read, hr, show Ieee.double.read 4742290407621132288 = .number false 4503599627370496 (-22) by decide]; rfl
      unfold fle; rw [this]; rfl
    have c2 : ((fge (.bits a) (.bits 13965662444475908096)) && (fle (.bits a) (.bits 4742290407621132288))) = false := by
      have h1 : fcmp (.bits a) (.bits 13965662444475908096) = some (if s then .lt else .gt) := by
        show (Ieee.double.read _).order (Ieee.double.read 13965662444475908096) = _
        rw [hr, show Ieee.double.read 13965662444475908096 = .number true 4503599627370496 (-22) by decide]; rfl
      have h2 : fcmp (.bits a) (.bits 4742290407621132288) = some (if s then .lt else .gt) := by
        show (Ieee.double.read _).order (Ieee.double.read 4742290407621132288) = _
        rw [hr, show Ieee.double.read 4742290407621132288 = .number false 4503599627370496 (-22) by decide]; rfl
      unfold fge fle
      rw [h1, h2]
      cases s <;> rfl
    rw [c1, c2]
    exact ⟨rfl, rfl⟩
  | number s m e =>
    have he : -1074 ≤ e := by
      rw [read_eq] at hr
      split at hr
      · cases hr; omega
      · split at hr
        · cases hr; omega
        · split at hr <;> cases hr
    have one : (2 : Nat) ^ (1074 - 1074) = 1 := rfl
    have vx : Val 1074 (.bits a) (sg s (m * 2 ^ (e + 1074).toNat)) := ⟨a, s, m, e, rfl, hr, he, by rw [one, Int.natCast_one, Int.mul_one]⟩
    have va : Val 1074 (.bits (a % 9223372036854775808)) ((m * 2 ^ (e + 1074).toNat : Nat) : Int) := ⟨_, false, m, e, rfl, by rw [abs_read, hr], he, by rw [one, Int.natCast_one, Int.mul_one]; rfl⟩
    rw [fle_dec va c30, fge_dec vx m30, fle_dec vx c30, fint_num _ hr, fint_num _ hr, cut_zero, cut_down]
    -- the number as a multiple of the last digit
    obtain ⟨n, drop, hn, hdrop, hd, hX, hD⟩ : ∃ n drop : Nat, m * 2 ^ e.toNat = n ∧ (-e).toNat = drop ∧ drop ≤ 1074 ∧ m * 2 ^ (e + 1074).toNat = n * 2 ^ (1074 - drop) ∧ 2 ^ 1074 = 2 ^ drop * 2 ^ (1074 - drop) := by
      refine ⟨_, _, rfl, rfl, by omega, ?_, by rw [← Nat.pow_add]; congr 1; omega⟩
      rw [Nat.mul_assoc, ← Nat.pow_add]
      congr 2
      omega
    have vs : ∀ {x : Fl} {k : Int}, Val 0 x k → Val 1074 x (k * ((2 ^ drop * 2 ^ (1074 - drop) : Nat) : Int)) := fun h => by
      have := val_scale (d := 1074) h (by decide)
      rw [Nat.zero_add, hD] at this
      exact this
    rw [hn, hdrop, hX, hD]
    rw [hX] at vx
    clear hD
    have hGp := Nat.two_pow_pos drop
    have hWp := Nat.two_pow_pos (1074 - drop)
    generalize hG : 2 ^ drop = G at *
    generalize hW : 2 ^ (1074 - drop) = W at *
    by_cases hc : n ≤ 1073741824 * G
    · have i1 : ((n * W : Nat) : Int) ≤ 1073741824 * ((G * W : Nat) : Int) := by
        have := Nat.mul_le_mul_right W hc
        rw [Nat.mul_assoc] at this
        omega
      have i2 : sg s (n * W) ≤ 1073741824 * ((G * W : Nat) : Int) := by unfold sg; split <;> omega
      have i3 : -1073741824 * ((G * W : Nat) : Int) ≤ sg s (n * W) := by
        rw [Int.neg_mul]; unfold sg; split <;> omega
      rw [decide_eq_true i1, decide_eq_true i2, decide_eq_true i3]
      have hK0 : n / G ≤ 1073741824 := Nat.div_le_of_le_mul (by rw [Nat.mul_comm]; exact hc)
      have t1 : feq (.bits (Ieee.double.nearest s (n / G) 0)) (.bits a) = decide (n % G = 0) := by
        have w1 := vs (whole_val s (K := n / G) (by omega))
        rw [feq_dec w1 vx, sg_mul, Int.natCast_mul]
        congr 1
        have hW' : (0 : Int) < (W : Int) := by omega
        rw [dv_sg s hW']
        apply propext
        have := Nat.div_add_mod n G
        rw [Nat.mul_comm]
        omega
      have t2 : feq (.bits (Ieee.double.nearest s (n / G + (if s = true ∧ n % G ≠ 0 then 1 else 0)) 0)) (.bits a) = decide (n % G = 0) := by
        have w1 := vs (whole_val s (K := n / G + (if s = true ∧ n % G ≠ 0 then 1 else 0)) (by split <;> omega))
        rw [feq_dec w1 vx, sg_mul, Int.natCast_mul]
        congr 1
        have hW' : (0 : Int) < (W : Int) := by omega
        rw [dv_sg s hW']
        apply propext
        have h1 := Nat.div_add_mod n G
        have h2 := Nat.mod_lt n hGp
        rw [Nat.mul_comm, Nat.mul_add]
        split
        · omega
        · rename_i hs
          constructor
          · intro h; omega
          · intro h; omega
      have hfne : ∀ x y : Fl, fne x y = !feq x y := fun _ _ => rfl
      rw [t1, hfne, t2]
      by_cases hw : n % G = 0
      · right
        have hq : ftoi .i64 (.bits a) = some (sg s (n / G)) := by
          show floatToIntVal .f64 a .i64 = _
          unfold floatToIntVal
          have h' : FloatKind.f64.decode a = .number s m e := hr
          rw [h']
          have : (Ieee.Datum.number s m e).toInt .zero = some (sg s (n / G)) := by
            show some (Ieee.signed s (Ieee.Toward.zero.cut s (m <<< e.toNat) (-e).toNat) 0) = _
            rw [Nat.shiftLeft_eq, cut_zero, hn, hdrop, hG, signed_eq, Nat.pow_zero, Nat.mul_one]
          rw [this]
          simp only
          have e1 : IntKind.i64.min = -9223372036854775808 := by decide
          have e2 : IntKind.i64.max = 9223372036854775807 := by decide
          have hb : -1073741824 ≤ sg s (n / G) ∧ sg s (n / G) ≤ 1073741824 := by
            generalize n / G = K at hK0
            unfold sg
            split <;> omega
          rw [if_pos (by rw [e1, e2]; omega)]
        refine ⟨_, ?_, ?_, hq⟩
        · rw [decide_eq_true hw]; rfl
        · rw [decide_eq_true hw]
          simp only [Bool.and_self, Bool.not_true, Bool.false_eq_true, if_false, Option.bind_some]
          rw [hq]; rfl
      · left
        rw [decide_eq_false hw]
        exact ⟨rfl, rfl⟩
    · left
      have i1 : ¬ ((n * W : Nat) : Int) ≤ 1073741824 * ((G * W : Nat) : Int) := by
        intro h
        have h2 : n * W ≤ 1073741824 * (G * W) := by omega
        rw [← Nat.mul_assoc] at h2
        exact hc (Nat.le_of_mul_le_mul_right h2 hWp)
      have i2 : (decide (-1073741824 * ((G * W : Nat) : Int) ≤ sg s (n * W)) && decide (sg s (n * W) ≤ 1073741824 * ((G * W : Nat) : Int))) = false := by
        rw [Bool.and_eq_false_iff]
        cases s
        · right; rw [decide_eq_false_iff_not]; exact i1
        · left
          rw [decide_eq_false_iff_not, Int.neg_mul]
          unfold sg
          simp only [if_true]
          omega
      rw [decide_eq_false i1, i2]
      exact ⟨rfl, rfl⟩
theorem Whole_both {a b : Nat} (ha : a < 18446744073709551616) (hb : b < 18446744073709551616) : ∃ v, f_plane_Whole (.bits a, .bits b) = some v ∧ f_foghornref03_Whole (.bits a, .bits b) = some v := by
  unfold f_plane_Whole f_foghornref03_Whole
  rcases fits_both ha with ⟨e1, e2⟩ | ⟨q, e1, e2, e3⟩ <;> rcases fits_both hb with ⟨f1, f2⟩ | ⟨r, f1, f2, f3⟩
  · simp only [e1, e2, f1, f2, Option.bind_some]; exact ⟨_, rfl, rfl⟩
  · simp only [e1, e2, f1, f2, Option.bind_some]; exact ⟨_, rfl, rfl⟩
  · simp only [e1, e2, f1, f2, Option.bind_some]; exact ⟨_, rfl, rfl⟩
  · simp only [e1, e2, f1, f2, e3, f3, Option.bind_some]; exact ⟨_, rfl, rfl⟩
/-! ### The law -/
theorem fofi_self {k : Int} : feq (fofi k) (fofi k) = true := by
  have h : ∃ b, fofi k = .bits b ∧ ∀ s t, Ieee.double.read b ≠ .nan s t := by
    refine ⟨_, rfl, ?_⟩
    intro s t
    show Ieee.double.read (Ieee.double.nearest (k < 0) k.natAbs 0) ≠ _
    have key : ∀ (neg : Bool) (r : Nat), r ≤ 9218868437227405312 → Ieee.double.read (Ieee.double.word neg r) ≠ .nan s t := by
      intro neg r hr
      rw [word_eq, read_eq]
      generalize hw : (if neg then 9223372036854775808 + r else r) = w
      have w1 : w % 9223372036854775808 = r := by
        cases neg
        · simp at hw; omega
        · simp at hw; omega
      rw [w1]
      split
      · intro h; cases h
      · split
        · intro h; cases h
        · rw [if_pos (by omega)]; intro h; cases h
    unfold Ieee.Format.nearest
    split
    · exact key _ _ (by decide)
    · exact key _ _ (Nat.min_le_right _ _)
  obtain ⟨b, hb, hn⟩ := h
  rw [hb]
  unfold feq
  have : fcmp (.bits b) (.bits b) = some .eq := by
    show (Ieee.double.read b).order (Ieee.double.read b) = _
    cases hr : Ieee.double.read b with
    | nan s t => exact absurd hr (hn s t)
    | infinity s => simp [Ieee.Datum.order]
    | number s m e => simp [Ieee.Datum.order]
  rw [this]; rfl
theorem wf_f64 {a : Nat} (h : (Lit.float .f64 a).wf = true) : a < 18446744073709551616 := by
  simp [Lit.wf] at h
  omega
theorem whole_true (a0 : Int) (u0 : (Lit.int .i64 a0).wf = true) (a1 : Int) (u1 : (Lit.int .i64 a1).wf = true) (b0 : Int) (u2 : (Lit.int .i64 b0).wf = true) (b1 : Int) (u3 : (Lit.int .i64 b1).wf = true)
    (depth : Int) (u4 : (Lit.int .i64 depth).wf = true) (cl : Int) (u5 : (Lit.int .u32 cl).wf = true) (z0 : Nat) (u6 : (Lit.float .f64 z0).wf = true) (z1 : Nat) (u7 : (Lit.float .f64 z1).wf = true) :
    f_foghornlaw03_PlaneWhole a0 a1 b0 b1 depth cl (.bits z0) (.bits z1) = some true := by
  obtain ⟨t, t1, t2⟩ := Times_both a0 a1 b0 b1
  obtain ⟨n, n1, n2⟩ := Norm_both a0 a1
  obtain ⟨y, y1, y2⟩ := By_both a0 a1 b0 b1
  obtain ⟨g, g1, g2⟩ := Gcd_both a0 a1 b0 b1
  obtain ⟨k, k1, k2⟩ := Class_both a0 a1 depth
  have hcl := wf_u32 u5
  obtain ⟨c, rfl⟩ : ∃ c : Nat, cl = (c : Int) := ⟨cl.toNat, by omega⟩
  obtain ⟨f, f1, f2⟩ := First_both c (by omega) depth
  obtain ⟨d, d1, d2⟩ := Depth_both a0 a1
  obtain ⟨w, w1, w2⟩ := Whole_both (wf_f64 u6) (wf_f64 u7)
  have hown : ∀ x y, f_foghornlaw03_own x y = some (x, y) := fun _ _ => rfl
  have href : ∀ x y, f_foghornlaw03_ref x y = some (x, y) := fun _ _ => rfl
  have hnum : ∀ x y, f_foghornlaw03_number x y = some (x, y) := fun _ _ => rfl
  have hN : ∀ x y, f_plane_Gauss_Number x y = some (fofi x, fofi y) := fun _ _ => rfl
  have hceq : ceq (fofi a0, fofi a1) (fofi a0, fofi a1) = true := by
    unfold ceq
    rw [fofi_self, fofi_self]; rfl
  unfold f_foghornlaw03_PlaneWhole
  simp only [hown, href, hnum, hN, t1, t2, n1, n2, Option.bind_some, beq_self_eq_true, Bool.and_self, Bool.not_true, bne_self_eq_false, Bool.or_self, Bool.false_eq_true, if_false]
  simp only [y1, y2, g1, g2, k1, k2, Option.bind_some, beq_self_eq_true, Bool.and_self, Bool.not_true, bne_self_eq_false, Bool.or_self, Bool.false_eq_true, if_false, Bool.and_true]
  simp only [f1, f2, d1, d2, w1, w2, hceq, awake_true, Option.bind_some, beq_self_eq_true, Bool.and_self, Bool.not_true, bne_self_eq_false, Bool.or_self, Bool.false_eq_true, if_false, if_true, Bool.and_true]

end Go.Proofs.Yteifkccomfdciaa
