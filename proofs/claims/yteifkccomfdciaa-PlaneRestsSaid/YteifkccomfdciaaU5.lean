/- PlaneRests: the plain law. -/
import Derived.Test.YteifkccomfdciaaG5
import Derived.Test.YteifkccomfdciaaGlW
set_option linter.unusedVariables false
set_option linter.unusedSimpArgs false
set_option maxRecDepth 8000
namespace Go.Proofs.Yteifkccomfdciaa
open GL Go

theorem awake_true : f_foghornlaw03_awake = some true := by
  have h1 : loop (f_plane_Gauss_Class.s1 3) (3, 2, 0, 0) = some 1 := loop_iff.2 ⟨4, by decide +kernel⟩
  have h2 : f_plane_Gauss_Class 3 2 3 = some (1, 0) := by
    unfold f_plane_Gauss_Class
    rw [h1]; rfl
  have h3 : f_plane_Mul (Fl.bits 4607182418800017408, Fl.bits 4611686018427387904) (Fl.bits 4613937818241073152, Fl.bits 13830554455654793216) = some (Fl.bits 4617315517961601024, Fl.bits 4617315517961601024) := by decide +kernel
  have h4 : f_plane_Turn (Fl.bits 4607182418800017408, Fl.bits 4611686018427387904) 1 = some (Fl.bits 13835058055282163712, Fl.bits 4607182418800017408) := by decide +kernel
  unfold f_foghornlaw03_awake
  rw [h2, h3, h4]
  decide +kernel
/-! ### Whole numbers of the plane -/
theorem wf_i16 {x : Int} (h : (Lit.int .i16 x).wf = true) : -32768 ≤ x ∧ x < 32768 := by
  simp [Lit.wf, IntKind.min, IntKind.max, IntKind.bits, IntKind.signed] at h
  omega
def Bd (x : Int) : Prop := -8388608 ≤ x ∧ x ≤ 8388608
theorem Bd.sq {x : Int} (h : Bd x) : 0 ≤ x * x ∧ x * x ≤ 70368744177664 := by
  obtain ⟨h1, h2⟩ := h
  have h3 : 0 ≤ (8388608 - x) * (8388608 + x) := Int.mul_nonneg (by omega) (by omega)
  have h4 : (8388608 - x) * (8388608 + x) = 70368744177664 - x * x := by grind
  have h5 : 0 ≤ x * x := by
    by_cases h0 : 0 ≤ x
    · exact Int.mul_nonneg h0 h0
    · exact Int.mul_nonneg_of_nonpos_of_nonpos (by omega) (by omega)
  omega
theorem sq_nn (x : Int) : 0 ≤ x * x := by
  by_cases h0 : 0 ≤ x
  · exact Int.mul_nonneg h0 h0
  · exact Int.mul_nonneg_of_nonpos_of_nonpos (by omega) (by omega)
theorem sq_ge (x : Int) : x ≤ x * x ∧ -x ≤ x * x := by
  by_cases h0 : x = 0
  · subst h0; decide
  · by_cases hp : 0 < x
    · have : 0 ≤ x * (x - 1) := Int.mul_nonneg (by omega) (by omega)
      have e : x * (x - 1) = x * x - x := by grind
      omega
    · have : 0 ≤ (-x) * (-x - 1) := Int.mul_nonneg (by omega) (by omega)
      have e : (-x) * (-x - 1) = x * x + x := by grind
      omega
/-- a product against a square -/
theorem mul_bd {g o C : Int} (hC : 0 ≤ C) (h : -C ≤ g ∧ g ≤ C) : g * o ≤ C * (o * o) ∧ -(C * (o * o)) ≤ g * o := by
  have s1 : 0 ≤ C * (o * o - o) := Int.mul_nonneg hC (by have := sq_ge o; omega)
  have s2 : 0 ≤ C * (o * o + o) := Int.mul_nonneg hC (by have := sq_ge o; omega)
  have e1 : C * (o * o - o) = C * (o * o) - C * o := by grind
  have e2 : C * (o * o + o) = C * (o * o) + C * o := by grind
  by_cases ho : 0 ≤ o
  · have m1 : 0 ≤ (C - g) * o := Int.mul_nonneg (by omega) ho
    have m2 : 0 ≤ (C + g) * o := Int.mul_nonneg (by omega) ho
    have e3 : (C - g) * o = C * o - g * o := by grind
    have e4 : (C + g) * o = C * o + g * o := by grind
    omega
  · have m1 : 0 ≤ (C - g) * (-o) := Int.mul_nonneg (by omega) (by omega)
    have m2 : 0 ≤ (C + g) * (-o) := Int.mul_nonneg (by omega) (by omega)
    have e3 : (C - g) * (-o) = g * o - C * o := by grind
    have e4 : (C + g) * (-o) = - (C * o) - g * o := by grind
    omega
theorem mul_bd2 {g o C D : Int} (hC : 0 ≤ C) (hD : 0 ≤ D) (h : -C ≤ g ∧ g ≤ C) (k : -D ≤ o ∧ o ≤ D) : g * o ≤ C * D ∧ -(C * D) ≤ g * o := by
  have a1 : 0 ≤ (C - g) * (D + o) := Int.mul_nonneg (by omega) (by omega)
  have a2 : 0 ≤ (C + g) * (D - o) := Int.mul_nonneg (by omega) (by omega)
  have a3 : 0 ≤ (C - g) * (D - o) := Int.mul_nonneg (by omega) (by omega)
  have a4 : 0 ≤ (C + g) * (D + o) := Int.mul_nonneg (by omega) (by omega)
  have e1 : (C - g) * (D + o) = C * D + C * o - g * D - g * o := by grind
  have e2 : (C + g) * (D - o) = C * D - C * o + g * D - g * o := by grind
  have e3 : (C - g) * (D - o) = C * D - C * o - g * D + g * o := by grind
  have e4 : (C + g) * (D + o) = C * D + C * o + g * D + g * o := by grind
  omega
theorem may_ok {x y : Int} (hx : -1073741824 ≤ x ∧ x ≤ 1073741824) (hy : -1073741824 ≤ y ∧ y ≤ 1073741824) : f_plane_Gauss_may x y = some true := by
  unfold f_plane_Gauss_may
  congr 1
  simp only [Bool.and_eq_true, decide_eq_true_eq]
  omega
theorem Bd.may {x y : Int} (hx : Bd x) (hy : Bd y) : f_plane_Gauss_may x y = some true := may_ok (by unfold Bd at hx; omega) (by unfold Bd at hy; omega)
theorem times_ok {a b c d C D : Int} (hC : 0 ≤ C) (hD : 0 ≤ D) (ha : -C ≤ a ∧ a ≤ C) (hb : -C ≤ b ∧ b ≤ C) (hc : -D ≤ c ∧ c ≤ D) (hd : -D ≤ d ∧ d ≤ D) (hCD : C * D ≤ 4611686018427387903) :
    f_plane_Gauss_times a b c d = some (a * c - b * d, a * d + b * c) := by
  unfold f_plane_Gauss_times
  have h1 := mul_bd2 hC hD ha hc
  have h2 := mul_bd2 hC hD hb hd
  have h3 := mul_bd2 hC hD ha hd
  have h4 := mul_bd2 hC hD hb hc
  rw [w64 (x := a * c) (by omega) (by omega), w64 (x := b * d) (by omega) (by omega), w64 (x := a * d) (by omega) (by omega), w64 (x := b * c) (by omega) (by omega), w64 (by omega) (by omega), w64 (by omega) (by omega)]
theorem norm_ok {x y : Int} (hx : Bd x) (hy : Bd y) : f_plane_Gauss_norm x y = some (x * x + y * y) := by
  have := hx.sq; have := hy.sq
  unfold f_plane_Gauss_norm
  rw [w64 (x := x * x) (by omega) (by omega), w64 (x := y * y) (by omega) (by omega), w64 (by omega) (by omega)]
theorem nearest_ok {n d : Int} (hd : 0 < d) (hd2 : d ≤ 281474976710656) (hn : -562949953421312 ≤ n ∧ n ≤ 562949953421312) :
    ∃ q, f_plane_nearest n d = some q ∧ 2 * (n - q * d) ≤ d ∧ -d ≤ 2 * (n - q * d) := by
  unfold f_plane_nearest
  have e := Int.tmod_add_mul_tdiv n d
  have m1 : n.tmod d < d := Int.tmod_lt_of_pos n hd
  have m2 : -d < n.tmod d := by
    by_cases h0 : 0 ≤ n
    · have := Int.tmod_nonneg d h0; omega
    · have h3 := Int.neg_tmod (a := -n) (b := d)
      have h4 := Int.tmod_lt_of_pos (-n) hd
      rw [Int.neg_neg] at h3
      omega
  generalize n.tmod d = m at *
  generalize n.tdiv d = t at *
  have tb : -1125899906842624 ≤ t ∧ t ≤ 1125899906842624 := by
    by_cases h0 : 0 ≤ t
    · have : 0 ≤ (d - 1) * t := Int.mul_nonneg (by omega) h0
      have e2 : (d - 1) * t = d * t - t := by grind
      omega
    · have : 0 ≤ (d - 1) * (-t) := Int.mul_nonneg (by omega) (by omega)
      have e2 : (d - 1) * (-t) = t - d * t := by grind
      omega
  have key : ∀ u r : Int, n = r + d * u → 0 ≤ r → r < d → -1125899906842625 ≤ u ∧ u ≤ 1125899906842624 → ∃ q, f_plane_nearest.j1 d u r = some q ∧ 2 * (n - q * d) ≤ d ∧ -d ≤ 2 * (n - q * d) := by
    intro u r hu h0 h1 hb
    unfold f_plane_nearest.j1
    rw [w64 (x := d - r) (by omega) (by omega)]
    by_cases hc : d - r < r
    · rw [if_pos (by rw [decide_eq_true_eq]; exact hc), w64 (by omega) (by omega)]
      have e3 : (u + 1) * d = d * u + d := by grind
      exact ⟨_, rfl, by omega, by omega⟩
    · rw [if_neg (by rw [decide_eq_true_eq]; exact hc)]
      have e3 : u * d = d * u := Int.mul_comm ..
      exact ⟨_, rfl, by omega, by omega⟩
  rw [if_pos (by omega), if_pos (by omega), w64 (x := t) (by omega) (by omega)]
  by_cases hm : m < 0
  · rw [if_pos (by rw [decide_eq_true_eq]; exact hm), w64 (x := t - 1) (by omega) (by omega), w64 (x := m + d) (by omega) (by omega)]
    exact key _ _ (by have : d * (t - 1) = d * t - d := by grind
                      omega) (by omega) (by omega) (by omega)
  · rw [if_neg (by rw [decide_eq_true_eq]; exact hm)]
    exact key _ _ (by omega) (by omega) m1 (by omega)
/-- what 'by' answers -/
structure Divd (g0 g1 o0 o1 q0 q1 : Int) : Prop where
  c0 : 2 * (g0 * o0 + g1 * o1 - q0 * (o0 * o0 + o1 * o1)) ≤ o0 * o0 + o1 * o1 ∧ -(o0 * o0 + o1 * o1) ≤ 2 * (g0 * o0 + g1 * o1 - q0 * (o0 * o0 + o1 * o1))
  c1 : 2 * (g1 * o0 - g0 * o1 - q1 * (o0 * o0 + o1 * o1)) ≤ o0 * o0 + o1 * o1 ∧ -(o0 * o0 + o1 * o1) ≤ 2 * (g1 * o0 - g0 * o1 - q1 * (o0 * o0 + o1 * o1))
theorem q_bd {t q N : Int} (hN : 0 < N) (ht : t ≤ 16777216 * N ∧ -(16777216 * N) ≤ t) (h : 2 * (t - q * N) ≤ N ∧ -N ≤ 2 * (t - q * N)) : -16777216 ≤ q ∧ q ≤ 16777216 := by
  constructor
  · apply Int.not_lt.mp
    intro hc
    have : 0 ≤ (-16777217 - q) * N := Int.mul_nonneg (by omega) (by omega)
    have e : (-16777217 - q) * N = -16777217 * N - q * N := by grind
    omega
  · apply Int.not_lt.mp
    intro hc
    have : 0 ≤ (q - 16777217) * N := Int.mul_nonneg (by omega) (by omega)
    have e : (q - 16777217) * N = q * N - 16777217 * N := by grind
    omega
theorem n_pos {x y : Int} (h : ¬ (x = 0 ∧ y = 0)) : 0 < x * x + y * y := by
  have s1 := sq_ge x; have s2 := sq_ge y
  have := sq_nn x; have := sq_nn y
  omega
theorem by_ok {g0 g1 o0 o1 : Int} (h0 : Bd g0) (h1 : Bd g1) (h2 : Bd o0) (h3 : Bd o1) (ho : ¬ (o0 = 0 ∧ o1 = 0)) :
    ∃ q0 q1, f_plane_Gauss_by g0 g1 o0 o1 = some ((q0, q1), (g0 - (q0 * o0 - q1 * o1), g1 - (q0 * o1 + q1 * o0))) ∧ Divd g0 g1 o0 o1 q0 q1 ∧ (-16777216 ≤ q0 ∧ q0 ≤ 16777216) ∧ (-16777216 ≤ q1 ∧ q1 ≤ 16777216) := by
  have hN := n_pos ho
  have s2 := h2.sq; have s3 := h3.sq
  have p0 := mul_bd (g := g0) (o := o0) (C := 8388608) (by decide) h0
  have p1 := mul_bd (g := g1) (o := o1) (C := 8388608) (by decide) h1
  have p2 := mul_bd (g := g1) (o := o0) (C := 8388608) (by decide) h1
  have p3 := mul_bd (g := g0) (o := o1) (C := 8388608) (by decide) h0
  have r0 := mul_bd2 (g := g0) (o := o0) (C := 8388608) (D := 8388608) (by decide) (by decide) h0 h2
  have r1 := mul_bd2 (g := g1) (o := o1) (C := 8388608) (D := 8388608) (by decide) (by decide) h1 h3
  have r2 := mul_bd2 (g := g1) (o := o0) (C := 8388608) (D := 8388608) (by decide) (by decide) h1 h2
  have r3 := mul_bd2 (g := g0) (o := o1) (C := 8388608) (D := 8388608) (by decide) (by decide) h0 h3
  have b2 := h2; have b3 := h3
  unfold Bd at b2 b3
  obtain ⟨q0, a1, a2, a3⟩ := nearest_ok (n := g0 * o0 + g1 * o1) hN (by omega) (by omega)
  obtain ⟨q1, a4, a5, a6⟩ := nearest_ok (n := g1 * o0 - g0 * o1) hN (by omega) (by omega)
  have x0 := q_bd hN (by omega) ⟨a2, a3⟩
  have x1 := q_bd hN (by omega) ⟨a5, a6⟩
  refine ⟨q0, q1, ?_, ⟨⟨a2, a3⟩, ⟨a5, a6⟩⟩, x0, x1⟩
  unfold f_plane_Gauss_by
  rw [w64 (x := 0 - o1) (by omega) (by omega), times_ok (C := 8388608) (D := 8388608) (by decide) (by decide) h0 h1 h2 (by omega) (by decide)]
  simp only [Option.bind_some]
  rw [norm_ok h2 h3]
  simp only [Option.bind_some]
  have e1 : g0 * o0 - g1 * (0 - o1) = g0 * o0 + g1 * o1 := by grind
  have e2 : g0 * (0 - o1) + g1 * o0 = g1 * o0 - g0 * o1 := by grind
  rw [e1, e2, a1, a4]
  simp only [Option.bind_some]
  rw [times_ok (C := 16777216) (D := 8388608) (by decide) (by decide) x0 x1 h2 h3 (by decide)]
  simp only [Option.bind_some]
  have y0 := mul_bd2 (g := q0) (o := o0) (C := 16777216) (D := 8388608) (by decide) (by decide) x0 h2
  have y1 := mul_bd2 (g := q1) (o := o1) (C := 16777216) (D := 8388608) (by decide) (by decide) x1 h3
  have y2 := mul_bd2 (g := q0) (o := o1) (C := 16777216) (D := 8388608) (by decide) (by decide) x0 h3
  have y3 := mul_bd2 (g := q1) (o := o0) (C := 16777216) (D := 8388608) (by decide) (by decide) x1 h2
  unfold Bd at h0 h1
  rw [w64 (x := g0 - (q0 * o0 - q1 * o1)) (by omega) (by omega), w64 (x := g1 - (q0 * o1 + q1 * o0)) (by omega) (by omega)]
theorem four_sq {a N : Int} (h : 2 * a ≤ N ∧ -N ≤ 2 * a) : 4 * (a * a) ≤ N * N := by
  have h3 : 0 ≤ (N - 2 * a) * (N + 2 * a) := Int.mul_nonneg (by omega) (by omega)
  have e : (N - 2 * a) * (N + 2 * a) = N * N - 4 * (a * a) := by grind
  omega
theorem rest_id (g0 g1 o0 o1 q0 q1 : Int) : ((g0 - (q0*o0 - q1*o1)) * (g0 - (q0*o0 - q1*o1)) + (g1 - (q0*o1 + q1*o0)) * (g1 - (q0*o1 + q1*o0))) * (o0*o0+o1*o1) = (g0*o0+g1*o1 - q0*(o0*o0+o1*o1)) * (g0*o0+g1*o1 - q0*(o0*o0+o1*o1)) + (g1*o0 - g0*o1 - q1*(o0*o0+o1*o1)) * (g1*o0 - g0*o1 - q1*(o0*o0+o1*o1)) := by grind
theorem rest_small {g0 g1 o0 o1 q0 q1 : Int} (ho : ¬ (o0 = 0 ∧ o1 = 0)) (h : Divd g0 g1 o0 o1 q0 q1) :
    2 * ((g0 - (q0*o0 - q1*o1)) * (g0 - (q0*o0 - q1*o1)) + (g1 - (q0*o1 + q1*o0)) * (g1 - (q0*o1 + q1*o0))) ≤ o0*o0+o1*o1 := by
  have hN := n_pos ho
  have e := rest_id g0 g1 o0 o1 q0 q1
  have f0 := four_sq h.c0
  have f1 := four_sq h.c1
  generalize (g0 - (q0*o0 - q1*o1)) * (g0 - (q0*o0 - q1*o1)) + (g1 - (q0*o1 + q1*o0)) * (g1 - (q0*o1 + q1*o0)) = R at *
  generalize (g0*o0+g1*o1 - q0*(o0*o0+o1*o1)) * (g0*o0+g1*o1 - q0*(o0*o0+o1*o1)) = X at *
  generalize (g1*o0 - g0*o1 - q1*(o0*o0+o1*o1)) * (g1*o0 - g0*o1 - q1*(o0*o0+o1*o1)) = Y at *
  generalize o0*o0+o1*o1 = M at *
  have : (2 * R) * M ≤ M * M := by
    have e2 : (2 * R) * M = 2 * (R * M) := Int.mul_assoc ..
    omega
  exact Int.le_of_mul_le_mul_right this hN
/-- 'd' divides 'x' -/
def Dv (d0 d1 x0 x1 : Int) : Prop := ∃ a b, x0 = a * d0 - b * d1 ∧ x1 = a * d1 + b * d0
theorem Dv.self (d0 d1 : Int) : Dv d0 d1 d0 d1 := ⟨1, 0, by grind, by grind⟩
theorem Dv.zero (d0 d1 : Int) : Dv d0 d1 0 0 := ⟨0, 0, by grind, by grind⟩
theorem Dv.sub {d0 d1 g0 g1 o0 o1 : Int} (h : Dv d0 d1 g0 g1) (k : Dv d0 d1 o0 o1) (q0 q1 : Int) : Dv d0 d1 (g0 - (q0 * o0 - q1 * o1)) (g1 - (q0 * o1 + q1 * o0)) := by
  obtain ⟨a, b, rfl, rfl⟩ := h
  obtain ⟨c, d, rfl, rfl⟩ := k
  exact ⟨a - (q0 * c - q1 * d), b - (q0 * d + q1 * c), by grind, by grind⟩
theorem Dv.unsub {d0 d1 g0 g1 o0 o1 q0 q1 : Int} (h : Dv d0 d1 (g0 - (q0 * o0 - q1 * o1)) (g1 - (q0 * o1 + q1 * o0))) (k : Dv d0 d1 o0 o1) : Dv d0 d1 g0 g1 := by
  have := h.sub k (-q0) (-q1)
  rwa [show g0 - (q0 * o0 - q1 * o1) - (-q0 * o0 - -q1 * o1) = g0 by grind, show g1 - (q0 * o1 + q1 * o0) - (-q0 * o1 + -q1 * o0) = g1 by grind] at this
theorem Dv.rot {d0 d1 x y : Int} (h : Dv d0 d1 x y) : Dv d0 d1 (-y) x := by
  obtain ⟨a, b, rfl, rfl⟩ := h
  exact ⟨-b, a, by grind, by grind⟩
theorem sq_zero {x : Int} (h : x * x ≤ 0) : x = 0 := by
  have := sq_ge x; omega
/-- exact division leaves nothing -/
theorem rest_none {g0 g1 o0 o1 q0 q1 : Int} (ho : ¬ (o0 = 0 ∧ o1 = 0)) (h : Divd g0 g1 o0 o1 q0 q1) (hd : Dv o0 o1 g0 g1) :
    g0 - (q0*o0 - q1*o1) = 0 ∧ g1 - (q0*o1 + q1*o0) = 0 := by
  have hN := n_pos ho
  obtain ⟨a, b, ha, hb⟩ := hd
  have e := rest_id g0 g1 o0 o1 q0 q1
  have z : ∀ c q t : Int, t = c * (o0*o0+o1*o1) → (2 * (t - q * (o0*o0+o1*o1)) ≤ o0*o0+o1*o1 ∧ -(o0*o0+o1*o1) ≤ 2 * (t - q * (o0*o0+o1*o1))) → t - q * (o0*o0+o1*o1) = 0 := by
    intro c q t ht hc
    generalize o0*o0+o1*o1 = M at *
    subst ht
    have e1 : c * M - q * M = (c - q) * M := by grind
    rw [e1] at hc ⊢
    by_cases hz : c - q = 0
    · rw [hz]; exact Int.zero_mul _
    · exfalso
      by_cases hp : 0 < c - q
      · have : 0 ≤ (c - q - 1) * M := Int.mul_nonneg (by omega) (by omega)
        have e2 : (c - q - 1) * M = (c - q) * M - M := by grind
        omega
      · have : 0 ≤ (-(c - q) - 1) * M := Int.mul_nonneg (by omega) (by omega)
        have e2 : (-(c - q) - 1) * M = -((c - q) * M) - M := by grind
        omega
  have z0 := z a q0 (g0*o0+g1*o1) (by rw [ha, hb]; grind) h.c0
  have z1 := z b q1 (g1*o0-g0*o1) (by rw [ha, hb]; grind) h.c1
  rw [z0, z1] at e
  have s0 := sq_nn (g0 - (q0*o0 - q1*o1))
  have s1 := sq_nn (g1 - (q0*o1 + q1*o0))
  have hz : (g0 - (q0*o0 - q1*o1)) * (g0 - (q0*o0 - q1*o1)) + (g1 - (q0*o1 + q1*o0)) * (g1 - (q0*o1 + q1*o0)) ≤ 0 := by
    apply Int.le_of_mul_le_mul_right (a := o0*o0+o1*o1) _ hN
    rw [e]; simp
  exact ⟨sq_zero (by omega), sq_zero (by omega)⟩
theorem sq_le {x : Int} (h : x * x ≤ 70368744177664) : Bd x := by
  have c1 : -8388608 ≤ x := by
    apply Int.not_lt.mp
    intro hc
    have : 0 ≤ (-8388609 - x) * (-x) := Int.mul_nonneg (by omega) (by omega)
    have e : (-8388609 - x) * (-x) = 8388609 * x + x * x := by grind
    omega
  have c2 : x ≤ 8388608 := by
    apply Int.not_lt.mp
    intro hc
    have : 0 ≤ (x - 8388609) * x := Int.mul_nonneg (by omega) (by omega)
    have e : (x - 8388609) * x = x * x - 8388609 * x := by grind
    omega
  exact ⟨c1, c2⟩
/-! ### Gcd -/
def Cm (a0 a1 b0 b1 c0 c1 d0 d1 : Int) : Prop := ∀ x y, (Dv x y a0 a1 ∧ Dv x y b0 b1) ↔ (Dv x y c0 c1 ∧ Dv x y d0 d1)
theorem gcd_loop : ∀ (M : Nat) (a0 a1 b0 b1 : Int), (b0 * b0 + b1 * b1).toNat < M → Bd a0 → Bd a1 → Bd b0 → Bd b1 →
    ∃ k0 k1, loop f_plane_Gcd.s1 (a0, a1, b0, b1) = some (k0, k1) ∧ Bd k0 ∧ Bd k1 ∧ Cm a0 a1 b0 b1 k0 k1 0 0 := by
  intro M
  induction M with
  | zero => intro a0 a1 b0 b1 h; omega
  | succ M ih =>
    intro a0 a1 b0 b1 hM h0 h1 h2 h3
    by_cases hz : b0 = 0 ∧ b1 = 0
    · obtain ⟨rfl, rfl⟩ := hz
      refine ⟨a0, a1, loop_done ?_, h0, h1, fun x y => Iff.rfl⟩
      simp only [f_plane_Gcd.s1, f_plane_Gcd.s1c]
      rw [if_pos (by decide)]
    · obtain ⟨q0, q1, e1, e2, e3, e4⟩ := by_ok h0 h1 h2 h3 hz
      have rs := rest_small hz e2
      have hN := n_pos hz
      have t0 := h2.sq; have t1 := h3.sq
      have s0 := sq_nn (a0 - (q0*b0 - q1*b1))
      have s1 := sq_nn (a1 - (q0*b1 + q1*b0))
      obtain ⟨k0, k1, f1, f2, f3, f4⟩ := ih b0 b1 (a0 - (q0*b0 - q1*b1)) (a1 - (q0*b1 + q1*b0)) (by omega) h2 h3 (sq_le (by omega)) (sq_le (by omega))
      refine ⟨k0, k1, (loop_step ?_).trans f1, f2, f3, fun x y => ?_⟩
      · simp only [f_plane_Gcd.s1, f_plane_Gcd.s1c]
        rw [if_neg (by simp only [Bool.and_true, Bool.and_eq_true, beq_iff_eq]; exact hz), e1]; rfl
      · rw [← f4 x y]
        constructor
        · rintro ⟨u, v⟩
          exact ⟨v, u.sub v q0 q1⟩
        · rintro ⟨u, v⟩
          exact ⟨v.unsub u, u⟩
def Qd (x y : Int) : Prop := (x = 0 ∧ y = 0) ∨ (0 < x ∧ 0 ≤ y)
theorem rot_done {x y : Int} (h : Qd x y) : loop f_plane_Gcd.s2 (x, y) = some (x, y) := by
  apply loop_done
  simp only [f_plane_Gcd.s2, f_plane_Gcd.s2c]
  rw [if_neg (by
    unfold Qd at h
    simp only [Bool.and_true, Bool.and_eq_true, Bool.not_eq_true', Bool.and_eq_false_iff, beq_eq_false_iff_ne, decide_eq_false_iff_not, ne_eq]
    omega)]
theorem rot_step {x y : Int} (hy : Bd y) (h : ¬ Qd x y) : loop f_plane_Gcd.s2 (x, y) = loop f_plane_Gcd.s2 (-y, x) := by
  apply loop_step
  simp only [f_plane_Gcd.s2, f_plane_Gcd.s2c]
  unfold Bd at hy
  rw [if_pos (by
    unfold Qd at h
    simp only [Bool.and_true, Bool.and_eq_true, Bool.not_eq_true', Bool.and_eq_false_iff, beq_eq_false_iff_ne, decide_eq_false_iff_not, ne_eq]
    omega), w64 (by omega) (by omega), Int.zero_sub]
structure Rt (x y u v : Int) : Prop where
  b0 : Bd u
  b1 : Bd v
  to : ∀ c d, Dv c d x y ↔ Dv c d u v
theorem Dv.rot_iff {c d x y : Int} : Dv c d x y ↔ Dv c d (-y) x := by
  constructor
  · exact Dv.rot
  · intro h
    have := h.rot.rot.rot
    rwa [Int.neg_neg, Int.neg_neg] at this
theorem Bd.neg {x : Int} (h : Bd x) : Bd (-x) := by unfold Bd at *; omega
theorem rot_ok {x y : Int} (hx : Bd x) (hy : Bd y) : ∃ u v, loop f_plane_Gcd.s2 (x, y) = some (u, v) ∧ Qd u v ∧ Rt x y u v := by
  by_cases c0 : Qd x y
  · exact ⟨x, y, rot_done c0, c0, hx, hy, fun c d => Iff.rfl⟩
  rw [rot_step hy c0]
  by_cases c1 : Qd (-y) x
  · exact ⟨_, _, rot_done c1, c1, hy.neg, hx, fun c d => Dv.rot_iff⟩
  rw [rot_step hx c1]
  by_cases c2 : Qd (-x) (-y)
  · exact ⟨_, _, rot_done c2, c2, hx.neg, hy.neg, fun c d => Dv.rot_iff.trans Dv.rot_iff⟩
  rw [rot_step hy.neg c2, Int.neg_neg]
  have c3 : Qd y (-x) := by unfold Qd at *; omega
  refine ⟨_, _, rot_done c3, c3, hy, hx.neg, fun c d => ?_⟩
  have := (Dv.rot_iff (c := c) (d := d) (x := x) (y := y)).trans (Dv.rot_iff.trans Dv.rot_iff)
  rwa [Int.neg_neg] at this
theorem gcd_ok {a0 a1 b0 b1 : Int} (h0 : Bd a0) (h1 : Bd a1) (h2 : Bd b0) (h3 : Bd b1) :
    ∃ k0 k1, f_plane_Gcd a0 a1 b0 b1 = some ((k0, k1), 0) ∧ Bd k0 ∧ Bd k1 ∧ Qd k0 k1 ∧ ∀ x y, (Dv x y a0 a1 ∧ Dv x y b0 b1) ↔ Dv x y k0 k1 := by
  obtain ⟨k0, k1, e1, e2, e3, e4⟩ := gcd_loop _ a0 a1 b0 b1 (Nat.lt_succ_self _) h0 h1 h2 h3
  obtain ⟨u, v, f1, f2, f3⟩ := rot_ok e2 e3
  refine ⟨u, v, ?_, f3.b0, f3.b1, f2, fun x y => ?_⟩
  · unfold f_plane_Gcd
    rw [h0.may h1, h2.may h3]
    simp only [Option.bind_some, Bool.not_true, Bool.false_eq_true, if_false]
    rw [e1]
    simp only [Option.bind_some]
    rw [f1]
    rfl
  · rw [e4 x y, ← f3.to x y]
    exact ⟨fun h => h.1, fun h => ⟨h, Dv.zero x y⟩⟩
theorem By_ok {g0 g1 o0 o1 : Int} (h0 : Bd g0) (h1 : Bd g1) (h2 : Bd o0) (h3 : Bd o1) :
    (o0 = 0 ∧ o1 = 0 ∧ f_plane_Gauss_By g0 g1 o0 o1 = some ((0, 0), (0, 0), 6)) ∨ (¬ (o0 = 0 ∧ o1 = 0) ∧ ∃ q0 q1, f_plane_Gauss_By g0 g1 o0 o1 = some ((q0, q1), (g0 - (q0 * o0 - q1 * o1), g1 - (q0 * o1 + q1 * o0)), 0) ∧ Divd g0 g1 o0 o1 q0 q1 ∧ (-16777216 ≤ q0 ∧ q0 ≤ 16777216) ∧ (-16777216 ≤ q1 ∧ q1 ≤ 16777216)) := by
  unfold f_plane_Gauss_By
  rw [h0.may h1, h2.may h3]
  simp only [Option.bind_some, Bool.not_true, Bool.false_eq_true, if_false]
  by_cases hz : o0 = 0 ∧ o1 = 0
  · left
    obtain ⟨rfl, rfl⟩ := hz
    exact ⟨rfl, rfl, by rw [if_pos (by decide)]⟩
  · right
    obtain ⟨q0, q1, e1, e2, e3, e4⟩ := by_ok h0 h1 h2 h3 hz
    refine ⟨hz, q0, q1, ?_, e2, e3, e4⟩
    rw [if_neg (by simp only [Bool.and_true, Bool.and_eq_true, beq_iff_eq]; exact hz), e1]; rfl
theorem dv_ok {d0 d1 g0 g1 : Int} (h0 : Bd g0) (h1 : Bd g1) (h2 : Bd d0) (h3 : Bd d1) (h : Dv d0 d1 g0 g1) : f_foghornlaw03_divides d0 d1 g0 g1 = some true := by
  unfold f_foghornlaw03_divides
  rcases By_ok h0 h1 h2 h3 with ⟨rfl, rfl, e⟩ | ⟨hz, q0, q1, e, e2, _, _⟩
  · obtain ⟨a, b, ha, hb⟩ := h
    have z0 : g0 = 0 := by rw [ha]; simp
    have z1 : g1 = 0 := by rw [hb]; simp
    subst z0 z1
    rw [e]; rfl
  · obtain ⟨r0, r1⟩ := rest_none hz e2 h
    rw [e, r0, r1]; rfl
theorem Times_ok {a b c d C D : Int} (hC : 0 ≤ C) (hD : 0 ≤ D) (hC2 : C ≤ 1073741824) (hD2 : D ≤ 1073741824) (ha : -C ≤ a ∧ a ≤ C) (hb : -C ≤ b ∧ b ≤ C) (hc : -D ≤ c ∧ c ≤ D) (hd : -D ≤ d ∧ d ≤ D) (hCD : C * D ≤ 4611686018427387903) :
    f_plane_Gauss_Times a b c d = some ((a * c - b * d, a * d + b * c), 0) := by
  unfold f_plane_Gauss_Times
  rw [may_ok (by omega) (by omega), may_ok (by omega) (by omega)]
  simp only [Option.bind_some, Bool.not_true, Bool.false_eq_true, if_false]
  rw [times_ok hC hD ha hb hc hd hCD]; rfl
theorem rests_true (a0 : Int) (u0 : (Lit.int .i16 a0).wf = true) (a1 : Int) (u1 : (Lit.int .i16 a1).wf = true) (b0 : Int) (u2 : (Lit.int .i16 b0).wf = true) (b1 : Int) (u3 : (Lit.int .i16 b1).wf = true) (c0 : Int) (u4 : (Lit.int .i16 c0).wf = true) (c1 : Int) (u5 : (Lit.int .i16 c1).wf = true) :
    f_foghornlaw03_PlaneRests a0 a1 b0 b1 c0 c1 = some true := by
  have v0 := wf_i16 u0; have v1 := wf_i16 u1; have v2 := wf_i16 u2; have v3 := wf_i16 u3
  have tm : ∀ x : Int, -98 ≤ x.tmod 99 ∧ x.tmod 99 ≤ 98 := by
    intro x
    have m1 : x.tmod 99 < 99 := Int.tmod_lt_of_pos x (by decide)
    by_cases h0 : 0 ≤ x
    · have := Int.tmod_nonneg 99 h0; omega
    · have h3 := Int.neg_tmod (a := -x) (b := 99)
      have h4 := Int.tmod_lt_of_pos (-x) (show (0 : Int) < 99 by decide)
      rw [Int.neg_neg] at h3
      omega
  have d0 := tm c0
  have d1 := tm c1
  unfold f_foghornlaw03_PlaneRests
  rw [w64 (x := a0) (by omega) (by omega), w64 (x := a1) (by omega) (by omega), w64 (x := b0) (by omega) (by omega), w64 (x := b1) (by omega) (by omega), w64 (x := c0.tmod 99) (by omega) (by omega), w64 (x := c1.tmod 99) (by omega) (by omega)]
  generalize c0.tmod 99 = x at *
  generalize c1.tmod 99 = y at *
  rw [Times_ok (C := 32768) (D := 98) (by decide) (by decide) (by decide) (by decide) (by omega) (by omega) d0 d1 (by decide), Times_ok (C := 32768) (D := 98) (by decide) (by decide) (by decide) (by decide) (by omega) (by omega) d0 d1 (by decide)]
  have bx : Bd x := by unfold Bd; omega
  have bY : Bd y := by unfold Bd; omega
  have m0 := mul_bd2 (g := a0) (o := x) (C := 32768) (D := 98) (by decide) (by decide) (by omega) d0
  have m1 := mul_bd2 (g := a1) (o := y) (C := 32768) (D := 98) (by decide) (by decide) (by omega) d1
  have m2 := mul_bd2 (g := a0) (o := y) (C := 32768) (D := 98) (by decide) (by decide) (by omega) d1
  have m3 := mul_bd2 (g := a1) (o := x) (C := 32768) (D := 98) (by decide) (by decide) (by omega) d0
  have m4 := mul_bd2 (g := b0) (o := x) (C := 32768) (D := 98) (by decide) (by decide) (by omega) d0
  have m5 := mul_bd2 (g := b1) (o := y) (C := 32768) (D := 98) (by decide) (by decide) (by omega) d1
  have m6 := mul_bd2 (g := b0) (o := y) (C := 32768) (D := 98) (by decide) (by decide) (by omega) d1
  have m7 := mul_bd2 (g := b1) (o := x) (C := 32768) (D := 98) (by decide) (by decide) (by omega) d0
  have dg : Dv x y (a0 * x - a1 * y) (a0 * y + a1 * x) := ⟨a0, a1, rfl, rfl⟩
  have dO : Dv x y (b0 * x - b1 * y) (b0 * y + b1 * x) := ⟨b0, b1, rfl, rfl⟩
  have g0 : Bd (a0 * x - a1 * y) := by unfold Bd; omega
  have g1 : Bd (a0 * y + a1 * x) := by unfold Bd; omega
  have o0 : Bd (b0 * x - b1 * y) := by unfold Bd; omega
  have o1 : Bd (b0 * y + b1 * x) := by unfold Bd; omega
  clear m0 m1 m2 m3 m4 m5 m6 m7
  generalize a0 * x - a1 * y = p at *
  generalize a0 * y + a1 * x = q at *
  generalize b0 * x - b1 * y = r at *
  generalize b0 * y + b1 * x = s at *
  obtain ⟨k0, k1, e1, e2, e3, e4, e5⟩ := gcd_ok g0 g1 o0 o1
  have dk := (e5 k0 k1).2 (Dv.self k0 k1)
  have dd := (e5 x y).1 ⟨dg, dO⟩
  have hq : ((!((k0 == (0 : Int)) && ((k1 == (0 : Int)) && true))) && ((decide (k0 ≤ (0 : Int))) || (decide (k1 < (0 : Int))))) = false := by
    unfold Qd at e4
    rcases e4 with ⟨rfl, rfl⟩ | h
    · decide
    · rw [decide_eq_false (show ¬ k0 ≤ 0 by omega), decide_eq_false (show ¬ k1 < 0 by omega)]
      simp
  simp only [Option.bind_some, bne_self_eq_false, Bool.or_self, Bool.false_eq_true, if_false]
  rw [e1]
  simp only [Option.bind_some, bne_self_eq_false, Bool.false_eq_true, if_false, dv_ok g0 g1 e2 e3 dk.1, dv_ok o0 o1 e2 e3 dk.2, dv_ok e2 e3 bx bY dd, Bool.not_true, hq, Bool.or_self]
  rcases By_ok g0 g1 o0 o1 with ⟨rfl, rfl, e⟩ | ⟨hz, q0, q1, e, f2, f3, f4⟩
  · rw [e]
    simp only [Option.bind_some, beq_self_eq_true, Bool.and_self, if_true, awake_true]
  · have rsm := rest_small hz f2
    have hzz : ((r == (0 : Int)) && ((s == (0 : Int)) && true)) = false := by
      rw [Bool.eq_false_iff]
      simp only [Bool.and_true, ne_eq, Bool.and_eq_true, beq_iff_eq]
      exact hz
    have t0 := o0.sq; have t1 := o1.sq
    have s0 := sq_nn (p - (q0*r - q1*s))
    have s1 := sq_nn (q - (q0*s + q1*r))
    have b0 : Bd (p - (q0*r - q1*s)) := sq_le (by omega)
    have b1 : Bd (q - (q0*s + q1*r)) := sq_le (by omega)
    rw [e]
    simp only [Option.bind_some, hzz, Bool.false_eq_true, if_false]
    rw [Times_ok (C := 16777216) (D := 8388608) (by decide) (by decide) (by decide) (by decide) f3 f4 o0 o1 (by decide)]
    have n1 : f_plane_Gauss_Norm (p - (q0*r - q1*s)) (q - (q0*s + q1*r)) = some ((p - (q0*r - q1*s)) * (p - (q0*r - q1*s)) + (q - (q0*s + q1*r)) * (q - (q0*s + q1*r)), 0) := by
      unfold f_plane_Gauss_Norm
      rw [b0.may b1, norm_ok b0 b1]; rfl
    have n2 : f_plane_Gauss_Norm r s = some (r * r + s * s, 0) := by
      unfold f_plane_Gauss_Norm
      rw [o0.may o1, norm_ok o0 o1]; rfl
    rw [n1, n2]
    unfold Bd at g0 g1
    have z0 : IntKind.i64.wrap (q0 * r - q1 * s + (p - (q0 * r - q1 * s))) = p := by rw [w64 (by omega) (by omega)]; omega
    have z1 : IntKind.i64.wrap (q0 * s + q1 * r + (q - (q0 * s + q1 * r))) = q := by rw [w64 (by omega) (by omega)]; omega
    simp only [Option.bind_some, z0, z1]
    rw [w64 (x := 2 * ((p - (q0*r - q1*s)) * (p - (q0*r - q1*s)) + (q - (q0*s + q1*r)) * (q - (q0*s + q1*r)))) (by omega) (by omega), decide_eq_true rsm]
    simp only [beq_self_eq_true, Bool.and_self, if_true, awake_true, Option.bind_some]

end Go.Proofs.Yteifkccomfdciaa
