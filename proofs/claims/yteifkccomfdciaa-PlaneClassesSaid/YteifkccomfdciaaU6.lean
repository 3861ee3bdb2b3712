/- PlaneClasses: the plain law. -/
import Derived.Test.YteifkccomfdciaaG6
import Derived.Test.YteifkccomfdciaaGlW
set_option linter.unusedVariables false
set_option linter.unusedSimpArgs false
set_option maxRecDepth 8000
namespace Go.Proofs.Yteifkccomfdciaa
open GL Go

theorem awake_true : f_foghornlaw03_awake = some true := by
  have h1 : loop (f_plane_Gauss_Class.s1 3) (3, 2, 0, 0) = some 1 := loop_iff.2 ⟨4, by decide +kernel⟩
  have h2 : f_plane_Gauss_Class 3 2 3 = some (1, 0) := by
    unfold f_plane_Gauss_Class
    rw [h1]; rfl
  have h3 : f_plane_Mul (Fl.bits 4607182418800017408, Fl.bits 4611686018427387904) (Fl.bits 4613937818241073152, Fl.bits 13830554455654793216) = some (Fl.bits 4617315517961601024, Fl.bits 4617315517961601024) := by decide +kernel
  have h4 : f_plane_Turn (Fl.bits 4607182418800017408, Fl.bits 4611686018427387904) 1 = some (Fl.bits 13835058055282163712, Fl.bits 4607182418800017408) := by decide +kernel
  unfold f_foghornlaw03_awake
  rw [h2, h3, h4]
  decide +kernel
/-! ### Whole numbers of the plane -/
theorem wf_i16 {x : Int} (h : (Lit.int .i16 x).wf = true) : -32768 ≤ x ∧ x < 32768 := by
  simp [Lit.wf, IntKind.min, IntKind.max, IntKind.bits, IntKind.signed] at h
  omega
def Bd (x : Int) : Prop := -8388608 ≤ x ∧ x ≤ 8388608
theorem Bd.sq {x : Int} (h : Bd x) : 0 ≤ x * x ∧ x * x ≤ 70368744177664 := by
  obtain ⟨h1, h2⟩ := h
  have h3 : 0 ≤ (8388608 - x) * (8388608 + x) := Int.mul_nonneg (by omega) (by omega)
  have h4 : (8388608 - x) * (8388608 + x) = 70368744177664 - x * x := by grind
  have h5 : 0 ≤ x * x := by
    by_cases h0 : 0 ≤ x
    · exact Int.mul_nonneg h0 h0
    · exact Int.mul_nonneg_of_nonpos_of_nonpos (by omega) (by omega)
  omega
theorem sq_nn (x : Int) : 0 ≤ x * x := by
  by_cases h0 : 0 ≤ x
  · exact Int.mul_nonneg h0 h0
  · exact Int.mul_nonneg_of_nonpos_of_nonpos (by omega) (by omega)
theorem sq_ge (x : Int) : x ≤ x * x ∧ -x ≤ x * x := by
  by_cases h0 : x = 0
  · subst h0; decide
  · by_cases hp : 0 < x
    · have : 0 ≤ x * (x - 1) := Int.mul_nonneg (by omega) (by omega)
      have e : x * (x - 1) = x * x - x := by grind
      omega
    · have : 0 ≤ (-x) * (-x - 1) := Int.mul_nonneg (by omega) (by omega)
      have e : (-x) * (-x - 1) = x * x + x := by grind
      omega
/-- a product against a square -/
theorem mul_bd {g o C : Int} (hC : 0 ≤ C) (h : -C ≤ g ∧ g ≤ C) : g * o ≤ C * (o * o) ∧ -(C * (o * o)) ≤ g * o := by
  have s1 : 0 ≤ C * (o * o - o) := Int.mul_nonneg hC (by have := sq_ge o; omega)
  have s2 : 0 ≤ C * (o * o + o) := Int.mul_nonneg hC (by have := sq_ge o; omega)
  have e1 : C * (o * o - o) = C * (o * o) - C * o := by grind
  have e2 : C * (o * o + o) = C * (o * o) + C * o := by grind
  by_cases ho : 0 ≤ o
  · have m1 : 0 ≤ (C - g) * o := Int.mul_nonneg (by omega) ho
    have m2 : 0 ≤ (C + g) * o := Int.mul_nonneg (by omega) ho
    have e3 : (C - g) * o = C * o - g * o := by grind
    have e4 : (C + g) * o = C * o + g * o := by grind
    omega
  · have m1 : 0 ≤ (C - g) * (-o) := Int.mul_nonneg (by omega) (by omega)
    have m2 : 0 ≤ (C + g) * (-o) := Int.mul_nonneg (by omega) (by omega)
    have e3 : (C - g) * (-o) = g * o - C * o := by grind
    have e4 : (C + g) * (-o) = - (C * o) - g * o := by grind
    omega
theorem mul_bd2 {g o C D : Int} (hC : 0 ≤ C) (hD : 0 ≤ D) (h : -C ≤ g ∧ g ≤ C) (k : -D ≤ o ∧ o ≤ D) : g * o ≤ C * D ∧ -(C * D) ≤ g * o := by
  have a1 : 0 ≤ (C - g) * (D + o) := Int.mul_nonneg (by omega) (by omega)
  have a2 : 0 ≤ (C + g) * (D - o) := Int.mul_nonneg (by omega) (by omega)
  have a3 : 0 ≤ (C - g) * (D - o) := Int.mul_nonneg (by omega) (by omega)
  have a4 : 0 ≤ (C + g) * (D + o) := Int.mul_nonneg (by omega) (by omega)
  have e1 : (C - g) * (D + o) = C * D + C * o - g * D - g * o := by grind
  have e2 : (C + g) * (D - o) = C * D - C * o + g * D - g * o := by grind
  have e3 : (C - g) * (D - o) = C * D - C * o - g * D + g * o := by grind
  have e4 : (C + g) * (D + o) = C * D + C * o + g * D + g * o := by grind
  omega
theorem may_ok {x y : Int} (hx : -1073741824 ≤ x ∧ x ≤ 1073741824) (hy : -1073741824 ≤ y ∧ y ≤ 1073741824) : f_plane_Gauss_may x y = some true := by
  unfold f_plane_Gauss_may
  congr 1
  simp only [Bool.and_eq_true, decide_eq_true_eq]
  omega
theorem Bd.may {x y : Int} (hx : Bd x) (hy : Bd y) : f_plane_Gauss_may x y = some true := may_ok (by unfold Bd at hx; omega) (by unfold Bd at hy; omega)
theorem times_ok {a b c d C D : Int} (hC : 0 ≤ C) (hD : 0 ≤ D) (ha : -C ≤ a ∧ a ≤ C) (hb : -C ≤ b ∧ b ≤ C) (hc : -D ≤ c ∧ c ≤ D) (hd : -D ≤ d ∧ d ≤ D) (hCD : C * D ≤ 4611686018427387903) :
    f_plane_Gauss_times a b c d = some (a * c - b * d, a * d + b * c) := by
  unfold f_plane_Gauss_times
  have h1 := mul_bd2 hC hD ha hc
  have h2 := mul_bd2 hC hD hb hd
  have h3 := mul_bd2 hC hD ha hd
  have h4 := mul_bd2 hC hD hb hc
  rw [w64 (x := a * c) (by omega) (by omega), w64 (x := b * d) (by omega) (by omega), w64 (x := a * d) (by omega) (by omega), w64 (x := b * c) (by omega) (by omega), w64 (by omega) (by omega), w64 (by omega) (by omega)]
theorem norm_ok {x y : Int} (hx : Bd x) (hy : Bd y) : f_plane_Gauss_norm x y = some (x * x + y * y) := by
  have := hx.sq; have := hy.sq
  unfold f_plane_Gauss_norm
  rw [w64 (x := x * x) (by omega) (by omega), w64 (x := y * y) (by omega) (by omega), w64 (by omega) (by omega)]
theorem nearest_ok {n d : Int} (hd : 0 < d) (hd2 : d ≤ 281474976710656) (hn : -562949953421312 ≤ n ∧ n ≤ 562949953421312) :
    ∃ q, f_plane_nearest n d = some q ∧ 2 * (n - q * d) ≤ d ∧ -d ≤ 2 * (n - q * d) := by
  unfold f_plane_nearest
  have e := Int.tmod_add_mul_tdiv n d
  have m1 : n.tmod d < d := Int.tmod_lt_of_pos n hd
  have m2 : -d < n.tmod d := by
    by_cases h0 : 0 ≤ n
    · have := Int.tmod_nonneg d h0; omega
    · have h3 := Int.neg_tmod (a := -n) (b := d)
      have h4 := Int.tmod_lt_of_pos (-n) hd
      rw [Int.neg_neg] at h3
      omega
  generalize n.tmod d = m at *
  generalize n.tdiv d = t at *
  have tb : -1125899906842624 ≤ t ∧ t ≤ 1125899906842624 := by
    by_cases h0 : 0 ≤ t
    · have : 0 ≤ (d - 1) * t := Int.mul_nonneg (by omega) h0
      have e2 : (d - 1) * t = d * t - t := by grind
      omega
    · have : 0 ≤ (d - 1) * (-t) := Int.mul_nonneg (by omega) (by omega)
      have e2 : (d - 1) * (-t) = t - d * t := by grind
      omega
  have key : ∀ u r : Int, n = r + d * u → 0 ≤ r → r < d → -1125899906842625 ≤ u ∧ u ≤ 1125899906842624 → ∃ q, f_plane_nearest.j1 d u r = some q ∧ 2 * (n - q * d) ≤ d ∧ -d ≤ 2 * (n - q * d) := by
    intro u r hu h0 h1 hb
    unfold f_plane_nearest.j1
    rw [w64 (x := d - r) (by omega) (by omega)]
    by_cases hc : d - r < r
    · rw [if_pos (by rw [decide_eq_true_eq]; exact hc), w64 (by omega) (by omega)]
      have e3 : (u + 1) * d = d * u + d := by grind
      exact ⟨_, rfl, by omega, by omega⟩
    · rw [if_neg (by rw [decide_eq_true_eq]; exact hc)]
      have e3 : u * d = d * u := Int.mul_comm ..
      exact ⟨_, rfl, by omega, by omega⟩
  rw [if_pos (by omega), if_pos (by omega), w64 (x := t) (by omega) (by omega)]
  by_cases hm : m < 0
  · rw [if_pos (by rw [decide_eq_true_eq]; exact hm), w64 (x := t - 1) (by omega) (by omega), w64 (x := m + d) (by omega) (by omega)]
    exact key _ _ (by have : d * (t - 1) = d * t - d := by grind
                      omega) (by omega) (by omega) (by omega)
  · rw [if_neg (by rw [decide_eq_true_eq]; exact hm)]
    exact key _ _ (by omega) (by omega) m1 (by omega)
/-- what 'by' answers -/
structure Divd (g0 g1 o0 o1 q0 q1 : Int) : Prop where
  c0 : 2 * (g0 * o0 + g1 * o1 - q0 * (o0 * o0 + o1 * o1)) ≤ o0 * o0 + o1 * o1 ∧ -(o0 * o0 + o1 * o1) ≤ 2 * (g0 * o0 + g1 * o1 - q0 * (o0 * o0 + o1 * o1))
  c1 : 2 * (g1 * o0 - g0 * o1 - q1 * (o0 * o0 + o1 * o1)) ≤ o0 * o0 + o1 * o1 ∧ -(o0 * o0 + o1 * o1) ≤ 2 * (g1 * o0 - g0 * o1 - q1 * (o0 * o0 + o1 * o1))
theorem q_bd {t q N : Int} (hN : 0 < N) (ht : t ≤ 16777216 * N ∧ -(16777216 * N) ≤ t) (h : 2 * (t - q * N) ≤ N ∧ -N ≤ 2 * (t - q * N)) : -16777216 ≤ q ∧ q ≤ 16777216 := by
  constructor
  · apply Int.not_lt.mp
    intro hc
    have : 0 ≤ (-16777217 - q) * N := Int.mul_nonneg (by omega) (by omega)
    have e : (-16777217 - q) * N = -16777217 * N - q * N := by grind
    omega
  · apply Int.not_lt.mp
    intro hc
    have : 0 ≤ (q - 16777217) * N := Int.mul_nonneg (by omega) (by omega)
    have e : (q - 16777217) * N = q * N - 16777217 * N := by grind
    omega
theorem n_pos {x y : Int} (h : ¬ (x = 0 ∧ y = 0)) : 0 < x * x + y * y := by
  have s1 := sq_ge x; have s2 := sq_ge y
  have := sq_nn x; have := sq_nn y
  omega
theorem by_ok {g0 g1 o0 o1 : Int} (h0 : Bd g0) (h1 : Bd g1) (h2 : Bd o0) (h3 : Bd o1) (ho : ¬ (o0 = 0 ∧ o1 = 0)) :
    ∃ q0 q1, f_plane_Gauss_by g0 g1 o0 o1 = some ((q0, q1), (g0 - (q0 * o0 - q1 * o1), g1 - (q0 * o1 + q1 * o0))) ∧ Divd g0 g1 o0 o1 q0 q1 ∧ (-16777216 ≤ q0 ∧ q0 ≤ 16777216) ∧ (-16777216 ≤ q1 ∧ q1 ≤ 16777216) := by
  have hN := n_pos ho
  have s2 := h2.sq; have s3 := h3.sq
  have p0 := mul_bd (g := g0) (o := o0) (C := 8388608) (by decide) h0
  have p1 := mul_bd (g := g1) (o := o1) (C := 8388608) (by decide) h1
  have p2 := mul_bd (g := g1) (o := o0) (C := 8388608) (by decide) h1
  have p3 := mul_bd (g := g0) (o := o1) (C := 8388608) (by decide) h0
  have r0 := mul_bd2 (g := g0) (o := o0) (C := 8388608) (D := 8388608) (by decide) (by decide) h0 h2
  have r1 := mul_bd2 (g := g1) (o := o1) (C := 8388608) (D := 8388608) (by decide) (by decide) h1 h3
  have r2 := mul_bd2 (g := g1) (o := o0) (C := 8388608) (D := 8388608) (by decide) (by decide) h1 h2
  have r3 := mul_bd2 (g := g0) (o := o1) (C := 8388608) (D := 8388608) (by decide) (by decide) h0 h3
  have b2 := h2; have b3 := h3
  unfold Bd at b2 b3
  obtain ⟨q0, a1, a2, a3⟩ := nearest_ok (n := g0 * o0 + g1 * o1) hN (by omega) (by omega)
  obtain ⟨q1, a4, a5, a6⟩ := nearest_ok (n := g1 * o0 - g0 * o1) hN (by omega) (by omega)
  have x0 := q_bd hN (by omega) ⟨a2, a3⟩
  have x1 := q_bd hN (by omega) ⟨a5, a6⟩
  refine ⟨q0, q1, ?_, ⟨⟨a2, a3⟩, ⟨a5, a6⟩⟩, x0, x1⟩
  unfold f_plane_Gauss_by
  rw [w64 (x := 0 - o1) (by omega) (by omega), times_ok (C := 8388608) (D := 8388608) (by decide) (by decide) h0 h1 h2 (by omega) (by decide)]
  simp only [Option.bind_some]
  rw [norm_ok h2 h3]
  simp only [Option.bind_some]
  have e1 : g0 * o0 - g1 * (0 - o1) = g0 * o0 + g1 * o1 := by grind
  have e2 : g0 * (0 - o1) + g1 * o0 = g1 * o0 - g0 * o1 := by grind
  rw [e1, e2, a1, a4]
  simp only [Option.bind_some]
  rw [times_ok (C := 16777216) (D := 8388608) (by decide) (by decide) x0 x1 h2 h3 (by decide)]
  simp only [Option.bind_some]
  have y0 := mul_bd2 (g := q0) (o := o0) (C := 16777216) (D := 8388608) (by decide) (by decide) x0 h2
  have y1 := mul_bd2 (g := q1) (o := o1) (C := 16777216) (D := 8388608) (by decide) (by decide) x1 h3
  have y2 := mul_bd2 (g := q0) (o := o1) (C := 16777216) (D := 8388608) (by decide) (by decide) x0 h3
  have y3 := mul_bd2 (g := q1) (o := o0) (C := 16777216) (D := 8388608) (by decide) (by decide) x1 h2
  unfold Bd at h0 h1
  rw [w64 (x := g0 - (q0 * o0 - q1 * o1)) (by omega) (by omega), w64 (x := g1 - (q0 * o1 + q1 * o0)) (by omega) (by omega)]
theorem four_sq {a N : Int} (h : 2 * a ≤ N ∧ -N ≤ 2 * a) : 4 * (a * a) ≤ N * N := by
  have h3 : 0 ≤ (N - 2 * a) * (N + 2 * a) := Int.mul_nonneg (by omega) (by omega)
  have e : (N - 2 * a) * (N + 2 * a) = N * N - 4 * (a * a) := by grind
  omega
theorem rest_id (g0 g1 o0 o1 q0 q1 : Int) : ((g0 - (q0*o0 - q1*o1)) * (g0 - (q0*o0 - q1*o1)) + (g1 - (q0*o1 + q1*o0)) * (g1 - (q0*o1 + q1*o0))) * (o0*o0+o1*o1) = (g0*o0+g1*o1 - q0*(o0*o0+o1*o1)) * (g0*o0+g1*o1 - q0*(o0*o0+o1*o1)) + (g1*o0 - g0*o1 - q1*(o0*o0+o1*o1)) * (g1*o0 - g0*o1 - q1*(o0*o0+o1*o1)) := by grind
theorem rest_small {g0 g1 o0 o1 q0 q1 : Int} (ho : ¬ (o0 = 0 ∧ o1 = 0)) (h : Divd g0 g1 o0 o1 q0 q1) :
    2 * ((g0 - (q0*o0 - q1*o1)) * (g0 - (q0*o0 - q1*o1)) + (g1 - (q0*o1 + q1*o0)) * (g1 - (q0*o1 + q1*o0))) ≤ o0*o0+o1*o1 := by
  have hN := n_pos ho
  have e := rest_id g0 g1 o0 o1 q0 q1
  have f0 := four_sq h.c0
  have f1 := four_sq h.c1
  generalize (g0 - (q0*o0 - q1*o1)) * (g0 - (q0*o0 - q1*o1)) + (g1 - (q0*o1 + q1*o0)) * (g1 - (q0*o1 + q1*o0)) = R at *
  generalize (g0*o0+g1*o1 - q0*(o0*o0+o1*o1)) * (g0*o0+g1*o1 - q0*(o0*o0+o1*o1)) = X at *
  generalize (g1*o0 - g0*o1 - q1*(o0*o0+o1*o1)) * (g1*o0 - g0*o1 - q1*(o0*o0+o1*o1)) = Y at *
  generalize o0*o0+o1*o1 = M at *
  have : (2 * R) * M ≤ M * M := by
    have e2 : (2 * R) * M = 2 * (R * M) := Int.mul_assoc ..
    omega
  exact Int.le_of_mul_le_mul_right this hN
/-- 'd' divides 'x' -/
def Dv (d0 d1 x0 x1 : Int) : Prop := ∃ a b, x0 = a * d0 - b * d1 ∧ x1 = a * d1 + b * d0
theorem Dv.self (d0 d1 : Int) : Dv d0 d1 d0 d1 := ⟨1, 0, by grind, by grind⟩
theorem Dv.zero (d0 d1 : Int) : Dv d0 d1 0 0 := ⟨0, 0, by grind, by grind⟩
theorem Dv.sub {d0 d1 g0 g1 o0 o1 : Int} (h : Dv d0 d1 g0 g1) (k : Dv d0 d1 o0 o1) (q0 q1 : Int) : Dv d0 d1 (g0 - (q0 * o0 - q1 * o1)) (g1 - (q0 * o1 + q1 * o0)) := by
  obtain ⟨a, b, rfl, rfl⟩ := h
  obtain ⟨c, d, rfl, rfl⟩ := k
  exact ⟨a - (q0 * c - q1 * d), b - (q0 * d + q1 * c), by grind, by grind⟩
theorem Dv.unsub {d0 d1 g0 g1 o0 o1 q0 q1 : Int} (h : Dv d0 d1 (g0 - (q0 * o0 - q1 * o1)) (g1 - (q0 * o1 + q1 * o0))) (k : Dv d0 d1 o0 o1) : Dv d0 d1 g0 g1 := by
  have := h.sub k (-q0) (-q1)
  rwa [show g0 - (q0 * o0 - q1 * o1) - (-q0 * o0 - -q1 * o1) = g0 by grind, show g1 - (q0 * o1 + q1 * o0) - (-q0 * o1 + -q1 * o0) = g1 by grind] at this
theorem Dv.rot {d0 d1 x y : Int} (h : Dv d0 d1 x y) : Dv d0 d1 (-y) x := by
  obtain ⟨a, b, rfl, rfl⟩ := h
  exact ⟨-b, a, by grind, by grind⟩
theorem sq_zero {x : Int} (h : x * x ≤ 0) : x = 0 := by
  have := sq_ge x; omega
/-- exact division leaves nothing -/
theorem rest_none {g0 g1 o0 o1 q0 q1 : Int} (ho : ¬ (o0 = 0 ∧ o1 = 0)) (h : Divd g0 g1 o0 o1 q0 q1) (hd : Dv o0 o1 g0 g1) :
    g0 - (q0*o0 - q1*o1) = 0 ∧ g1 - (q0*o1 + q1*o0) = 0 := by
  have hN := n_pos ho
  obtain ⟨a, b, ha, hb⟩ := hd
  have e := rest_id g0 g1 o0 o1 q0 q1
  have z : ∀ c q t : Int, t = c * (o0*o0+o1*o1) → (2 * (t - q * (o0*o0+o1*o1)) ≤ o0*o0+o1*o1 ∧ -(o0*o0+o1*o1) ≤ 2 * (t - q * (o0*o0+o1*o1))) → t - q * (o0*o0+o1*o1) = 0 := by
    intro c q t ht hc
    generalize o0*o0+o1*o1 = M at *
    subst ht
    have e1 : c * M - q * M = (c - q) * M := by grind
    rw [e1] at hc ⊢
    by_cases hz : c - q = 0
    · rw [hz]; exact Int.zero_mul _
    · exfalso
      by_cases hp : 0 < c - q
      · have : 0 ≤ (c - q - 1) * M := Int.mul_nonneg (by omega) (by omega)
        have e2 : (c - q - 1) * M = (c - q) * M - M := by grind
        omega
      · have : 0 ≤ (-(c - q) - 1) * M := Int.mul_nonneg (by omega) (by omega)
        have e2 : (-(c - q) - 1) * M = -((c - q) * M) - M := by grind
        omega
  have z0 := z a q0 (g0*o0+g1*o1) (by rw [ha, hb]; grind) h.c0
  have z1 := z b q1 (g1*o0-g0*o1) (by rw [ha, hb]; grind) h.c1
  rw [z0, z1] at e
  have s0 := sq_nn (g0 - (q0*o0 - q1*o1))
  have s1 := sq_nn (g1 - (q0*o1 + q1*o0))
  have hz : (g0 - (q0*o0 - q1*o1)) * (g0 - (q0*o0 - q1*o1)) + (g1 - (q0*o1 + q1*o0)) * (g1 - (q0*o1 + q1*o0)) ≤ 0 := by
    apply Int.le_of_mul_le_mul_right (a := o0*o0+o1*o1) _ hN
    rw [e]; simp
  exact ⟨sq_zero (by omega), sq_zero (by omega)⟩
theorem sq_le {x : Int} (h : x * x ≤ 70368744177664) : Bd x := by
  have c1 : -8388608 ≤ x := by
    apply Int.not_lt.mp
    intro hc
    have : 0 ≤ (-8388609 - x) * (-x) := Int.mul_nonneg (by omega) (by omega)
    have e : (-8388609 - x) * (-x) = 8388609 * x + x * x := by grind
    omega
  have c2 : x ≤ 8388608 := by
    apply Int.not_lt.mp
    intro hc
    have : 0 ≤ (x - 8388609) * x := Int.mul_nonneg (by omega) (by omega)
    have e : (x - 8388609) * x = x * x - 8388609 * x := by grind
    omega
  exact ⟨c1, c2⟩
theorem By_ok {g0 g1 o0 o1 : Int} (h0 : Bd g0) (h1 : Bd g1) (h2 : Bd o0) (h3 : Bd o1) :
    (o0 = 0 ∧ o1 = 0 ∧ f_plane_Gauss_By g0 g1 o0 o1 = some ((0, 0), (0, 0), 6)) ∨ (¬ (o0 = 0 ∧ o1 = 0) ∧ ∃ q0 q1, f_plane_Gauss_By g0 g1 o0 o1 = some ((q0, q1), (g0 - (q0 * o0 - q1 * o1), g1 - (q0 * o1 + q1 * o0)), 0) ∧ Divd g0 g1 o0 o1 q0 q1 ∧ (-16777216 ≤ q0 ∧ q0 ≤ 16777216) ∧ (-16777216 ≤ q1 ∧ q1 ≤ 16777216)) := by
  unfold f_plane_Gauss_By
  rw [h0.may h1, h2.may h3]
  simp only [Option.bind_some, Bool.not_true, Bool.false_eq_true, if_false]
  by_cases hz : o0 = 0 ∧ o1 = 0
  · left
    obtain ⟨rfl, rfl⟩ := hz
    exact ⟨rfl, rfl, by rw [if_pos (by decide)]⟩
  · right
    obtain ⟨q0, q1, e1, e2, e3, e4⟩ := by_ok h0 h1 h2 h3 hz
    refine ⟨hz, q0, q1, ?_, e2, e3, e4⟩
    rw [if_neg (by simp only [Bool.and_true, Bool.and_eq_true, beq_iff_eq]; exact hz), e1]; rfl
theorem dv_ok {d0 d1 g0 g1 : Int} (h0 : Bd g0) (h1 : Bd g1) (h2 : Bd d0) (h3 : Bd d1) (h : Dv d0 d1 g0 g1) : f_foghornlaw03_divides d0 d1 g0 g1 = some true := by
  unfold f_foghornlaw03_divides
  rcases By_ok h0 h1 h2 h3 with ⟨rfl, rfl, e⟩ | ⟨hz, q0, q1, e, e2, _, _⟩
  · obtain ⟨a, b, ha, hb⟩ := h
    have z0 : g0 = 0 := by rw [ha]; simp
    have z1 : g1 = 0 := by rw [hb]; simp
    subst z0 z1
    rw [e]; rfl
  · obtain ⟨r0, r1⟩ := rest_none hz e2 h
    rw [e, r0, r1]; rfl
theorem Times_ok {a b c d C D : Int} (hC : 0 ≤ C) (hD : 0 ≤ D) (hC2 : C ≤ 1073741824) (hD2 : D ≤ 1073741824) (ha : -C ≤ a ∧ a ≤ C) (hb : -C ≤ b ∧ b ≤ C) (hc : -D ≤ c ∧ c ≤ D) (hd : -D ≤ d ∧ d ≤ D) (hCD : C * D ≤ 4611686018427387903) :
    f_plane_Gauss_Times a b c d = some ((a * c - b * d, a * d + b * c), 0) := by
  unfold f_plane_Gauss_Times
  rw [may_ok (by omega) (by omega), may_ok (by omega) (by omega)]
  simp only [Option.bind_some, Bool.not_true, Bool.false_eq_true, if_false]
  rw [times_ok hC hD ha hb hc hd hCD]; rfl
/-! ### Classes -/
theorem iand1 (n : Int) : iand .i64 n 1 = n % 2 := by
  have h3 : (BitVec.ofInt IntKind.i64.bits n &&& BitVec.ofInt IntKind.i64.bits 1).toNat = (n % 2).toNat := by
    rw [BitVec.toNat_and]
    show (BitVec.ofInt 64 n).toNat &&& (BitVec.ofInt 64 1).toNat = _
    have e3 : (BitVec.ofInt 64 1).toNat = 2 ^ 1 - 1 := by decide
    rw [e3, Nat.and_two_pow_sub_one_eq_mod, BitVec.toNat_ofInt]
    omega
  unfold iand
  rw [h3, w64 (by omega) (by omega)]; omega
def bt (g : Int × Int) : Int := (g.1 + g.2) % 2
def hf (g : Int × Int) : Int × Int := ((g.1 - bt g + g.2) / 2, (g.2 - (g.1 - bt g)) / 2)
theorem bt_b (g : Int × Int) : 0 ≤ bt g ∧ bt g < 2 := by unfold bt; omega
theorem hf_eq (g : Int × Int) : g.1 = bt g + ((hf g).1 - (hf g).2) ∧ g.2 = (hf g).1 + (hf g).2 := by
  unfold hf bt
  simp only
  omega
def B2 (g : Int × Int) : Prop := Bd g.1 ∧ Bd g.2
theorem hf_bd {g : Int × Int} (h : B2 g) : B2 (hf g) := by
  have e := hf_eq g
  have b := bt_b g
  unfold B2 Bd at *
  omega
theorem half_ok {g : Int × Int} (h : B2 g) : f_plane_Gauss_half g.1 g.2 = some (hf g, bt g) := by
  have b := bt_b g
  have e := hf_eq g
  unfold B2 Bd at h
  unfold f_plane_Gauss_half
  rw [w64 (x := g.1 + g.2) (by omega) (by omega), iand1, show (g.1 + g.2) % 2 = bt g from rfl, w64 (x := g.1 - bt g) (by omega) (by omega), w64 (x := g.1 - bt g + g.2) (by omega) (by omega), w64 (x := g.2 - (g.1 - bt g)) (by omega) (by omega)]
  rw [show g.1 - bt g + g.2 = 2 * (hf g).1 by omega, show g.2 - (g.1 - bt g) = 2 * (hf g).2 by omega, Int.mul_tdiv_cancel_left _ (by decide), Int.mul_tdiv_cancel_left _ (by decide), w64 (x := (hf g).1) (by omega) (by omega), w64 (x := (hf g).2) (by omega) (by omega), w32 b.1 (by omega)]
def GG (g : Int × Int) : Nat → Int × Int
  | 0 => g
  | j + 1 => hf (GG g j)
def CC (g : Int × Int) : Nat → Nat
  | 0 => 0
  | j + 1 => CC g j + (bt (GG g j)).toNat * 2 ^ j
theorem GG_bd {g : Int × Int} (h : B2 g) : ∀ j, B2 (GG g j)
  | 0 => h
  | j + 1 => hf_bd (GG_bd h j)
theorem CC_lt (g : Int × Int) : ∀ j, CC g j < 2 ^ j
  | 0 => by simp [CC]
  | j + 1 => by
    have := CC_lt g j
    have b := bt_b (GG g j)
    have : (bt (GG g j)).toNat = 0 ∨ (bt (GG g j)).toNat = 1 := by omega
    simp only [CC]
    rw [Nat.pow_succ]
    rcases this with e | e <;> rw [e] <;> omega
theorem class_ok {g : Int × Int} (h : B2 g) {k : Nat} (hk : k ≤ 30) : f_plane_Gauss_Class g.1 g.2 (k : Int) = some ((CC g k : Int), 0) := by
  unfold f_plane_Gauss_Class
  rw [h.1.may h.2]
  simp only [Option.bind_some]
  rw [if_neg (by simp only [Bool.or_eq_true, decide_eq_true_eq, Bool.not_true, Bool.false_eq_true, false_or]; omega)]
  have key : ∀ m i : Nat, i + m = k → loop (f_plane_Gauss_Class.s1 (k : Int)) ((GG g i).1, (GG g i).2, (CC g i : Int), (i : Int)) = some (CC g k : Int) := by
    intro m
    induction m with
    | zero =>
      intro i hi
      obtain rfl : i = k := by omega
      apply loop_done
      simp only [f_plane_Gauss_Class.s1, f_plane_Gauss_Class.s1c]
      rw [if_neg (by simp)]
    | succ m ih =>
      intro i hi
      rw [← ih (i + 1) (by omega)]
      apply loop_step
      simp only [f_plane_Gauss_Class.s1, f_plane_Gauss_Class.s1c]
      have b := bt_b (GG g i)
      have hc := CC_lt g i
      have hp : 2 ^ i ≤ 2 ^ 30 := Nat.pow_le_pow_right (by decide) (by omega)
      obtain ⟨β, hβ⟩ : ∃ β : Nat, bt (GG g i) = (β : Int) := ⟨(bt (GG g i)).toNat, by omega⟩
      have hβ1 : β = 0 ∨ β = 1 := by omega
      have hm : β * 2 ^ i ≤ 2 ^ 30 := by rcases hβ1 with e | e <;> rw [e] <;> omega
      rw [if_pos (by rw [decide_eq_true_eq]; omega), half_ok (GG_bd h i)]
      simp only [Option.bind_some]
      rw [if_pos (by omega), hβ, ishl32 (by omega) (by omega), ior32 (by omega) (by omega), w64 (by omega) (by omega)]
      have e : CC g i ||| β * 2 ^ i = CC g (i + 1) := by
        simp only [CC]
        rw [hβ, Int.toNat_natCast, Nat.or_comm, Nat.mul_comm β, ← Nat.two_pow_add_eq_or_of_lt hc, Nat.add_comm]
      rw [e]; rfl
  have := key k 0 (by omega)
  simp only [GG, CC, Int.natCast_zero] at this
  rw [this]; rfl
theorem GG_front (g : Int × Int) : ∀ j, GG g (j + 1) = GG (hf g) j
  | 0 => rfl
  | j + 1 => by
    have := GG_front g j
    show hf (GG g (j + 1)) = hf (GG (hf g) j)
    rw [this]
theorem CC_front (g : Int × Int) : ∀ k, CC g (k + 1) = (bt g).toNat + 2 * CC (hf g) k
  | 0 => by simp [CC, GG]
  | k + 1 => by
    have ih := CC_front g k
    show CC g (k + 1) + (bt (GG g (k + 1))).toNat * 2 ^ (k + 1) = _
    rw [ih, GG_front]
    simp only [CC]
    rw [Nat.pow_succ, Nat.mul_add, ← Nat.mul_assoc]
    omega
def pw : Nat → Int × Int
  | 0 => (1, 0)
  | k + 1 => ((pw k).1 - (pw k).2, (pw k).1 + (pw k).2)
theorem pw_bd : ∀ k, k < 13 → -64 ≤ (pw k).1 ∧ (pw k).1 ≤ 64 ∧ -64 ≤ (pw k).2 ∧ (pw k).2 ≤ 64 ∧ (pw k).1 * (pw k).1 + (pw k).2 * (pw k).2 = ((2 ^ k : Nat) : Int) := by decide
theorem dv_up {k : Nat} {y0 y1 : Int} : Dv (pw (k + 1)).1 (pw (k + 1)).2 (y0 - y1) (y0 + y1) ↔ Dv (pw k).1 (pw k).2 y0 y1 := by
  simp only [pw]
  generalize (pw k).1 = p0
  generalize (pw k).2 = p1
  constructor
  · rintro ⟨a, b, h1, h2⟩
    refine ⟨a, b, ?_, ?_⟩ <;> grind
  · rintro ⟨a, b, rfl, rfl⟩
    exact ⟨a, b, by grind, by grind⟩
theorem dv_even {k : Nat} {x0 x1 : Int} (h : Dv (pw (k + 1)).1 (pw (k + 1)).2 x0 x1) : ∃ y0 y1, x0 = y0 - y1 ∧ x1 = y0 + y1 := by
  obtain ⟨a, b, h1, h2⟩ := h
  simp only [pw] at h1 h2
  exact ⟨a * (pw k).1 - b * (pw k).2, a * (pw k).2 + b * (pw k).1, by grind, by grind⟩
theorem class_dv : ∀ (k : Nat) (g o : Int × Int), CC g k = CC o k ↔ Dv (pw k).1 (pw k).2 (g.1 - o.1) (g.2 - o.2)
  | 0, g, o => ⟨fun _ => ⟨g.1 - o.1, g.2 - o.2, by simp [pw], by simp [pw]⟩, fun _ => rfl⟩
  | k + 1, g, o => by
    rw [CC_front, CC_front]
    have bg := bt_b g
    have bo := bt_b o
    have eg := hf_eq g
    have eo := hf_eq o
    have ih := class_dv k (hf g) (hf o)
    have eb : bt g = bt o → (g.1 - o.1 = ((hf g).1 - (hf o).1) - ((hf g).2 - (hf o).2) ∧ g.2 - o.2 = ((hf g).1 - (hf o).1) + ((hf g).2 - (hf o).2)) := fun h => by omega
    constructor
    · intro h
      have h1 : bt g = bt o := by omega
      obtain ⟨e1, e2⟩ := eb h1
      rw [e1, e2, dv_up]
      exact ih.1 (by omega)
    · intro h
      obtain ⟨y0, y1, e1, e2⟩ := dv_even h
      have h1 : bt g = bt o := by unfold bt; omega
      obtain ⟨e3, e4⟩ := eb h1
      rw [e3, e4, dv_up] at h
      have := ih.2 h
      rw [h1, this]
theorem norm_big {k : Nat} (hk : k < 13) {x0 x1 : Int} (h : Dv (pw k).1 (pw k).2 x0 x1) (hx : ¬ (x0 = 0 ∧ x1 = 0)) : ((2 ^ k : Nat) : Int) ≤ x0 * x0 + x1 * x1 := by
  obtain ⟨a, b, rfl, rfl⟩ := h
  obtain ⟨_, _, _, _, hn⟩ := pw_bd k hk
  have hab : ¬ (a = 0 ∧ b = 0) := fun ⟨ha, hb⟩ => hx ⟨by rw [ha, hb]; simp, by rw [ha, hb]; simp⟩
  have h1 := n_pos hab
  have e : (a * (pw k).1 - b * (pw k).2) * (a * (pw k).1 - b * (pw k).2) + (a * (pw k).2 + b * (pw k).1) * (a * (pw k).2 + b * (pw k).1) = (a * a + b * b) * ((pw k).1 * (pw k).1 + (pw k).2 * (pw k).2) := by grind
  rw [e, hn]
  have hp0 : (0 : Int) ≤ ((2 ^ k : Nat) : Int) := Int.natCast_nonneg _
  have : 0 ≤ (a * a + b * b - 1) * ((2 ^ k : Nat) : Int) := Int.mul_nonneg (by omega) hp0
  have e2 : (a * a + b * b - 1) * ((2 ^ k : Nat) : Int) = (a * a + b * b) * ((2 ^ k : Nat) : Int) - ((2 ^ k : Nat) : Int) := by grind
  omega
theorem dv_no {d0 d1 g0 g1 : Int} (h0 : Bd g0) (h1 : Bd g1) (h2 : Bd d0) (h3 : Bd d1) (hd : ¬ (d0 = 0 ∧ d1 = 0)) (h : ¬ Dv d0 d1 g0 g1) : f_foghornlaw03_divides d0 d1 g0 g1 = some false := by
  unfold f_foghornlaw03_divides
  rcases By_ok h0 h1 h2 h3 with ⟨e0, e1, e⟩ | ⟨hz, q0, q1, e, e2, _, _⟩
  · exact absurd ⟨e0, e1⟩ hd
  · rw [e]
    simp only [Option.bind_some]
    rw [if_neg (by decide)]
    congr 1
    rw [Bool.eq_false_iff]
    simp only [Bool.and_true, ne_eq, Bool.and_eq_true, beq_iff_eq]
    rintro ⟨_, r0, r1⟩
    exact h ⟨q0, q1, by omega, by omega⟩
/-! ### First -/
def PF (c k : Nat) : Nat → Int × Int
  | 0 => (0, 0)
  | m + 1 => ((PF c k m).1 - (PF c k m).2 + ((c / 2 ^ (k - 1 - m) % 2 : Nat) : Int), (PF c k m).1 + (PF c k m).2)
theorem PF_bd (c k : Nat) : ∀ m, -((2 ^ m : Nat) : Int) < (PF c k m).1 ∧ (PF c k m).1 < ((2 ^ m : Nat) : Int) ∧ -((2 ^ m : Nat) : Int) < (PF c k m).2 ∧ (PF c k m).2 < ((2 ^ m : Nat) : Int)
  | 0 => by simp [PF]
  | m + 1 => by
    have := PF_bd c k m
    simp only [PF]
    rw [Nat.pow_succ]
    omega
theorem first_ok {c k : Nat} (hk : k < 13) (hc : c < 2 ^ k) : f_plane_First (c : Int) (k : Int) = some (PF c k k, 0) := by
  have hp : 2 ^ k ≤ 2 ^ 12 := Nat.pow_le_pow_right (by decide) (by omega)
  unfold f_plane_First
  have hs : ishr .u32 (c : Int) (k : Int) = 0 := by
    rw [ishr_nat (show k ≤ 32 by omega), Nat.div_eq_of_lt hc]; rfl
  rw [if_neg (by simp only [Bool.or_eq_true, decide_eq_true_eq]; omega), if_pos (by omega), hs]
  simp only [Option.bind_some]
  rw [if_neg (by decide), w64 (by omega) (by omega)]
  have key : ∀ j m : Nat, m + j = k → loop (f_plane_First.s1 (c : Int)) ((PF c k m).1, (PF c k m).2, (k : Int) - 1 - (m : Int)) = some (PF c k k) := by
    intro j
    induction j with
    | zero =>
      intro m hm
      obtain rfl : m = k := by omega
      apply loop_done
      simp only [f_plane_First.s1, f_plane_First.s1c]
      rw [if_neg (by rw [decide_eq_true_eq]; omega)]
    | succ j ih =>
      intro m hm
      rw [← ih (m + 1) (by omega)]
      apply loop_step
      simp only [f_plane_First.s1, f_plane_First.s1c]
      have b := PF_bd c k m
      have hpm : 2 ^ m ≤ 2 ^ 12 := Nat.pow_le_pow_right (by decide) (by omega)
      have ei : (k : Int) - 1 - (m : Int) = ((k - 1 - m : Nat) : Int) := by omega
      have hbit : iand .u32 (ishr .u32 (c : Int) ((k - 1 - m : Nat) : Int)) 1 = ((c / 2 ^ (k - 1 - m) % 2 : Nat) : Int) := by
        have hd : c / 2 ^ (k - 1 - m) ≤ c := Nat.div_le_self _ _
        rw [ishr_nat (show k - 1 - m ≤ 32 by omega), show (1 : Int) = ((1 : Nat) : Int) from rfl, iand32 (by omega) (by omega), Nat.and_one_is_mod]
      rw [ei, if_pos (by rw [decide_eq_true_eq]; omega), times_ok (C := 4096) (D := 1) (by decide) (by decide) (by omega) (by omega) (by decide) (by decide) (by decide)]
      simp only [Option.bind_some]
      rw [if_pos (by omega), hbit, Int.mul_one, Int.mul_one, w64 (x := ((c / 2 ^ (k - 1 - m) % 2 : Nat) : Int)) (by omega) (by omega), w64 (by omega) (by omega), w64 (by omega) (by omega)]
      simp only [PF]
      rw [show ((k - 1 - m : Nat) : Int) - 1 = (k : Int) - 1 - ((m + 1 : Nat) : Int) by omega]
  have := key k 0 (by omega)
  rw [show (k : Int) - 1 - ((0 : Nat) : Int) = (k : Int) - 1 by omega] at this
  simp only [PF] at this
  rw [this]; rfl
theorem PF_hf (c k m : Nat) : bt (PF c k (m + 1)) = ((c / 2 ^ (k - 1 - m) % 2 : Nat) : Int) ∧ hf (PF c k (m + 1)) = PF c k m := by
  have h1 : bt (PF c k (m + 1)) = ((c / 2 ^ (k - 1 - m) % 2 : Nat) : Int) := by
    unfold bt
    simp only [PF]
    omega
  refine ⟨h1, ?_⟩
  have e := hf_eq (PF c k (m + 1))
  rw [h1] at e
  generalize hf (PF c k (m + 1)) = X at *
  simp only [PF] at e
  apply Prod.ext <;> omega
theorem PF_class (c k : Nat) : ∀ m, m ≤ k → CC (PF c k m) m = c / 2 ^ (k - m) % 2 ^ m
  | 0, _ => by simp [CC, Nat.mod_one]
  | m + 1, hm => by
    obtain ⟨h1, h2⟩ := PF_hf c k m
    rw [CC_front, h1, h2, PF_class c k m (by omega), Int.toNat_natCast]
    rw [show k - m = k - (m + 1) + 1 by omega, show k - 1 - m = k - (m + 1) by omega, Nat.pow_succ, ← Nat.div_div_eq_div_mul]
    generalize c / 2 ^ (k - (m + 1)) = x
    rw [Nat.pow_succ, Nat.mul_comm (2 ^ m) 2, Nat.mod_mul]
theorem CC_mod (g : Int × Int) (j : Nat) : ∀ d, CC g (j + d) % 2 ^ j = CC g j
  | 0 => Nat.mod_eq_of_lt (CC_lt g j)
  | d + 1 => by
    have ih := CC_mod g j d
    show (CC g (j + d) + (bt (GG g (j + d))).toNat * 2 ^ (j + d)) % 2 ^ j = _
    rw [Nat.pow_add, ← Nat.mul_assoc, Nat.mul_right_comm, Nat.add_mul_mod_self_right, ih]
/-! ### Depth -/
theorem CC_zero (g : Int × Int) : ∀ k, CC g k = 0 ↔ ∀ j, j < k → bt (GG g j) = 0
  | 0 => ⟨fun _ j hj => by omega, fun _ => rfl⟩
  | k + 1 => by
    have ih := CC_zero g k
    have b := bt_b (GG g k)
    have hp := Nat.two_pow_pos k
    have hb : (bt (GG g k)).toNat * 2 ^ k = 0 ↔ bt (GG g k) = 0 := by
      rw [Nat.mul_eq_zero]; omega
    constructor
    · intro h j hj
      simp only [CC] at h
      by_cases e : j = k
      · subst e; exact hb.1 (by omega)
      · exact ih.1 (by omega) j (by omega)
    · intro h
      simp only [CC]
      rw [hb.2 (h k (by omega)), ih.2 fun j hj => h j (by omega)]
theorem depth_ok {g : Int × Int} (h : B2 g) (hg : ¬ (g.1 = 0 ∧ g.2 = 0)) : ∃ n : Nat, f_plane_Gauss_Depth g.1 g.2 = some ((n : Int), 0) ∧ ∀ k, CC g k = 0 ↔ k ≤ n := by
  unfold f_plane_Gauss_Depth
  rw [h.1.may h.2]
  simp only [Option.bind_some, Bool.not_true, Bool.false_eq_true, if_false]
  rw [if_neg (by simp only [Bool.and_true, Bool.and_eq_true, beq_iff_eq]; exact hg), half_ok h]
  simp only [Option.bind_some]
  have key : ∀ (M n : Nat), ((GG g n).1 * (GG g n).1 + (GG g n).2 * (GG g n).2).toNat < M → (n : Int) + ((GG g n).1 * (GG g n).1 + (GG g n).2 * (GG g n).2) ≤ 1000000000000000 → ¬ ((GG g n).1 = 0 ∧ (GG g n).2 = 0) → (∀ j, j < n → bt (GG g j) = 0) →
      ∃ r : Nat, loop f_plane_Gauss_Depth.s1 ((n : Int), (GG g (n + 1)).1, (GG g (n + 1)).2, bt (GG g n)) = some (r : Int) ∧ (∀ j, j < r → bt (GG g j) = 0) ∧ bt (GG g r) = 1 := by
    intro M
    induction M with
    | zero => intro n h; omega
    | succ M ih =>
      intro n hM hN hz hb
      have b := bt_b (GG g n)
      by_cases hc : bt (GG g n) = 0
      · have e := hf_eq (GG g n)
        rw [hc] at e
        have hnp := n_pos hz
        have e1 : (GG g (n + 1)) = hf (GG g n) := rfl
        have e2 : (GG g n).1 * (GG g n).1 + (GG g n).2 * (GG g n).2 = 2 * ((GG g (n + 1)).1 * (GG g (n + 1)).1 + (GG g (n + 1)).2 * (GG g (n + 1)).2) := by
          rw [e1, e.1, e.2]; grind
        have hz2 : ¬ ((GG g (n + 1)).1 = 0 ∧ (GG g (n + 1)).2 = 0) := fun ⟨h1, h2⟩ => by
          rw [h1, h2] at e2
          omega
        have hnp2 := n_pos hz2
        obtain ⟨r, r1, r2, r3⟩ := ih (n + 1) (by omega) (by omega) hz2 (fun j hj => by
          by_cases ej : j = n
          · subst ej; exact hc
          · exact hb j (by omega))
        refine ⟨r, (loop_step ?_).trans r1, r2, r3⟩
        simp only [f_plane_Gauss_Depth.s1, f_plane_Gauss_Depth.s1c]
        rw [if_pos (by rw [beq_iff_eq]; exact hc), half_ok (GG_bd h (n + 1))]
        simp only [Option.bind_some]
        rw [w64 (by omega) (by omega)]; rfl
      · refine ⟨n, loop_done ?_, hb, by omega⟩
        simp only [f_plane_Gauss_Depth.s1, f_plane_Gauss_Depth.s1c]
        rw [if_neg (by rw [beq_iff_eq]; exact hc)]
  have t0 := h.1.sq
  have t1 := h.2.sq
  obtain ⟨r, r1, r2, r3⟩ := key _ 0 (Nat.lt_succ_self _) (by simp only [GG]; omega) hg (fun j hj => by omega)
  simp only [GG] at r1
  rw [show ((0 : Nat) : Int) = 0 from rfl] at r1
  rw [r1]
  refine ⟨r, rfl, fun k => ?_⟩
  rw [CC_zero]
  constructor
  · intro hk
    apply Nat.le_of_not_lt
    intro hlt
    have := hk r hlt
    omega
  · intro hk j hj
    exact r2 j (by omega)
theorem GG_zero : ∀ j, GG (0, 0) j = (0, 0)
  | 0 => rfl
  | j + 1 => by show hf (GG (0, 0) j) = _; rw [GG_zero j]; rfl
theorem power_ok {depth : Int} {k : Nat} (hk : k < 13) (he : (IntKind.i64.wrap (depth.tmod 13 + 13)).tmod 13 = (k : Int)) : loop (f_foghornlaw03_PlaneClasses.s1 depth) (1, 0, 0) = some (.inl (pw k)) := by
  have key : ∀ m i : Nat, i + m = k → loop (f_foghornlaw03_PlaneClasses.s1 depth) ((pw i).1, (pw i).2, (i : Int)) = some (.inl (pw k)) := by
    intro m
    induction m with
    | zero =>
      intro i hi
      obtain rfl : i = k := by omega
      apply loop_done
      simp only [f_foghornlaw03_PlaneClasses.s1, f_foghornlaw03_PlaneClasses.s1c]
      rw [he, if_neg (by simp)]
    | succ m ih =>
      intro i hi
      rw [← ih (i + 1) (by omega)]
      apply loop_step
      simp only [f_foghornlaw03_PlaneClasses.s1, f_foghornlaw03_PlaneClasses.s1c]
      obtain ⟨b1, b2, b3, b4, _⟩ := pw_bd i (by omega)
      rw [he, if_pos (by rw [decide_eq_true_eq]; omega), Times_ok (C := 64) (D := 1) (by decide) (by decide) (by decide) (by decide) (by omega) (by omega) (by decide) (by decide) (by decide)]
      simp only [Option.bind_some, bne_self_eq_false, Bool.false_eq_true, if_false]
      rw [w64 (by omega) (by omega), Int.mul_one, Int.mul_one]; rfl
  exact key k 0 (by omega)
set_option maxHeartbeats 1000000 in
theorem classes_true (a0 : Int) (u0 : (Lit.int .i16 a0).wf = true) (a1 : Int) (u1 : (Lit.int .i16 a1).wf = true) (b0 : Int) (u2 : (Lit.int .i16 b0).wf = true) (b1 : Int) (u3 : (Lit.int .i16 b1).wf = true) (depth : Int) (u4 : (Lit.int .i64 depth).wf = true) :
    f_foghornlaw03_PlaneClasses a0 a1 b0 b1 depth = some true := by
  have v0 := wf_i16 u0; have v1 := wf_i16 u1; have v2 := wf_i16 u2; have v3 := wf_i16 u3
  obtain ⟨k, hk, he⟩ : ∃ k : Nat, k < 13 ∧ (IntKind.i64.wrap (depth.tmod 13 + 13)).tmod 13 = (k : Int) := by
    have m1 : depth.tmod 13 < 13 := Int.tmod_lt_of_pos depth (by decide)
    have m2 : -13 < depth.tmod 13 := by
      by_cases h0 : 0 ≤ depth
      · have := Int.tmod_nonneg 13 h0; omega
      · have h3 := Int.neg_tmod (a := -depth) (b := 13)
        have h4 := Int.tmod_lt_of_pos (-depth) (show (0 : Int) < 13 by decide)
        rw [Int.neg_neg] at h3
        omega
    rw [w64 (by omega) (by omega), Int.tmod_eq_emod_of_nonneg (by omega)]
    exact ⟨((depth.tmod 13 + 13) % 13).toNat, by omega, by omega⟩
  unfold f_foghornlaw03_PlaneClasses
  rw [power_ok hk he]
  simp only [Option.bind_some, sm, he]
  rw [w64 (x := a0) (by omega) (by omega), w64 (x := a1) (by omega) (by omega), w64 (x := b0) (by omega) (by omega), w64 (x := b1) (by omega) (by omega), w64 (x := a0 - b0) (by omega) (by omega), w64 (x := a1 - b1) (by omega) (by omega)]
  have bg : B2 (a0, a1) := by unfold B2 Bd; simp only; omega
  have bo : B2 (b0, b1) := by unfold B2 Bd; simp only; omega
  have d0 : Bd (a0 - b0) := by unfold Bd; omega
  have d1 : Bd (a1 - b1) := by unfold Bd; omega
  have cg := class_ok bg (k := k) (by omega)
  have co := class_ok bo (k := k) (by omega)
  have ch := class_ok bg (k := k / 2) (by omega)
  simp only at cg co ch
  have cl := CC_lt (a0, a1) k
  have cdv := class_dv k (a0, a1) (b0, b1)
  simp only at cdv
  have hp12 : 2 ^ k ≤ 2 ^ 12 := Nat.pow_le_pow_right (by decide) (by omega)
  have hph : 2 ^ (k / 2) ≤ 2 ^ 12 := Nat.pow_le_pow_right (by decide) (by omega)
  obtain ⟨pb1, pb2, pb3, pb4, pn⟩ := pw_bd k hk
  have bp0 : Bd (pw k).1 := by unfold Bd; omega
  have bp1 : Bd (pw k).2 := by unfold Bd; omega
  have hpz : ¬ ((pw k).1 = 0 ∧ (pw k).2 = 0) := fun ⟨e1, e2⟩ => by
    rw [e1, e2] at pn
    have := Nat.two_pow_pos k
    omega
  have nm : f_plane_Gauss_Norm (a0 - b0) (a1 - b1) = some ((a0 - b0) * (a0 - b0) + (a1 - b1) * (a1 - b1), 0) := by
    unfold f_plane_Gauss_Norm
    rw [d0.may d1, norm_ok d0 d1]; rfl
  have fi := first_ok hk cl
  have pfb := PF_bd (CC (a0, a1) k) k k
  have bpf : B2 (PF (CC (a0, a1) k) k k) := by unfold B2 Bd; omega
  have cf := class_ok bpf (k := k) (by omega)
  rw [PF_class (CC (a0, a1) k) k k (Nat.le_refl _), Nat.sub_self, Nat.pow_zero, Nat.div_one, Nat.mod_eq_of_lt cl] at cf
  have sh0 : ishr .u32 ((CC (a0, a1) k : Nat) : Int) (k : Int) = 0 := by
    rw [ishr_nat (show k ≤ 32 by omega), Nat.div_eq_of_lt cl]; rfl
  have hh : IntKind.i64.wrap ((k : Int).tdiv 2) = ((k / 2 : Nat) : Int) := by
    rw [show (2 : Int) = ((2 : Nat) : Int) from rfl, tdiv_nat, w64 (by omega) (by omega)]
  have hmask : iand .u32 ((CC (a0, a1) k : Nat) : Int) (IntKind.u32.wrap (ishl .u32 1 ((k / 2 : Nat) : Int) - 1)) = ((CC (a0, a1) (k / 2) : Nat) : Int) := by
    have hpp := Nat.two_pow_pos (k / 2)
    rw [show (1 : Int) = ((1 : Nat) : Int) from rfl, ishl32 (by omega) (by omega), Nat.one_mul, w32 (by omega) (by omega), show ((2 ^ (k / 2) : Nat) : Int) - ((1 : Nat) : Int) = ((2 ^ (k / 2) - 1 : Nat) : Int) by omega, iand32 (by omega) (by omega), Nat.and_two_pow_sub_one_eq_mod]
    have := CC_mod (a0, a1) (k / 2) (k - k / 2)
    rw [show k / 2 + (k - k / 2) = k by omega] at this
    rw [this]
  have hz34 : ∃ q : Bool, f_foghornlaw03_divides (pw k).1 (pw k).2 (a0 - b0) (a1 - b1) = some q ∧ q = (((CC (a0, a1) k : Nat) : Int) == ((CC (b0, b1) k : Nat) : Int)) := by
    by_cases hD : Dv (pw k).1 (pw k).2 (a0 - b0) (a1 - b1)
    · refine ⟨true, dv_ok d0 d1 bp0 bp1 hD, ?_⟩
      rw [cdv.2 hD]; simp
    · refine ⟨false, dv_no d0 d1 bp0 bp1 hpz hD, ?_⟩
      symm
      rw [beq_eq_false_iff_ne]
      intro h
      exact hD (cdv.1 (by omega))
  obtain ⟨q, q1, q2⟩ := hz34
  have hz44 : (if ((((CC (a0, a1) k : Nat) : Int) == ((CC (b0, b1) k : Nat) : Int)) && (!(((a0 - b0) == (0 : Int)) && (((a1 - b1) == (0 : Int)) && true)))) = true then (if 0 ≤ (k : Int) then (some (decide ((a0 - b0) * (a0 - b0) + (a1 - b1) * (a1 - b1) < (ishl .i64 (1 : Int) (k : Int))))) else none) else (some false)) = some false := by
    split
    · rename_i h
      simp only [Bool.and_true, Bool.and_eq_true, Bool.not_eq_true', beq_iff_eq] at h
      obtain ⟨h1, h2⟩ := h
      have hD := cdv.1 (by omega)
      have hne : ¬ (a0 - b0 = 0 ∧ a1 - b1 = 0) := fun ⟨e1, e2⟩ => by rw [e1, e2] at h2; cases h2
      have := norm_big hk hD hne
      rw [if_pos (by omega), show (1 : Int) = ((1 : Nat) : Int) from rfl, ishl64 (by omega) (by omega), Nat.one_mul, decide_eq_false (by omega)]
    · rfl
  rw [cg, co, nm]
  simp only [Option.bind_some, bne_self_eq_false, Bool.or_self, Bool.false_eq_true, if_false]
  rw [q1]
  simp only [Option.bind_some, q2, bne_self_eq_false, Bool.false_eq_true, if_false]
  rw [hz44]
  simp only [Option.bind_some, Bool.false_eq_true, if_false]
  rw [if_pos (by omega), sh0]
  simp only [Option.bind_some, bne_self_eq_false, Bool.false_eq_true, if_false]
  rw [fi]
  simp only [Option.bind_some]
  rw [cf, hh, ch]
  simp only [Option.bind_some]
  by_cases hg : a0 = 0 ∧ a1 = 0
  · obtain ⟨rfl, rfl⟩ := hg
    have dz : f_plane_Gauss_Depth 0 0 = some (0, 6) := rfl
    have c0 : CC (0, 0) k = 0 := (CC_zero (0, 0) k).2 fun j hj => by rw [GG_zero]; rfl
    rw [dz]
    simp only [Option.bind_some, bne_self_eq_false, Bool.or_self, Bool.false_eq_true, if_false]
    rw [if_pos (by omega), hmask]
    simp only [Option.bind_some, bne_self_eq_false, Bool.false_eq_true, if_false, beq_self_eq_true, Bool.and_self, if_true, c0, Int.natCast_zero, awake_true]
  · obtain ⟨n, n1, n2⟩ := depth_ok bg hg
    simp only at n1
    rw [n1]
    simp only [Option.bind_some, bne_self_eq_false, Bool.or_self, Bool.false_eq_true, if_false]
    rw [if_pos (by omega), hmask]
    simp only [Option.bind_some, bne_self_eq_false, Bool.false_eq_true, if_false]
    rw [if_neg (by simp only [Bool.and_true, Bool.and_eq_true, beq_iff_eq]; exact hg)]
    have ee : ((((CC (a0, a1) k : Nat) : Int) == (0 : Int)) == decide ((k : Int) ≤ (n : Int))) = true := by
      have := n2 k
      by_cases h : k ≤ n
      · rw [this.2 h, decide_eq_true (by omega)]; rfl
      · have h0 : CC (a0, a1) k ≠ 0 := fun e => h (this.1 e)
        rw [decide_eq_false (by omega), show (((CC (a0, a1) k : Nat) : Int) == (0 : Int)) = false by rw [beq_eq_false_iff_ne]; omega]; rfl
    rw [ee]
    simp only [beq_self_eq_true, Bool.and_self, if_true, awake_true, Option.bind_some]

end Go.Proofs.Yteifkccomfdciaa
