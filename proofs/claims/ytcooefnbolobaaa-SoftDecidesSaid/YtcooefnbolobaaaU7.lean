/- The plain law of SoftDecides. -/
import Derived.Test.YtcooefnbolobaaaG7
import Derived.Test.YtcooefnbolobaaaGlK
import Derived.Test.YtcooefnbolobaaaGlW
import Derived.Test.YtcooefnbolobaaaGlU
set_option linter.unusedVariables false
set_option linter.unusedSimpArgs false
set_option maxRecDepth 8000
set_option exponentiation.threshold 3000
namespace Go.Proofs.Ytcooefnbolobaaa
open GL Go

/-! ### Functions that this law does not reach -/
noncomputable def f_soft_Point (one0 : Bool) (two1 : Bool) : Option (Fl × Fl) := ((f_soft_sign one0).bind fun q1 => ((f_soft_sign two1).bind fun q5 => (some (q1, q5))))
noncomputable def f_soft_Path.s1c (cx0_Length : Int) (cx0_One : Int) (cx0_Two : Int) (bits1 : (List Bool)) (l2 : (List ((Fl × Fl) × Bool))) (sum10 : Fl) (state11 : Int) (t47 : Int) : Option ((Fl × Int × Int) ⊕ Fl) := (if (decide (t47 < (l2.length : Int))) = true then (if 0 ≤ t47 ∧ t47 < (l2.length : Int) then ((if (decide (t47 < (bits1.length : Int))) = true then (if 0 ≤ t47 ∧ t47 < (bits1.length : Int) then (some (gt bits1 t47)) else none) else (some false)).bind fun z35 => ((f_trellis_Code_Step cx0_Length cx0_One cx0_Two state11 z35).bind fun q36 => ((f_soft_cost q36.2.1 q36.2.2.1 ((gt l2 t47).1) ((gt l2 t47).2)).bind fun q38 => (some (Sum.inl ((fadd sum10 q38), q36.1, (IntKind.i64.wrap (t47 + (1 : Int))))))))) else none) else (some (Sum.inr sum10)))
noncomputable def f_soft_Path.s1 (cx0_Length : Int) (cx0_One : Int) (cx0_Two : Int) (bits1 : (List Bool)) (l2 : (List ((Fl × Fl) × Bool))) (s : (Fl × Int × Int)) : Option ((Fl × Int × Int) ⊕ Fl) := f_soft_Path.s1c cx0_Length cx0_One cx0_Two bits1 l2 s.1 s.2.1 s.2.2
noncomputable def f_soft_Path (cx0_Length : Int) (cx0_One : Int) (cx0_Two : Int) (bits1 : (List Bool)) (l2 : (List ((Fl × Fl) × Bool))) : Option (Fl × Int) := ((f_trellis_Code_Check cx0_Length cx0_One cx0_Two).bind fun q3 => (if (((q3 != (0 : Int)) || (decide ((16384 : Int) < (l2.length : Int)))) || ((IntKind.i64.wrap ((IntKind.i64.wrap ((bits1.length : Int) + cx0_Length)) - (1 : Int))) != (l2.length : Int))) = true then (some ((Fl.bits 0), (1 : Int))) else ((f_grid_Check l2).bind fun q9 => (if (q9.2 != (0 : Int)) = true then (some ((Fl.bits 0), q9.2)) else ((loop (f_soft_Path.s1 cx0_Length cx0_One cx0_Two bits1 l2) ((Fl.bits 0), (0 : Int), (0 : Int))).bind (fun q44 => (some (q44, (0 : Int)))))))))
/-! ### Codes -/
structure CodeOK (n a b : Nat) : Prop where
  n2 : 2 ≤ n
  n7 : n ≤ 7
  a1 : 1 ≤ a
  b1 : 1 ≤ b
  an : a < 2 ^ n
  bn : b < 2 ^ n
  top : 2 ^ (n - 1) ≤ max a b
theorem CodeOK.pq {n a b : Nat} (h : CodeOK n a b) : ∃ q, 2 ^ (n - 1) = 2 * q ∧ 2 ^ n = 4 * q ∧ 1 ≤ q ∧ q ≤ 32 ∧ q = 2 ^ (n - 2) := by
  have h1 := h.n2
  have h2 := h.n7
  have : n = 2 ∨ n = 3 ∨ n = 4 ∨ n = 5 ∨ n = 6 ∨ n = 7 := by omega
  rcases this with rfl | rfl | rfl | rfl | rfl | rfl <;> exact ⟨_, rfl, rfl, by decide, by decide, rfl⟩
theorem len_tab0 : ∀ n : Nat, n < 8 → ∀ m : Nat, m < 128 → (decide (1 ≤ n ∧ 2 ^ (n - 1) ≤ m ∧ m < 2 ^ n) → (f_math_bits_Len32 (m : Int) == some (n : Int)) = true) := by decide +kernel
theorem len_tab (n : Nat) (hn : n < 8) (m : Nat) (hm : m < 128) (h1 : 1 ≤ n) (h2 : 2 ^ (n - 1) ≤ m) (h3 : m < 2 ^ n) : f_math_bits_Len32 (m : Int) = some (n : Int) :=
  eq_of_beq (len_tab0 n hn m hm (by simp [h1, h2, h3]))
theorem check_ok {n a b : Nat} (h : CodeOK n a b) : f_trellis_Code_Check (n : Int) (a : Int) (b : Int) = some 0 := by
  obtain ⟨q, p1, p2, q1, q2, _⟩ := h.pq
  have h1 := h.n2; have h2 := h.n7; have h3 := h.a1; have h4 := h.b1; have h5 := h.an; have h6 := h.bn; have h7 := h.top
  unfold f_trellis_Code_Check
  rw [imin_nat, imax_nat, if_neg (by simp; omega), len_tab n (by omega) (max a b) (by omega) (by omega) h7 (by omega)]
  simp
/-- parity of seven bits -/
def par (x : Nat) : Bool := (List.range 7).foldl (fun c i => c != x.testBit i) false
def al (n s : Nat) (b : Bool) : Nat := s + if b then 2 ^ (n - 1) else 0
def nx (n s : Nat) (b : Bool) : Nat := al n s b / 2
def ob (n a s : Nat) (b : Bool) : Bool := par (al n s b &&& a)
theorem al_lt {n a b : Nat} (h : CodeOK n a b) {s : Nat} (hs : s < 2 ^ (n - 1)) (c : Bool) : al n s c < 2 ^ n := by
  obtain ⟨q, p1, p2, q1, q2, _⟩ := h.pq
  unfold al; rw [p2]; split <;> omega
theorem nx_lt {n a b : Nat} (h : CodeOK n a b) {s : Nat} (hs : s < 2 ^ (n - 1)) (c : Bool) : nx n s c < 2 ^ (n - 1) := by
  have := al_lt h hs c
  obtain ⟨q, p1, p2, q1, q2, _⟩ := h.pq
  unfold nx; rw [p1]; rw [p2] at this; omega
def bitAt (l : List Bool) (i : Nat) : Bool := if i < l.length then gt l (i : Int) else false
def st (n : Nat) (l : List Bool) : Nat → Nat
  | 0 => 0
  | i + 1 => nx n (st n l i) (bitAt l i)
theorem st_lt {n a b : Nat} (h : CodeOK n a b) (l : List Bool) : ∀ i, st n l i < 2 ^ (n - 1)
  | 0 => by obtain ⟨q, p1, _, q1, _⟩ := h.pq; rw [p1]; simp only [st]; omega
  | i + 1 => nx_lt h (st_lt h l i) _
theorem st_down (n : Nat) (l : List Bool) : ∀ k, st n l (l.length + k) * 2 ^ k ≤ st n l l.length
  | 0 => by simp
  | k + 1 => by
    have ih := st_down n l k
    have : st n l (l.length + (k + 1)) = st n l (l.length + k) / 2 := by
      show nx n (st n l (l.length + k)) (bitAt l (l.length + k)) = _
      have : bitAt l (l.length + k) = false := by unfold bitAt; rw [if_neg (by omega)]
      rw [this]; simp [nx, al]
    rw [this, Nat.pow_succ, Nat.mul_comm (2 ^ k) 2, ← Nat.mul_assoc]
    exact Nat.le_trans (Nat.mul_le_mul_right _ (Nat.div_mul_le_self _ 2)) ih
theorem st_end {n a b : Nat} (h : CodeOK n a b) (l : List Bool) : st n l (l.length + (n - 1)) = 0 := by
  have h1 := st_down n l (n - 1)
  have h2 := st_lt h l l.length
  rcases Nat.eq_zero_or_pos (st n l (l.length + (n - 1))) with h0 | h0
  · exact h0
  · have := Nat.mul_le_mul_right (2 ^ (n - 1)) h0
    simp only [Nat.one_mul, Nat.succ_eq_add_one, Nat.zero_add] at this
    omega
theorem bit_read {l : List Bool} (i : Nat) : (if (decide ((i : Int) < (l.length : Int))) = true then (if 0 ≤ (i : Int) ∧ (i : Int) < (l.length : Int) then (some (gt l (i : Int))) else none) else (some false)) = some (bitAt l i) := by
  unfold bitAt
  by_cases h : i < l.length
  · rw [if_pos (by simpa using h), if_pos (by omega), if_pos h]
  · rw [if_neg (by simpa using h), if_neg h]
theorem bitAt_big {l : List Bool} {i : Nat} (h : l.length ≤ i) : bitAt l i = false := by unfold bitAt; rw [if_neg (by omega)]
theorem bitAt_lt {l : List Bool} {i : Nat} (h : i < l.length) : bitAt l i = gt l (i : Int) := by unfold bitAt; rw [if_pos h]
/-! ### The program's steps -/
theorem oc_tab : ∀ x, x < 128 → (f_trellis_Code_step_1 ((x : Nat) : Int) == some (par x)) = true := by decide +kernel
theorem oc_some {x : Nat} (h : x < 128) : f_trellis_Code_step_1 (x : Int) = some (par x) := eq_of_beq (oc_tab x h)
theorem step_ok {n a b : Nat} (h : CodeOK n a b) {s : Nat} (hs : s < 2 ^ (n - 1)) (c : Bool) :
    f_trellis_Code_step (n : Int) (a : Int) (b : Int) (s : Int) c = some (((nx n s c : Nat) : Int), ob n a s c, ob n b s c) := by
  have hal := al_lt h hs c
  obtain ⟨q, p1, p2, q1, q2, _⟩ := h.pq
  have h1 := h.n2; have h2 := h.n7; have h3 := h.a1; have h4 := h.b1; have h5 := h.an; have h6 := h.bn
  have j : f_trellis_Code_step.j1 (a : Int) (b : Int) ((al n s c : Nat) : Int) = some (((nx n s c : Nat) : Int), ob n a s c, ob n b s c) := by
    have e1 : al n s c &&& a ≤ al n s c := Nat.and_le_left
    have e2 : al n s c &&& b ≤ al n s c := Nat.and_le_left
    have hx : al n s c / 2 = nx n s c := rfl
    unfold f_trellis_Code_step.j1
    rw [iand32 (by omega) (by omega), iand32 (by omega) (by omega), oc_some (by omega), oc_some (by omega)]
    simp only [Option.bind_some]
    rw [show ((1 : Int)) = ((1 : Nat) : Int) from rfl, ishr_nat (by decide), show al n s c / 2 ^ 1 = nx n s c from hx, w64 (by omega) (by omega)]
    rfl
  unfold f_trellis_Code_step
  cases c with
  | false =>
    rw [if_neg (by simp), w32 (by omega) (by omega)]
    exact j
  | true =>
    have e1 : al n s true = s ||| 2 ^ (n - 1) := by
      have := Nat.two_pow_add_eq_or_of_lt hs 1
      simp only [al, if_true]
      rw [Nat.or_comm, Nat.add_comm]; simpa using this
    rw [if_pos rfl, w64 (by omega) (by omega), if_pos (by omega), w32 (by omega) (by omega), show (n : Int) - 1 = ((n - 1 : Nat) : Int) by omega, show ((1 : Int)) = ((1 : Nat) : Int) from rfl, ishl32 (by omega) (by omega), Nat.one_mul, ior32 (by omega) (by omega), ← e1]
    exact j
theorem states_ok {n a b : Nat} (h : CodeOK n a b) : f_trellis_Code_States (n : Int) (a : Int) (b : Int) = some (((2 ^ (n - 1) : Nat) : Int), 0) := by
  obtain ⟨q, p1, p2, q1, q2, _⟩ := h.pq
  have h1 := h.n2; have h2 := h.n7
  unfold f_trellis_Code_States
  rw [check_ok h]
  simp only [Option.bind_some]
  rw [if_neg (by simp), w64 (by omega) (by omega), if_pos (by omega), show (n : Int) - 1 = ((n - 1 : Nat) : Int) by omega, show ((1 : Int)) = ((1 : Nat) : Int) from rfl, ishl64 (by omega) (by omega), Nat.one_mul]
theorem state_ok {n a b : Nat} (h : CodeOK n a b) {s : Nat} (hs : s < 2 ^ (n - 1)) : f_trellis_Code_state (n : Int) (a : Int) (b : Int) (s : Int) = some 0 := by
  unfold f_trellis_Code_state
  rw [states_ok h]
  simp only [Option.bind_some]
  generalize 2 ^ (n - 1) = p at *
  rw [if_neg (by simp; omega)]
theorem Step_ok {n a b : Nat} (h : CodeOK n a b) {s : Nat} (hs : s < 2 ^ (n - 1)) (c : Bool) :
    f_trellis_Code_Step (n : Int) (a : Int) (b : Int) (s : Int) c = some (((nx n s c : Nat) : Int), ob n a s c, ob n b s c, 0) := by
  unfold f_trellis_Code_Step
  rw [state_ok h hs]
  simp only [Option.bind_some]
  rw [if_neg (by simp), step_ok h hs]
  rfl

/-! ### Any code -/
theorem j2_tab : ∀ n : Nat, n < 4 → ∀ y : Nat, y < 256 → ((f_math_bits_Len32.j2 (y : Int) ((8 * n : Nat) : Int)).any fun k => decide (((8 * n + (if y = 0 then 0 else if y < 128 then 1 else 8) : Nat) : Int) ≤ k)) = true := by decide +kernel
theorem j2_ge {n y : Nat} (hn : n < 4) (hy : y < 256) : ∃ k : Nat, f_math_bits_Len32.j2 (y : Int) ((8 * n : Nat) : Int) = some (k : Int) ∧ 8 * n + (if y = 0 then 0 else if y < 128 then 1 else 8) ≤ k := by
  have := j2_tab n hn y hy
  cases hh : f_math_bits_Len32.j2 (y : Int) ((8 * n : Nat) : Int) with
  | none => rw [hh] at this; cases this
  | some q =>
    rw [hh] at this
    simp only [Option.any_some, decide_eq_true_eq] at this
    exact ⟨q.toNat, by congr 1; omega, by omega⟩
theorem len_big {m : Nat} (h1 : 128 ≤ m) (h2 : m < 4294967296) : ∃ k : Nat, f_math_bits_Len32 (m : Int) = some (k : Int) ∧ 8 ≤ k := by
  unfold f_math_bits_Len32
  by_cases h3 : 65536 ≤ m
  · rw [if_pos (by rw [decide_eq_true_eq]; omega), show (16 : Int) = ((16 : Nat) : Int) from rfl, ishr_nat (by decide)]
    have hy : m / 2 ^ 16 < 65536 := by rw [show (2 : Nat) ^ 16 = 65536 from rfl]; omega
    have hy1 : 1 ≤ m / 2 ^ 16 := by rw [show (2 : Nat) ^ 16 = 65536 from rfl]; omega
    generalize m / 2 ^ 16 = y at *
    unfold f_math_bits_Len32.j1
    by_cases h4 : 256 ≤ y
    · rw [if_pos (by rw [decide_eq_true_eq]; omega), show (8 : Int) = ((8 : Nat) : Int) from rfl, ishr_nat (by decide), show IntKind.i64.wrap (((16 : Nat) : Int) + ((8 : Nat) : Int)) = ((8 * 3 : Nat) : Int) from by decide]
      have hz : y / 2 ^ 8 < 256 := by rw [show (2 : Nat) ^ 8 = 256 from rfl]; omega
      obtain ⟨k, k1, k2⟩ := j2_ge (n := 3) (by decide) hz
      exact ⟨k, k1, by omega⟩
    · rw [if_neg (by rw [decide_eq_true_eq]; omega), show ((16 : Nat) : Int) = ((8 * 2 : Nat) : Int) from rfl]
      obtain ⟨k, k1, k2⟩ := j2_ge (n := 2) (y := y) (by decide) (by omega)
      exact ⟨k, k1, by omega⟩
  · rw [if_neg (by rw [decide_eq_true_eq]; omega)]
    unfold f_math_bits_Len32.j1
    by_cases h4 : 256 ≤ m
    · rw [if_pos (by rw [decide_eq_true_eq]; omega), show (8 : Int) = ((8 : Nat) : Int) from rfl, ishr_nat (by decide), show IntKind.i64.wrap (0 + ((8 : Nat) : Int)) = ((8 * 1 : Nat) : Int) from by decide]
      have hz : m / 2 ^ 8 < 256 := by rw [show (2 : Nat) ^ 8 = 256 from rfl]; omega
      obtain ⟨k, k1, k2⟩ := j2_ge (n := 1) (by decide) hz
      exact ⟨k, k1, by omega⟩
    · rw [if_neg (by rw [decide_eq_true_eq]; omega), show (0 : Int) = ((8 * 0 : Nat) : Int) from rfl]
      obtain ⟨k, k1, k2⟩ := j2_ge (n := 0) (y := m) (by decide) (by omega)
      exact ⟨k, k1, by rw [if_neg (by omega), if_neg (by omega)] at k2; omega⟩
theorem sh1 {n : Nat} (h7 : n ≤ 7) : ishl .u32 (1 : Int) (n : Int) = ((2 ^ n : Nat) : Int) := by
  have : (2 : Nat) ^ n ≤ 2 ^ 7 := Nat.pow_le_pow_right (by decide) h7
  rw [show ((1 : Int)) = ((1 : Nat) : Int) from rfl, ishl32 (by omega) (by omega), Nat.one_mul]
theorem pow_split {n : Nat} (h2 : 2 ≤ n) (h7 : n ≤ 7) : ∃ q, 2 ^ (n - 1) = 2 * q ∧ 2 ^ n = 4 * q ∧ 1 ≤ q ∧ q ≤ 32 := by
  have : n = 2 ∨ n = 3 ∨ n = 4 ∨ n = 5 ∨ n = 6 ∨ n = 7 := by omega
  refine ⟨2 ^ (n - 2), ?_⟩
  rcases this with h | h | h | h | h | h <;> rw [h] <;> decide
theorem may_val {n a b : Nat} (h2 : 2 ≤ n) (h7 : n ≤ 7) : f_foghornref21_May (n : Int) (a : Int) (b : Int) = some (decide (1 ≤ a ∧ a < 2 ^ n ∧ 1 ≤ b ∧ b < 2 ^ n ∧ (2 ^ (n - 1) ≤ a ∨ 2 ^ (n - 1) ≤ b))) := by
  obtain ⟨q, p1, p2, q1, q2⟩ := pow_split h2 h7
  unfold f_foghornref21_May
  rw [if_neg (by simp; omega), if_pos (by omega), sh1 h7]
  have e : IntKind.u32.wrap (((2 ^ n : Nat) : Int).tdiv 2) = ((2 ^ (n - 1) : Nat) : Int) := by
    rw [show (2 : Int) = ((2 : Nat) : Int) from rfl, tdiv_nat, p1, p2, w32 (by omega) (by omega)]; omega
  rw [e]
  congr 1
  rw [Bool.eq_iff_iff]
  simp only [Bool.and_eq_true, Bool.or_eq_true, decide_eq_true_eq]
  omega
theorem code_dich {L o t : Int} (w0 : (Lit.int .i64 L).wf = true) (w1 : (Lit.int .u32 o).wf = true) (w2 : (Lit.int .u32 t).wf = true) :
    (∃ n a b : Nat, L = (n : Int) ∧ o = (a : Int) ∧ t = (b : Int) ∧ CodeOK n a b ∧ f_foghornref21_May L o t = some true) ∨ (f_trellis_Code_Check L o t = some 1 ∧ f_foghornref21_May L o t = some false) := by
  have b1 := wf_u32 w1
  have b2 := wf_u32 w2
  by_cases hL : L < 2 ∨ 7 < L
  · right
    constructor
    · unfold f_trellis_Code_Check
      rw [if_pos (by simp; omega)]; rfl
    · unfold f_foghornref21_May
      rw [if_pos (by simp; omega)]
  obtain ⟨n, hn⟩ : ∃ m : Nat, L = (m : Int) := ⟨L.toNat, by omega⟩
  obtain ⟨a, ha⟩ : ∃ m : Nat, o = (m : Int) := ⟨o.toNat, by omega⟩
  obtain ⟨b, hb⟩ : ∃ m : Nat, t = (m : Int) := ⟨t.toNat, by omega⟩
  subst hn ha hb
  have h2 : 2 ≤ n := by omega
  have h7 : n ≤ 7 := by omega
  obtain ⟨q, p1, p2, q1, q2⟩ := pow_split h2 h7
  rw [may_val h2 h7]
  by_cases hv : 1 ≤ a ∧ a < 2 ^ n ∧ 1 ≤ b ∧ b < 2 ^ n ∧ (2 ^ (n - 1) ≤ a ∨ 2 ^ (n - 1) ≤ b)
  · left
    exact ⟨n, a, b, rfl, rfl, rfl, ⟨h2, h7, hv.1, hv.2.2.1, hv.2.1, hv.2.2.2.1, by omega⟩, by rw [decide_eq_true hv]⟩
  · right
    refine ⟨?_, by rw [decide_eq_false hv]⟩
    unfold f_trellis_Code_Check
    rw [imin_nat, imax_nat]
    by_cases hm : min a b < 1
    · rw [if_pos (by simp; omega)]; rfl
    · rw [if_neg (by simp; omega)]
      obtain ⟨m, hmm⟩ : ∃ m, m = max a b := ⟨_, rfl⟩
      rw [← hmm]
      have hk : ∃ k : Nat, f_math_bits_Len32 (m : Int) = some (k : Int) ∧ k ≠ n := by
        by_cases h128 : 128 ≤ m
        · obtain ⟨k, k1, k2⟩ := len_big h128 (by omega)
          exact ⟨k, k1, by omega⟩
        · have hm0 : m ≠ 0 := by omega
          have l1 := Nat.log2_self_le hm0
          have l2 : m < 2 ^ (m.log2 + 1) := Nat.lt_log2_self
          have l3 : m.log2 < 7 := (Nat.log2_lt hm0).2 (by omega)
          refine ⟨m.log2 + 1, len_tab (m.log2 + 1) (by omega) m (by omega) (by omega) (by simpa using l1) l2, fun he => ?_⟩
          rw [he] at l2
          have l4 : m.log2 = n - 1 := by omega
          rw [l4] at l1
          exact hv (by omega)
      obtain ⟨k, k1, k2⟩ := hk
      rw [k1]
      simp only [Option.bind_some]
      rw [if_pos (by simp; omega)]
/-! ### What a float stands for -/
theorem log2_mul_pow {m : Nat} (hm : m ≠ 0) (a : Nat) : (m * 2 ^ a).log2 = m.log2 + a := by
  have h0 : m * 2 ^ a ≠ 0 := Nat.mul_ne_zero hm (Nat.ne_of_gt (Nat.two_pow_pos a))
  rw [Nat.log2_eq_iff h0]
  have l1 := Nat.log2_self_le hm
  have l2 : m < 2 ^ (m.log2 + 1) := Nat.lt_log2_self
  constructor
  · rw [Nat.pow_add]; exact Nat.mul_le_mul_right _ l1
  · rw [show m.log2 + a + 1 = m.log2 + 1 + a by omega, Nat.pow_add _ _ a]; exact Nat.mul_lt_mul_of_pos_right l2 (Nat.two_pow_pos a)
theorem cut_exact (neg : Bool) {m : Nat} (hm : m ≠ 0) (d : Nat) : Ieee.Toward.even.cut neg (m * 2 ^ d) d = m := by
  unfold Ieee.Toward.cut
  rw [log2_mul_pow hm, Nat.min_eq_left (by omega)]
  have hp := Nat.two_pow_pos d
  simp only [Nat.one_shiftLeft, Nat.mul_div_cancel _ hp, Nat.mul_mod_left]
  have e1 : decide (2 ^ d < 2 * 0) = false := by rw [decide_eq_false_iff_not]; omega
  have e2 : (2 ^ d == 2 * 0) = false := by rw [beq_eq_false_iff_ne]; omega
  rw [e1, e2]; simp
theorem nearest_eq (neg : Bool) {mag : Nat} (place : Int) (h : mag ≠ 0) : Ieee.double.nearest neg mag place = Ieee.double.word neg (min ((max (place + mag.log2 - 52) (-1074) - (-1074)).toNat * 4503599627370496 + Ieee.Toward.even.cut neg (mag <<< (place - max (place + mag.log2 - 52) (-1074)).toNat) (max (place + mag.log2 - 52) (-1074) - place).toNat) 9218868437227405312) := by
  unfold Ieee.Format.nearest
  rw [if_neg h]
  have e1 : (Ieee.double.fractionBits : Nat) = 52 := rfl
  have e2 : Ieee.double.leastPlace = -1074 := by decide
  have e3 : Ieee.double.binade = 4503599627370496 := by decide
  have e4 : Ieee.double.infRung = 9218868437227405312 := by decide
  simp only [e1, e2, e3, e4]
  rfl
theorem read_eq (w : Nat) : Ieee.double.read w = (if w % 9223372036854775808 < 4503599627370496 then .number (w / 9223372036854775808 % 2 == 1) (w % 9223372036854775808) (-1074)
    else if w % 9223372036854775808 < 9218868437227405312 then .number (w / 9223372036854775808 % 2 == 1) (4503599627370496 + w % 9223372036854775808 % 4503599627370496) (-1074 + ((w % 9223372036854775808 / 4503599627370496 - 1 : Nat) : Int))
    else if w % 9223372036854775808 = 9218868437227405312 then .infinity (w / 9223372036854775808 % 2 == 1) else .nan (w / 9223372036854775808 % 2 == 1) (w % 9223372036854775808 - 9218868437227405312)) := by
  have e1 : Ieee.double.signWeight = 9223372036854775808 := by decide
  have e2 : Ieee.double.leastPlace = -1074 := by decide
  have e3 : Ieee.double.binade = 4503599627370496 := by decide
  have e4 : Ieee.double.infRung = 9218868437227405312 := by decide
  simp only [Ieee.Format.read, e1, e2, e3, e4]
theorem word_eq (neg : Bool) (r : Nat) : Ieee.double.word neg r = if neg then 9223372036854775808 + r else r := by
  have e1 : Ieee.double.signWeight = 9223372036854775808 := by decide
  simp only [Ieee.Format.word, e1]
theorem read_word (neg : Bool) {t kept : Nat} (h : kept < 9007199254740992) (h2 : t = 0 ∨ 4503599627370496 ≤ kept) (ht : t < 2000) :
    ∃ m e, Ieee.double.read (Ieee.double.word neg (min (t * 4503599627370496 + kept) 9218868437227405312)) = .number neg m e ∧ -1074 ≤ e ∧ m * 2 ^ (e + 1074).toNat = kept * 2 ^ t := by
  rw [Nat.min_eq_left (by omega), word_eq, read_eq]
  generalize hr : t * 4503599627370496 + kept = r
  have hlt : r < 9218868437227405312 := by omega
  generalize hw : (if neg then 9223372036854775808 + r else r) = w
  have w1 : w % 9223372036854775808 = r := by
    cases neg
    · simp at hw; omega
    · simp at hw; omega
  have w2 : (w / 9223372036854775808 % 2 == 1) = neg := by
    cases neg
    · simp only [Bool.false_eq_true, if_false] at hw
      rw [beq_eq_false_iff_ne]; omega
    · simp only [if_true] at hw
      rw [beq_iff_eq]; omega
  rw [w1, w2]
  by_cases hc : r < 4503599627370496
  · rw [if_pos hc]
    have : t = 0 := by omega
    subst this
    refine ⟨_, _, rfl, by omega, ?_⟩
    have : r = kept := by omega
    subst this
    rfl
  · rw [if_neg hc, if_pos hlt]
    refine ⟨_, _, rfl, by omega, ?_⟩
    have e1 : 4503599627370496 + r % 4503599627370496 = kept := by omega
    have e2 : (-1074 + ((r / 4503599627370496 - 1 : Nat) : Int) + 1074).toNat = t := by omega
    rw [e1, e2]
/-- a number that the format has is written as it is -/
theorem near (neg : Bool) {z p K mag : Nat} {place : Int} (hm : mag ≠ 0) (hK : K < 9007199254740992) (hp : p ≤ 800) (hz : p ≤ z) (hpl : 0 ≤ place + z) (h : mag * 2 ^ (place + z).toNat = K * 2 ^ (z - p)) :
    ∃ m e, Ieee.double.read (Ieee.double.nearest neg mag place) = .number neg m e ∧ -1074 ≤ e ∧ m * 2 ^ (e + 1074).toNat = K * 2 ^ (1074 - p) := by
  have hK0 : K ≠ 0 := by
    intro e
    subst e
    rw [Nat.zero_mul] at h
    exact Nat.mul_ne_zero hm (Nat.ne_of_gt (Nat.two_pow_pos _)) h
  have hL : K.log2 ≤ 52 := by
    have := (Nat.log2_lt hK0 (k := 53)).2 (by simpa using hK)
    omega
  have hlog : place + (mag.log2 : Int) = K.log2 - p := by
    have a1 := log2_mul_pow hm (place + z).toNat
    have a2 := log2_mul_pow hK0 (z - p)
    rw [h] at a1
    omega
  rw [nearest_eq neg place hm]
  have hlast : max (place + mag.log2 - 52) (-1074) = max ((K.log2 : Int) - p - 52) (-1074) := by rw [hlog]
  rw [hlast]
  generalize hl : max ((K.log2 : Int) - p - 52) (-1074) = last
  -- the digits that are kept
  have hlp : last ≤ -p := by omega
  have key : mag * 2 ^ (place - last).toNat = (K * 2 ^ (-p - last).toNat) * 2 ^ (last - place).toNat := by
    have hP := Nat.two_pow_pos (place + z).toNat
    apply Nat.eq_of_mul_eq_mul_right hP
    have s1 : mag * 2 ^ (place - last).toNat * 2 ^ (place + z).toNat = (mag * 2 ^ (place + z).toNat) * 2 ^ (place - last).toNat := by
      rw [Nat.mul_assoc, Nat.mul_comm (2 ^ (place - last).toNat), ← Nat.mul_assoc]
    rw [s1, h, Nat.mul_assoc, ← Nat.pow_add, Nat.mul_assoc K, ← Nat.pow_add, Nat.mul_assoc K, ← Nat.pow_add]
    congr 2
    omega
  have hk0 : K * 2 ^ (-p - last).toNat ≠ 0 := Nat.mul_ne_zero hK0 (Nat.ne_of_gt (Nat.two_pow_pos _))
  rw [Nat.shiftLeft_eq, key, cut_exact neg hk0]
  have hkl := log2_mul_pow hK0 (-p - last).toNat
  have hk53 : K * 2 ^ (-p - last).toNat < 9007199254740992 := by
    have l2 : K * 2 ^ (-p - last).toNat < 2 ^ ((K * 2 ^ (-p - last).toNat).log2 + 1) := Nat.lt_log2_self
    have l3 : 2 ^ ((K * 2 ^ (-p - last).toNat).log2 + 1) ≤ 2 ^ 53 := Nat.pow_le_pow_right (by decide) (by omega)
    have l4 : (2 : Nat) ^ 53 = 9007199254740992 := by decide
    omega
  have hk52 : (last - (-1074)).toNat = 0 ∨ 4503599627370496 ≤ K * 2 ^ (-p - last).toNat := by
    by_cases hc : last = -1074
    · left; omega
    · right
      have l1 := Nat.log2_self_le hk0
      have l3 : 2 ^ 52 ≤ 2 ^ (K * 2 ^ (-p - last).toNat).log2 := Nat.pow_le_pow_right (by decide) (by omega)
      have l4 : (2 : Nat) ^ 52 = 4503599627370496 := by decide
      omega
  obtain ⟨m, e, r1, r2, r3⟩ := read_word neg hk53 hk52 (by omega)
  refine ⟨m, e, r1, r2, r3.trans ?_⟩
  rw [Nat.mul_assoc, ← Nat.pow_add]
  congr 2
  omega
def sg (s : Bool) (m : Nat) : Int := if s then -(m : Int) else (m : Int)
theorem sg_mul (s : Bool) (m n : Nat) : sg s (m * n) = sg s m * (n : Int) := by
  cases s <;> simp [sg, Int.neg_mul]
theorem signed_eq (s : Bool) (m u : Nat) : Ieee.signed s m u = sg s (m * 2 ^ u) := by
  unfold Ieee.signed sg
  rw [Nat.shiftLeft_eq]
/-- 'x' stands for 'k / 2 ^ p' -/
def Val (p : Nat) (x : Fl) (k : Int) : Prop := ∃ b s m e, x = .bits b ∧ Ieee.double.read b = .number s m e ∧ -1074 ≤ e ∧ sg s (m * 2 ^ (e + 1074).toNat) = k * ((2 ^ (1074 - p) : Nat) : Int)
theorem pow_pos_i (a : Nat) : (0 : Int) < ((2 ^ a : Nat) : Int) := by have := Nat.two_pow_pos a; omega
theorem val_near (neg : Bool) {z p : Nat} {k total : Int} {place : Int} (hp : p ≤ 800) (hz : p ≤ z) (hpl : 0 ≤ place + z) (hk : k.natAbs < 9007199254740992)
    (h : total * ((2 ^ (place + z).toNat : Nat) : Int) = k * ((2 ^ (z - p) : Nat) : Int)) (hs : total ≠ 0 → neg = decide (total < 0)) : Val p (.bits (Ieee.double.nearest neg total.natAbs place)) k := by
  have p1 := pow_pos_i (place + z).toNat
  have p2 := pow_pos_i (z - p)
  by_cases h0 : total = 0
  · subst h0
    rw [Int.zero_mul] at h
    have hk0 : k = 0 := by
      rcases Int.mul_eq_zero.1 h.symm with h | h
      · exact h
      · omega
    subst hk0
    refine ⟨_, neg, 0, -1074, rfl, ?_, by decide, ?_⟩
    · have : Ieee.double.nearest neg (0 : Int).natAbs place = Ieee.double.word neg 0 := rfl
      rw [this]
      cases neg <;> decide
    · rw [Nat.zero_mul, Int.zero_mul]; cases neg <;> rfl
  · obtain ⟨m, e, r1, r2, r3⟩ := near neg (mag := total.natAbs) (K := k.natAbs) (place := place) (z := z) (p := p) (by omega) hk hp hz hpl (by
      have := congrArg Int.natAbs h
      rw [Int.natAbs_mul, Int.natAbs_mul, Int.natAbs_natCast, Int.natAbs_natCast] at this
      exact this)
    refine ⟨_, neg, m, e, rfl, r1, r2, ?_⟩
    rw [r3, sg_mul, hs h0]
    congr 1
    by_cases ht : total < 0
    · have : k < 0 := by
        apply Int.not_le.mp
        intro hk
        have a1 : 0 ≤ k * ((2 ^ (z - p) : Nat) : Int) := Int.mul_nonneg hk (by omega)
        have a2 : total * ((2 ^ (place + z).toNat : Nat) : Int) < 0 := Int.mul_neg_of_neg_of_pos ht p1
        omega
      rw [decide_eq_true ht]; simp only [sg, if_true]; omega
    · have : 0 ≤ k := by
        apply Int.not_lt.mp
        intro hk
        have a1 : k * ((2 ^ (z - p) : Nat) : Int) < 0 := Int.mul_neg_of_neg_of_pos hk p2
        have a2 : 0 ≤ total * ((2 ^ (place + z).toNat : Nat) : Int) := Int.mul_nonneg (by omega) (by omega)
        omega
      rw [decide_eq_false ht]; simp only [sg, Bool.false_eq_true, if_false]; omega
theorem fofi_val {k : Int} (hk : k.natAbs < 9007199254740992) : Val 0 (fofi k) k := by
  have := val_near (decide (k < 0)) (z := 0) (p := 0) (k := k) (total := k) (place := 0) (by decide) (by decide) (by decide) hk rfl (fun _ => rfl)
  exact this
theorem zero_val (p : Nat) : Val p (.bits 0) 0 := by
  refine ⟨0, false, 0, -1074, rfl, by decide, by decide, ?_⟩
  rw [Nat.zero_mul, Int.zero_mul]; rfl
theorem sum_read {a b : Nat} {s t : Bool} {m n : Nat} {i j : Int} {p : Nat} {k l : Int} (hp : p ≤ 800) (hi : -1074 ≤ i) (hj : -1074 ≤ j)
    (h1 : sg s (m * 2 ^ (i + 1074).toNat) = k * ((2 ^ (1074 - p) : Nat) : Int)) (h2 : sg t (n * 2 ^ (j + 1074).toNat) = l * ((2 ^ (1074 - p) : Nat) : Int)) (hk : (k + l).natAbs < 9007199254740992) :
    ∃ d, (Ieee.Datum.number s m i).sum (.number t n j) = some d ∧ Val p (.bits (Ieee.double.write d)) (k + l) := by
  refine ⟨_, rfl, ?_⟩
  refine val_near (z := 1074) (p := p) (k := k + l) _ hp (by omega) (by omega) hk ?_ (fun h => by rw [if_neg h])
  rw [signed_eq, signed_eq, Int.add_mul, Int.add_mul, ← h1, ← h2, ← sg_mul, ← sg_mul, Nat.mul_assoc, ← Nat.pow_add, Nat.mul_assoc, ← Nat.pow_add]
  congr 4 <;> omega
theorem fadd_val {p : Nat} {x y : Fl} {k l : Int} (h1 : Val p x k) (h2 : Val p y l) (hp : p ≤ 800) (hk : (k + l).natAbs < 9007199254740992) : Val p (fadd x y) (k + l) := by
  obtain ⟨a, s, m, i, rfl, r1, hi, v1⟩ := h1
  obtain ⟨b, t, n, j, rfl, r2, hj, v2⟩ := h2
  obtain ⟨d, e1, e2⟩ := sum_read (a := a) (b := b) hp hi hj v1 v2 hk
  have : fadd (.bits a) (.bits b) = .bits (Ieee.double.write d) := by
    show farith .add _ _ = _
    have : floatBits .add .f64 a b = some (Ieee.double.write d) := by
      show Ieee.double.add a b = _
      unfold Ieee.Format.add
      rw [r1, r2, e1]; rfl
    simp only [farith, this]
  rw [this]; exact e2
theorem sg_not (s : Bool) (m : Nat) : sg (!s) m = - sg s m := by cases s <;> simp [sg]
theorem fsub_val {p : Nat} {x y : Fl} {k l : Int} (h1 : Val p x k) (h2 : Val p y l) (hp : p ≤ 800) (hk : (k - l).natAbs < 9007199254740992) : Val p (fsub x y) (k - l) := by
  obtain ⟨a, s, m, i, rfl, r1, hi, v1⟩ := h1
  obtain ⟨b, t, n, j, rfl, r2, hj, v2⟩ := h2
  obtain ⟨d, e1, e2⟩ := sum_read (a := a) (b := b) (t := !t) (n := n) (l := -l) hp hi hj v1 (by rw [sg_not, v2, Int.neg_mul]) (by rw [← Int.sub_eq_add_neg]; exact hk)
  have : fsub (.bits a) (.bits b) = .bits (Ieee.double.write d) := by
    show farith .sub _ _ = _
    have : floatBits .sub .f64 a b = some (Ieee.double.write d) := by
      show Ieee.double.sub a b = _
      unfold Ieee.Format.sub
      rw [r1, r2]
      show (Ieee.Datum.sum _ (Ieee.Datum.number (!t) n j)).map _ = _
      rw [e1]; rfl
    simp only [farith, this]
  rw [this, Int.sub_eq_add_neg]; exact e2
theorem sg_prod (s t : Bool) (m n : Nat) : sg (s ^^ t) (m * n) = sg s m * sg t n := by
  cases s <;> cases t <;> simp [sg, Int.neg_mul, Int.mul_neg]
theorem fmul_val {p q : Nat} {x y : Fl} {k l : Int} (h1 : Val p x k) (h2 : Val q y l) (hp : p + q ≤ 800) (hk : (k * l).natAbs < 9007199254740992) : Val (p + q) (fmul x y) (k * l) := by
  obtain ⟨a, s, m, i, rfl, r1, hi, v1⟩ := h1
  obtain ⟨b, t, n, j, rfl, r2, hj, v2⟩ := h2
  have hw : floatBits .mul .f64 a b = some (Ieee.double.nearest (s ^^ t) (m * n) (i + j)) := by
    show Ieee.double.mul a b = _
    unfold Ieee.Format.mul
    rw [r1, r2]; rfl
  have hf : fmul (.bits a) (.bits b) = .bits (Ieee.double.nearest (s ^^ t) (m * n) (i + j)) := by
    show farith .mul _ _ = _
    simp only [farith, hw]
  rw [hf]
  have hab : (sg (s ^^ t) (m * n)).natAbs = m * n := by unfold sg; split <;> omega
  rw [← hab]
  refine val_near (z := 2148) (p := p + q) (k := k * l) (total := sg (s ^^ t) (m * n)) _ hp (by omega) (by omega) hk ?_ (fun h => ?_)
  · rw [← sg_mul]
    have e : m * n * 2 ^ (i + j + ((2148 : Nat) : Int)).toNat = (m * 2 ^ (i + 1074).toNat) * (n * 2 ^ (j + 1074).toNat) := by
      rw [show (i + j + ((2148 : Nat) : Int)).toNat = (i + 1074).toNat + (j + 1074).toNat by omega, Nat.pow_add]
      rw [Nat.mul_assoc, Nat.mul_assoc]
      congr 1
      rw [← Nat.mul_assoc, ← Nat.mul_assoc, Nat.mul_comm n]
    rw [e, sg_prod, v1, v2, show 2148 - (p + q) = (1074 - p) + (1074 - q) by omega, Nat.pow_add, Int.natCast_mul]
    generalize ((2 ^ (1074 - p) : Nat) : Int) = P
    generalize ((2 ^ (1074 - q) : Nat) : Int) = Q
    grind
  · unfold sg at h ⊢
    cases hst : (s ^^ t)
    · rw [hst] at h
      simp only [Bool.false_eq_true, if_false] at h ⊢
      symm; rw [decide_eq_false_iff_not]; omega
    · rw [hst] at h
      simp only [if_true] at h ⊢
      symm; rw [decide_eq_true_eq]; omega
theorem feq_val {p : Nat} {x y : Fl} {k : Int} (h1 : Val p x k) (h2 : Val p y k) : feq x y = true := by
  obtain ⟨a, s, m, i, rfl, r1, hi, v1⟩ := h1
  obtain ⟨b, t, n, j, rfl, r2, hj, v2⟩ := h2
  have : fcmp (.bits a) (.bits b) = some .eq := by
    show (Ieee.double.read a).order (Ieee.double.read b) = _
    rw [r1, r2]
    unfold Ieee.Datum.order
    simp only [signed_eq]
    have hP := pow_pos_i (min i j + 1074).toNat
    have e : sg s (m * 2 ^ (i - min i j).toNat) = sg t (n * 2 ^ (j - min i j).toNat) := by
      apply Int.eq_of_mul_eq_mul_right (a := ((2 ^ (min i j + 1074).toNat : Nat) : Int)) (by omega)
      rw [← sg_mul, ← sg_mul, Nat.mul_assoc, ← Nat.pow_add, Nat.mul_assoc, ← Nat.pow_add, show (i - min i j).toNat + (min i j + 1074).toNat = (i + 1074).toNat by omega, show (j - min i j).toNat + (min i j + 1074).toNat = (j + 1074).toNat by omega, v1, v2]
    rw [e]
    congr 1
    simp
  unfold feq
  rw [this]; rfl
theorem fneg_val {p : Nat} {x : Fl} {k : Int} (h : Val p x k) : Val p (fneg x) (-k) := by
  obtain ⟨a, s, m, i, rfl, r1, hi, v1⟩ := h
  have hr := rung_neg a
  have hs : ((a ^^^ 2 ^ 63) / 9223372036854775808 % 2 == 1) = !(a / 9223372036854775808 % 2 == 1) := by
    have t1 : (a ^^^ 2 ^ 63).testBit 63 = !a.testBit 63 := by rw [Nat.testBit_xor, Nat.testBit_two_pow]; simp
    rw [Nat.testBit_eq_decide_div_mod_eq, Nat.testBit_eq_decide_div_mod_eq] at t1
    exact t1
  rw [show (2 : Nat) ^ 63 = 9223372036854775808 from rfl] at hr hs
  have rd : Ieee.double.read (a ^^^ 9223372036854775808) = (Ieee.double.read a).opposite := by
    rw [read_eq, read_eq, hr, hs]
    split
    · rfl
    · split
      · rfl
      · split <;> rfl
  refine ⟨a ^^^ 9223372036854775808, !s, m, i, rfl, by rw [rd, r1]; rfl, hi, ?_⟩
  rw [sg_not, v1, Int.neg_mul]
/-! ### Order, scale, quotients by 4096 -/
theorem fcmp_val {p : Nat} {x y : Fl} {k l : Int} (h1 : Val p x k) (h2 : Val p y l) : fcmp x y = some (compare k l) := by
  obtain ⟨a, s, m, i, rfl, r1, hi, v1⟩ := h1
  obtain ⟨b, t, n, j, rfl, r2, hj, v2⟩ := h2
  show (Ieee.double.read a).order (Ieee.double.read b) = _
  rw [r1, r2]
  unfold Ieee.Datum.order
  simp only [signed_eq]
  have hP := pow_pos_i (min i j + 1074).toNat
  have hQ := pow_pos_i (1074 - p)
  have e1 : sg s (m * 2 ^ (i - min i j).toNat) * ((2 ^ (min i j + 1074).toNat : Nat) : Int) = k * ((2 ^ (1074 - p) : Nat) : Int) := by
    rw [← sg_mul, Nat.mul_assoc, ← Nat.pow_add, show (i - min i j).toNat + (min i j + 1074).toNat = (i + 1074).toNat by omega, v1]
  have e2 : sg t (n * 2 ^ (j - min i j).toNat) * ((2 ^ (min i j + 1074).toNat : Nat) : Int) = l * ((2 ^ (1074 - p) : Nat) : Int) := by
    rw [← sg_mul, Nat.mul_assoc, ← Nat.pow_add, show (j - min i j).toNat + (min i j + 1074).toNat = (j + 1074).toNat by omega, v2]
  generalize sg s (m * 2 ^ (i - min i j).toNat) = A at *
  generalize sg t (n * 2 ^ (j - min i j).toNat) = B at *
  generalize ((2 ^ (min i j + 1074).toNat : Nat) : Int) = P at *
  generalize ((2 ^ (1074 - p) : Nat) : Int) = K at *
  congr 1
  have lt1 : A < B ↔ k < l := by
    rw [← Int.mul_lt_mul_right hP, e1, e2, Int.mul_lt_mul_right hQ]
  have eq1 : A = B ↔ k = l := by
    constructor
    · intro h
      subst h
      exact Int.eq_of_mul_eq_mul_right (by omega) (e1.symm.trans e2)
    · intro h
      subst h
      exact Int.eq_of_mul_eq_mul_right (by omega) (e1.trans e2.symm)
  show compareOfLessAndEq A B = compareOfLessAndEq k l
  unfold compareOfLessAndEq
  simp only [lt1, eq1]
theorem fgt_val {p : Nat} {x y : Fl} {k l : Int} (h1 : Val p x k) (h2 : Val p y l) : fgt x y = decide (l < k) := by
  unfold fgt
  rw [fcmp_val h1 h2]
  show (some (compareOfLessAndEq k l) == some Ordering.gt) = _
  unfold compareOfLessAndEq
  by_cases h : k < l
  · rw [if_pos h, decide_eq_false (by omega)]; rfl
  · rw [if_neg h]
    by_cases h' : k = l
    · rw [if_pos h', decide_eq_false (by omega)]; rfl
    · rw [if_neg h', decide_eq_true (by omega)]; rfl
theorem feq_ne {p : Nat} {x y : Fl} {k l : Int} (h1 : Val p x k) (h2 : Val p y l) (h : k ≠ l) : feq x y = false := by
  unfold feq
  rw [fcmp_val h1 h2]
  show (some (compareOfLessAndEq k l) == some Ordering.eq) = _
  unfold compareOfLessAndEq
  by_cases h' : k < l
  · rw [if_pos h']; rfl
  · rw [if_neg h', if_neg h]; rfl
theorem val_scale {p d : Nat} {x : Fl} {k : Int} (h : Val p x k) (hd : p + d ≤ 1074) : Val (p + d) x (k * ((2 ^ d : Nat) : Int)) := by
  obtain ⟨b, s, m, e, rfl, r, he, v⟩ := h
  refine ⟨b, s, m, e, rfl, r, he, v.trans ?_⟩
  rw [Int.mul_assoc, ← Int.natCast_mul, ← Nat.pow_add]
  congr 4
  omega
theorem read_lt {b : Nat} {s : Bool} {m : Nat} {e : Int} (h : Ieee.double.read b = .number s m e) : m < 9007199254740992 := by
  rw [read_eq] at h
  split at h
  · cases h; omega
  · split at h
    · cases h; omega
    · split at h <;> cases h
theorem fadd_s {p : Nat} {x y : Fl} {k l : Int} (h1 : Val p x k) (h2 : Val p y l) (hp : p ≤ 800) (hk : (k + l).natAbs < 9007199254740992) : ∃ r, farithS .add x y = some r ∧ Val p r (k + l) := by
  obtain ⟨a, s, m, i, rfl, r1, hi, v1⟩ := h1
  obtain ⟨b, t, n, j, rfl, r2, hj, v2⟩ := h2
  obtain ⟨d, e1, e2⟩ := sum_read (a := a) (b := b) hp hi hj v1 v2 hk
  refine ⟨_, ?_, e2⟩
  have : floatBits .add .f64 a b = some (Ieee.double.write d) := by
    show Ieee.double.add a b = _
    unfold Ieee.Format.add
    rw [r1, r2, e1]; rfl
  simp only [farithS, this]; rfl
theorem quo_s {x : Fl} {k : Int} (h : Val 0 x k) (hk : k.natAbs < 9007199254740992) : ∃ r, farithS .quo x (Fl.bits 4661225614328463360) = some r ∧ Val 12 r k := by
  obtain ⟨a, s, m, i, rfl, r1, hi, v1⟩ := h
  have hm := read_lt r1
  have r2 : Ieee.double.read 4661225614328463360 = .number false 4503599627370496 (-40) := by decide
  have hl : m.log2 ≤ 52 := by
    by_cases h0 : m = 0
    · subst h0; decide
    · have := (Nat.log2_lt h0 (k := 53)).2 (by simpa using hm); omega
  have l52 : (4503599627370496 : Nat).log2 = 52 := by decide
  generalize hmo : 106 - m.log2 = more
  have hq : (m <<< more) / 4503599627370496 = m * 2 ^ (more - 52) := by
    rw [Nat.shiftLeft_eq, show more = (more - 52) + 52 by omega, Nat.pow_add, ← Nat.mul_assoc, show (4503599627370496 : Nat) = 2 ^ 52 by decide, Nat.mul_div_cancel _ (by decide)]
    congr 1
  have hr : (m <<< more) % 4503599627370496 = 0 := by
    rw [Nat.shiftLeft_eq, show more = (more - 52) + 52 by omega, Nat.pow_add, ← Nat.mul_assoc, show (4503599627370496 : Nat) = 2 ^ 52 by decide, Nat.mul_mod_left]
  have hw : floatBits .quo .f64 a 4661225614328463360 = some (Ieee.double.nearest s (2 * (m * 2 ^ (more - 52))) (i + 40 - more - 1)) := by
    show Ieee.double.div a 4661225614328463360 = _
    unfold Ieee.Format.div
    rw [r1, r2]
    unfold Ieee.Datum.quotient
    simp only [l52]
    rw [if_neg (by decide)]
    have e54 : Ieee.double.fractionBits + 2 + 52 - m.log2 = more := by
      show 52 + 2 + 52 - m.log2 = more
      omega
    rw [e54, hq, hr]
    show some (Ieee.double.nearest (s ^^ false) (2 * (m * 2 ^ (more - 52)) + 0) (i - -40 - more - 1)) = _
    rw [Bool.xor_false, Nat.add_zero, Int.sub_neg]
  refine ⟨_, by simp only [farithS, hw]; rfl, ?_⟩
  have hab : (sg s (2 * (m * 2 ^ (more - 52)))).natAbs = 2 * (m * 2 ^ (more - 52)) := by unfold sg; split <;> omega
  rw [← hab]
  refine val_near (z := 1374) (p := 12) (k := k) (total := sg s (2 * (m * 2 ^ (more - 52)))) s (by decide) (by decide) (by omega) hk ?_ (fun h => ?_)
  · rw [← sg_mul]
    have e : 2 * (m * 2 ^ (more - 52)) * 2 ^ (i + 40 - more - 1 + ((1374 : Nat) : Int)).toNat = m * 2 ^ (i + 1074).toNat * 2 ^ (1374 - 12 - 1074) := by
      rw [show 2 * (m * 2 ^ (more - 52)) = m * 2 ^ (more - 51) by rw [show more - 51 = more - 52 + 1 by omega, Nat.pow_succ]; generalize 2 ^ (more - 52) = X; rw [Nat.mul_comm X 2, ← Nat.mul_assoc, ← Nat.mul_assoc, Nat.mul_comm 2 m]]
      rw [Nat.mul_assoc, ← Nat.pow_add, Nat.mul_assoc, ← Nat.pow_add]
      congr 2
      omega
    rw [e, sg_mul, v1, Int.mul_assoc, ← Int.natCast_mul, ← Nat.pow_add]
  · unfold sg at h ⊢
    cases s
    · simp only [Bool.false_eq_true, if_false] at h ⊢
      symm; rw [decide_eq_false_iff_not]; omega
    · simp only [if_true] at h ⊢
      symm; rw [decide_eq_true_eq]; omega
/-! ### Floats made whole -/
theorem cut_zero (s : Bool) (n drop : Nat) : Ieee.Toward.zero.cut s n drop = n / 2 ^ drop := by
  unfold Ieee.Toward.cut
  simp only [Nat.one_shiftLeft, Bool.toNat_false, Nat.add_zero]
  by_cases h : drop ≤ n.log2 + 2
  · rw [Nat.min_eq_left h]
  · rw [Nat.min_eq_right (by omega)]
    have h1 : n < 2 ^ (n.log2 + 1) := Nat.lt_log2_self
    have h2 : 2 ^ (n.log2 + 1) ≤ 2 ^ (n.log2 + 2) := Nat.pow_le_pow_right (by decide) (by omega)
    have h3 : 2 ^ (n.log2 + 1) ≤ 2 ^ drop := Nat.pow_le_pow_right (by decide) (by omega)
    rw [Nat.div_eq_of_lt (by omega), Nat.div_eq_of_lt (by omega)]
theorem cut_down (s : Bool) (n drop : Nat) : Ieee.Toward.down.cut s n drop = n / 2 ^ drop + (if s = true ∧ n % 2 ^ drop ≠ 0 then 1 else 0) := by
  unfold Ieee.Toward.cut
  simp only [Nat.one_shiftLeft]
  have key : ∀ r : Nat, (s && r != 0).toNat = if s = true ∧ r ≠ 0 then 1 else 0 := by
    intro r
    cases s
    · simp
    · by_cases h : r = 0
      · subst h; rfl
      · rw [if_pos ⟨rfl, h⟩, bne_iff_ne.2 h]; rfl
  rw [key]
  by_cases h : drop ≤ n.log2 + 2
  · rw [Nat.min_eq_left h]
  · rw [Nat.min_eq_right (by omega)]
    have h1 : n < 2 ^ (n.log2 + 1) := Nat.lt_log2_self
    have h2 : 2 ^ (n.log2 + 1) ≤ 2 ^ (n.log2 + 2) := Nat.pow_le_pow_right (by decide) (by omega)
    have h3 : 2 ^ (n.log2 + 1) ≤ 2 ^ drop := Nat.pow_le_pow_right (by decide) (by omega)
    rw [Nat.div_eq_of_lt (by omega), Nat.div_eq_of_lt (by omega), Nat.mod_eq_of_lt (by omega), Nat.mod_eq_of_lt (by omega)]
theorem sg_natAbs (s : Bool) (m : Nat) : (sg s m).natAbs = m := by unfold sg; split <;> omega
theorem whole_val (s : Bool) {K : Nat} (hK : K < 9007199254740992) : Val 0 (.bits (Ieee.double.nearest s K 0)) (sg s K) := by
  have := val_near s (z := 0) (p := 0) (k := sg s K) (total := sg s K) (place := 0) (by decide) (by decide) (by decide) (by rw [sg_natAbs]; exact hK) rfl (fun h => by
    unfold sg at h ⊢
    cases s
    · simp only [Bool.false_eq_true, if_false] at h ⊢
      symm; rw [decide_eq_false_iff_not]; omega
    · simp only [if_true] at h ⊢
      symm; rw [decide_eq_true_eq]; omega)
  rw [sg_natAbs] at this
  exact this
theorem fint_num (way : Ieee.Toward) {a : Nat} {s : Bool} {m : Nat} {e : Int} (h : Ieee.double.read a = .number s m e) : fint way (.bits a) = .bits (Ieee.double.nearest s (way.cut s (m * 2 ^ e.toNat) (-e).toNat) 0) := by
  have h' : FloatKind.f64.decode a = .number s m e := h
  simp only [fint, h']
  show Fl.bits (Ieee.double.nearest s (way.cut s (m <<< e.toNat) (-e).toNat) 0) = _
  rw [Nat.shiftLeft_eq]
theorem feq_dec {p : Nat} {x y : Fl} {k l : Int} (h1 : Val p x k) (h2 : Val p y l) : feq x y = decide (k = l) := by
  by_cases h : k = l
  · subst h; rw [feq_val h1 h2, decide_eq_true rfl]
  · rw [feq_ne h1 h2 h, decide_eq_false h]
theorem fle_dec {p : Nat} {x y : Fl} {k l : Int} (h1 : Val p x k) (h2 : Val p y l) : fle x y = decide (k ≤ l) := by
  unfold fle
  rw [fcmp_val h1 h2]
  show (some (compareOfLessAndEq k l) == some Ordering.lt || some (compareOfLessAndEq k l) == some Ordering.eq) = _
  unfold compareOfLessAndEq
  by_cases h : k < l
  · rw [if_pos h, decide_eq_true (by omega)]; rfl
  · rw [if_neg h]
    by_cases h' : k = l
    · rw [if_pos h', decide_eq_true (by omega)]; rfl
    · rw [if_neg h', decide_eq_false (by omega)]; rfl
theorem fge_dec {p : Nat} {x y : Fl} {k l : Int} (h1 : Val p x k) (h2 : Val p y l) : fge x y = decide (l ≤ k) := by
  unfold fge
  rw [fcmp_val h1 h2]
  show (some (compareOfLessAndEq k l) == some Ordering.gt || some (compareOfLessAndEq k l) == some Ordering.eq) = _
  unfold compareOfLessAndEq
  by_cases h : k < l
  · rw [if_pos h, decide_eq_false (by omega)]; rfl
  · rw [if_neg h]
    by_cases h' : k = l
    · rw [if_pos h', decide_eq_true (by omega)]; rfl
    · rw [if_neg h', decide_eq_true (by omega)]; rfl
/-! ### Sums over places -/
def fs (f : Nat → Nat) : Nat → Nat
  | 0 => 0
  | m + 1 => fs f m + f m
theorem fs_add (f : Nat → Nat) (i : Nat) : ∀ k, fs f (i + k) = fs f i + fs (fun t => f (i + t)) k
  | 0 => by simp [fs]
  | k + 1 => by rw [← Nat.add_assoc]; simp only [fs]; rw [fs_add f i k]; omega
theorem fs_congr {f g : Nat → Nat} : ∀ {m}, (∀ i, i < m → f i = g i) → fs f m = fs g m
  | 0, _ => rfl
  | m + 1, h => by simp only [fs]; rw [fs_congr fun i hi => h i (by omega), h m (by omega)]
theorem fs_le {f g : Nat → Nat} : ∀ {m}, (∀ i, i < m → f i ≤ g i) → fs f m ≤ fs g m
  | 0, _ => Nat.le_refl _
  | m + 1, h => by have := fs_le (f := f) (g := g) (m := m) fun i hi => h i (by omega); have := h m (by omega); simp only [fs]; omega
theorem fs_plus (f g : Nat → Nat) : ∀ m, fs (fun i => f i + g i) m = fs f m + fs g m
  | 0 => rfl
  | m + 1 => by simp only [fs]; rw [fs_plus f g m]; omega
theorem fs_zero : ∀ m, fs (fun _ => 0) m = 0
  | 0 => rfl
  | m + 1 => by simp only [fs]; rw [fs_zero m]
theorem fs_upd {f g : Nat → Nat} {p : Nat} : ∀ {m}, p < m → (∀ i, i < m → i ≠ p → g i = f i) → fs g m + f p = fs f m + g p
  | 0, h, _ => by omega
  | m + 1, h, hg => by
    simp only [fs]
    by_cases hp : p = m
    · subst hp
      rw [fs_congr (m := p) fun i hi => hg i (by omega) (by omega)]; omega
    · have := fs_upd (m := m) (by omega) fun i hi hn => hg i (by omega) hn
      have := hg m (by omega) (by omega)
      omega
theorem fs_mono (f : Nat → Nat) {i j : Nat} (h : i ≤ j) : fs f i ≤ fs f j := by
  obtain ⟨k, rfl⟩ := Nat.exists_eq_add_of_le h
  rw [fs_add]; omega
theorem fs_two (f : Nat → Nat) : ∀ t, fs f (2 * t) = fs (fun i => f (2 * i) + f (2 * i + 1)) t
  | 0 => rfl
  | t + 1 => by rw [show 2 * (t + 1) = 2 * t + 1 + 1 by omega]; simp only [fs]; rw [fs_two f t]; omega

/-! ### A code is linear -/
theorem par_xor (x y : Nat) : par (x ^^^ y) = (par x ^^ par y) := by
  have key : ∀ (l : List Nat) (p q : Bool), l.foldl (fun c i => c != (x ^^^ y).testBit i) (p ^^ q) = (l.foldl (fun c i => c != x.testBit i) p ^^ l.foldl (fun c i => c != y.testBit i) q) := by
    intro l
    induction l with
    | nil => intro p q; rfl
    | cons i l ih =>
      intro p q
      simp only [List.foldl_cons]
      rw [← ih]
      congr 1
      rw [Nat.testBit_xor]
      cases p <;> cases q <;> cases x.testBit i <;> cases y.testBit i <;> rfl
  exact key _ false false
theorem and_xor (x y a : Nat) : (x ^^^ y) &&& a = (x &&& a) ^^^ (y &&& a) := by
  apply Nat.eq_of_testBit_eq
  intro i
  simp only [Nat.testBit_and, Nat.testBit_xor]
  cases x.testBit i <;> cases y.testBit i <;> cases a.testBit i <;> rfl
theorem xor_half (x y : Nat) : (x ^^^ y) / 2 = (x / 2) ^^^ (y / 2) := by
  have := Nat.shiftRight_xor_distrib (a := x) (b := y) (i := 1)
  simpa [Nat.shiftRight_eq_div_pow] using this
theorem al_xor {n s : Nat} (hs : s < 2 ^ (n - 1)) (c : Bool) : al n s c = s ^^^ (if c then 2 ^ (n - 1) else 0) := by
  cases c with
  | false => simp [al]
  | true =>
    have h1 := Nat.two_pow_add_eq_or_of_lt hs 1
    simp only [Nat.mul_one] at h1
    simp only [al, if_true]
    rw [Nat.add_comm, h1]
    apply Nat.eq_of_testBit_eq
    intro i
    simp only [Nat.testBit_or, Nat.testBit_xor, Nat.testBit_two_pow]
    by_cases hi : n - 1 = i
    · subst hi
      rw [Nat.testBit_lt_two_pow hs]; simp
    · simp [hi]
theorem al_lin {n s s' : Nat} (hs : s < 2 ^ (n - 1)) (hs' : s' < 2 ^ (n - 1)) (c c' : Bool) : al n (s ^^^ s') (c ^^ c') = al n s c ^^^ al n s' c' := by
  rw [al_xor hs, al_xor hs', al_xor (Nat.xor_lt_two_pow hs hs')]
  have e : (if (c ^^ c') = true then 2 ^ (n - 1) else 0) = (if c = true then 2 ^ (n - 1) else 0) ^^^ (if c' = true then 2 ^ (n - 1) else 0) := by
    cases c <;> cases c' <;> simp
  rw [e]
  generalize (if c = true then 2 ^ (n - 1) else 0) = u
  generalize (if c' = true then 2 ^ (n - 1) else 0) = v
  ac_rfl
theorem nx_lin {n s s' : Nat} (hs : s < 2 ^ (n - 1)) (hs' : s' < 2 ^ (n - 1)) (c c' : Bool) : nx n (s ^^^ s') (c ^^ c') = nx n s c ^^^ nx n s' c' := by
  unfold nx; rw [al_lin hs hs', xor_half]
theorem ob_lin {n a s s' : Nat} (hs : s < 2 ^ (n - 1)) (hs' : s' < 2 ^ (n - 1)) (c c' : Bool) : ob n a (s ^^^ s') (c ^^ c') = (ob n a s c ^^ ob n a s' c') := by
  unfold ob; rw [al_lin hs hs', and_xor, par_xor]
/-- where two messages are unlike -/
def dif (l m : List Bool) : List Bool := List.zipWith (· ^^ ·) l m
theorem dif_len {l m : List Bool} (h : l.length = m.length) : (dif l m).length = l.length := by unfold dif; rw [List.length_zipWith]; omega
theorem dif_bit {l m : List Bool} (h : l.length = m.length) (i : Nat) : bitAt (dif l m) i = (bitAt l i ^^ bitAt m i) := by
  have hl := dif_len h
  unfold bitAt
  by_cases hi : i < l.length
  · rw [if_pos (by omega), if_pos hi, if_pos (by omega), gt_nat (by omega), gt_nat hi, gt_nat (by omega)]
    simp [dif]
  · rw [if_neg (by omega), if_neg hi, if_neg (by omega)]; rfl
theorem st_lin {n a b : Nat} (hc : CodeOK n a b) {l m : List Bool} (h : l.length = m.length) : ∀ i, st n (dif l m) i = st n l i ^^^ st n m i
  | 0 => by simp [st]
  | i + 1 => by
    simp only [st]
    rw [st_lin hc h i, dif_bit h, nx_lin (st_lt hc l i) (st_lt hc m i)]
/-- how many of two are true; what a step weighs -/
def bn (x : Bool) : Nat := if x then 1 else 0
def wt (n a b s : Nat) (c : Bool) : Nat := bn (ob n a s c) + bn (ob n b s c)
theorem wt_le (n a b s : Nat) (c : Bool) : wt n a b s c ≤ 2 := by
  unfold wt bn; split <;> split <;> omega
/-- in how many places what two messages are coded is unlike, after so many steps -/
def dst (n a b : Nat) (l m : List Bool) (T : Nat) : Nat := fs (fun t => bn (ob n a (st n l t) (bitAt l t) ^^ ob n a (st n m t) (bitAt m t)) + bn (ob n b (st n l t) (bitAt l t) ^^ ob n b (st n m t) (bitAt m t))) T
theorem dst_wt {n a b : Nat} (hc : CodeOK n a b) {l m : List Bool} (h : l.length = m.length) (T : Nat) : dst n a b l m T = fs (fun t => wt n a b (st n (dif l m) t) (bitAt (dif l m) t)) T := by
  unfold dst
  apply fs_congr
  intro t _
  unfold wt
  rw [st_lin hc h, dif_bit h, ob_lin (st_lt hc l t) (st_lt hc m t), ob_lin (st_lt hc l t) (st_lt hc m t)]
/-! ### Samples, costs -/
theorem farithS_val {op : BinOp} {x y : Fl} {p : Nat} {k : Int} (hx : ∃ a, x = .bits a) (hy : ∃ b, y = .bits b) (h : Val p (farith op x y) k) : farithS op x y = some (farith op x y) := by
  obtain ⟨a, rfl⟩ := hx
  obtain ⟨b, rfl⟩ := hy
  obtain ⟨c, _, _, _, hc, _⟩ := h
  simp only [farith, farithS] at hc ⊢
  cases hf : floatBits op .f64 a b with
  | none => rw [hf] at hc; cases hc
  | some r => rfl
theorem Val.bits {p : Nat} {x : Fl} {k : Int} (h : Val p x k) : ∃ a, x = .bits a := by
  obtain ⟨a, _, _, _, h, _⟩ := h
  exact ⟨a, h⟩
theorem whole_of {y : Fl} {u : Int} (h : Val 12 y (u * 4096)) : ∃ a s m e n drop, y = .bits a ∧ Ieee.double.read a = .number s m e ∧ m * 2 ^ e.toNat = n ∧ (-e).toNat = drop ∧ n = u.natAbs * 2 ^ drop ∧ sg s u.natAbs = u := by
  obtain ⟨a, s, m, e, rfl, hr, he, hv⟩ := h
  refine ⟨a, s, m, e, _, _, rfl, hr, rfl, rfl, ?_, ?_⟩
  · have h1 : m * 2 ^ (e + 1074).toNat = u.natAbs * 4096 * 2 ^ (1074 - 12) := by
      have := congrArg Int.natAbs hv
      rw [sg_natAbs, Int.natAbs_mul, Int.natAbs_mul, Int.natAbs_natCast] at this
      exact this
    have hP := Nat.two_pow_pos (1074 - (-e).toNat)
    apply Nat.eq_of_mul_eq_mul_right hP
    rw [Nat.mul_assoc, ← Nat.pow_add, Nat.mul_assoc, ← Nat.pow_add, show e.toNat + (1074 - (-e).toNat) = (e + 1074).toNat by omega, h1, show (4096 : Nat) = 2 ^ 12 by decide, Nat.mul_assoc, ← Nat.pow_add]
    congr 2
    omega
  · have hP := pow_pos_i (1074 - 12)
    by_cases h0 : u = 0
    · subst h0; cases s <;> rfl
    · have hu : 0 ≤ u * 4096 * ((2 ^ (1074 - 12) : Nat) : Int) ↔ 0 ≤ u := by
        constructor
        · intro h
          apply Int.not_lt.mp
          intro hu
          have : u * 4096 * ((2 ^ (1074 - 12) : Nat) : Int) < 0 := Int.mul_neg_of_neg_of_pos (by omega) hP
          omega
        · intro h; exact Int.mul_nonneg (by omega) (by omega)
      have hnz : u * 4096 * ((2 ^ (1074 - 12) : Nat) : Int) ≠ 0 := by
        intro h
        rcases Int.mul_eq_zero.1 h with h | h <;> omega
      rw [← hv] at hu hnz
      generalize m * 2 ^ (e + 1074).toNat = M at *
      cases s
      · simp only [sg, Bool.false_eq_true, if_false] at hu hnz ⊢
        omega
      · simp only [sg, if_true] at hu hnz ⊢
        omega
theorem floor_whole {y : Fl} {u : Int} (h : Val 12 y (u * 4096)) (hu : u.natAbs < 9007199254740992) : feq (fint Ieee.Toward.down y) y = true := by
  have h0 := h
  obtain ⟨a, s, m, e, n, drop, rfl, hr, hn, hd, hnu, hs⟩ := whole_of h
  have hm : n % 2 ^ drop = 0 := by rw [hnu]; exact Nat.mul_mod_left _ _
  rw [fint_num _ hr, hn, hd, cut_down, hm, if_neg (by simp), Nat.add_zero, hnu, Nat.mul_div_cancel _ (Nat.two_pow_pos drop)]
  have w := val_scale (d := 12) (whole_val s hu) (by decide)
  rw [hs, Nat.zero_add] at w
  exact feq_val w h0
theorem wf_i32 {x : Int} (h : (Lit.int .i32 x).wf = true) : -2147483648 ≤ x ∧ x < 2147483648 := by
  simp [Lit.wf, IntKind.min, IntKind.max, IntKind.bits, IntKind.signed] at h
  omega
def qv (k : Int) : Fl := (farithS .quo (fofi k) (Fl.bits 4661225614328463360)).getD .nan
theorem qv_ok {k : Int} (h : -2147483648 ≤ k ∧ k < 2147483648) : farithS .quo (fofi k) (Fl.bits 4661225614328463360) = some (qv k) ∧ Val 12 (qv k) k := by
  obtain ⟨r, h1, h2⟩ := quo_s (fofi_val (k := k) (by omega)) (by omega)
  unfold qv
  rw [h1]
  exact ⟨rfl, h2⟩
theorem lst {σ R : Type} {f : σ → Option (σ ⊕ R)} (n : Nat) (g : Nat → σ) (r : R)
    (h1 : ∀ i : Nat, i < n → f (g i) = some (.inl (g (i + 1)))) (h2 : f (g n) = some (.inr r)) : loop f (g 0) = some r := by
  have : ∀ k i : Nat, i + k = n → loop f (g i) = some r := by
    intro k
    induction k with
    | zero => intro i hi; obtain rfl : i = n := by omega
              exact loop_done h2
    | succ k ih => intro i hi; rw [loop_step (h1 i (by omega))]; exact ih (i + 1) (by omega)
  exact this n 0 (by omega)
theorem app_loop {α : Type} {f : List α × Int → Option ((List α × Int) ⊕ List α)} (D : List α) (hl : (D.length : Int) < 9223372036854775807)
    (h1 : ∀ (i : Nat) (hi : i < D.length) (T : List α), T.length = i → f (T, (i : Int)) = some (.inl (T ++ [D[i]], IntKind.i64.wrap ((i : Int) + 1)))) (h2 : f (D, (D.length : Int)) = some (.inr D)) :
    loop f ([], 0) = some D := by
  have := lst (f := f) D.length (fun i => (D.take i, (i : Int))) D (fun i hi => ?_) ?_
  · simpa using this
  · rw [h1 i hi _ (by simp; omega), w64 (by omega) (by omega), List.take_succ_eq_append_getElem hi]; rfl
  · simpa using h2
structure SV (s : (Fl × Fl) × Bool) (u v : Int) : Prop where
  re : Val 12 s.1.1 u
  im : Val 12 s.1.2 v
  u0 : -2147483648 ≤ u
  u1 : u ≤ 2147483648
  v0 : -2147483648 ≤ v
  v1 : v ≤ 2147483648
def onb (u : Int) : Bool := decide (-4194304 ≤ u ∧ u ≤ 4194304)
theorem k1024 : Val 12 (Fl.bits 4652218415073722368) 4194304 := ⟨_, false, 4503599627370496, -42, rfl, by decide, by decide, by decide +kernel⟩
theorem m1024 : Val 12 (Fl.bits 13875590451928498176) (-4194304) := ⟨_, true, 4503599627370496, -42, rfl, by decide, by decide, by decide +kernel⟩
theorem c4096 : Val 0 (Fl.bits 4661225614328463360) 4096 := ⟨_, false, 4503599627370496, -40, rfl, by decide, by decide, by decide +kernel⟩
theorem within_dec {x : Fl} {u : Int} (h : Val 12 x u) : ((fge x (Fl.bits 13875590451928498176)) && (fle x (Fl.bits 4652218415073722368))) = onb u := by
  rw [fge_dec h m1024, fle_dec h k1024]
  unfold onb
  by_cases h1 : -4194304 ≤ u <;> by_cases h2 : u ≤ 4194304 <;> simp [h1, h2]
theorem on_c {x : Fl} {u : Int} (h : Val 12 x u) : f_grid_On x = some (onb u) := by
  unfold f_grid_On f_grid_within f_math_Floor
  simp only [Option.bind_some]
  rw [within_dec h]
  cases ho : onb u
  · rfl
  · unfold onb at ho
    rw [decide_eq_true_eq] at ho
    have hm := fmul_val h c4096 (by decide) (by omega)
    rw [Nat.add_zero] at hm
    rw [if_pos rfl, floor_whole hm (by omega)]; rfl
def mayb (s : (Fl × Fl) × Bool) (u v : Int) : Bool := if s.2 = true then ceq s.1 (Fl.bits 0, Fl.bits 0) else onb u && onb v
theorem may_c {s : (Fl × Fl) × Bool} {u v : Int} (h : SV s u v) : f_grid_may s.1 s.2 = some (mayb s u v) := by
  unfold f_grid_may mayb
  by_cases hs : s.2 = true
  · rw [if_pos hs, if_pos hs]
  · rw [if_neg hs, if_neg hs, on_c h.re, on_c h.im]
    simp only [Option.bind_some]
    cases onb u <;> rfl
def sgn (b : Bool) : Int := if b then 1 else -1
def sgf (b : Bool) : Fl := if b then Fl.bits 4607182418800017408 else Fl.bits 13830554455654793216
theorem sgf_val (b : Bool) : Val 0 (sgf b) (sgn b) := by
  cases b
  · exact ⟨_, true, 4503599627370496, -52, rfl, by decide, by decide, by decide +kernel⟩
  · exact ⟨_, false, 4503599627370496, -52, rfl, by decide, by decide, by decide +kernel⟩
theorem sgn_mul (b : Bool) (u : Int) : sgn b * u = u ∨ sgn b * u = -u := by cases b <;> simp [sgn]
theorem two_val : Val 0 (Fl.bits 4611686018427387904) 2 := ⟨_, false, 4503599627370496, -51, rfl, by decide, by decide, by decide +kernel⟩
def costV (one two : Bool) (s : (Fl × Fl) × Bool) (u v : Int) : Int := if s.2 = true then 0 else 8192 - 2 * (sgn one * u + sgn two * v)
theorem cost_ok (one two : Bool) {s : (Fl × Fl) × Bool} {u v : Int} (h : SV s u v) (hm : mayb s u v = true) : ∃ c, f_soft_cost one two s.1 s.2 = some c ∧ Val 12 c (costV one two s u v) ∧ (costV one two s u v).natAbs ≤ 33554432 := by
  unfold f_soft_cost costV
  by_cases hs : s.2 = true
  · rw [if_pos hs, if_pos hs]
    exact ⟨_, rfl, zero_val 12, by decide⟩
  · rw [if_neg hs, if_neg hs]
    unfold mayb at hm
    rw [if_neg hs] at hm
    simp only [onb, Bool.and_eq_true, decide_eq_true_eq] at hm
    have b1 := sgn_mul one u
    have b2 := sgn_mul two v
    have e1 : f_soft_sign one = some (sgf one) := by cases one <;> rfl
    have e2 : f_soft_sign two = some (sgf two) := by cases two <;> rfl
    rw [e1, e2]
    simp only [Option.bind_some]
    have m1 := fmul_val (sgf_val one) h.re (by decide) (by omega)
    have m2 := fmul_val (sgf_val two) h.im (by decide) (by omega)
    have m3 := fadd_val m1 m2 (by decide) (by omega)
    have m4 := fmul_val two_val m3 (by decide) (by omega)
    have s2 := val_scale (d := 12) two_val (by decide)
    have m5 := fsub_val s2 m4 (by decide) (by omega)
    rw [farithS_val (sgf_val one).bits h.re.bits m1]
    simp only [Option.bind_some]
    rw [farithS_val (sgf_val two).bits h.im.bits m2]
    simp only [Option.bind_some]
    rw [farithS_val m1.bits m2.bits m3]
    simp only [Option.bind_some]
    rw [farithS_val two_val.bits m3.bits m4]
    simp only [Option.bind_some]
    rw [farithS_val two_val.bits m4.bits m5]
    refine ⟨_, rfl, ?_, by omega⟩
    have : (2 : Int) * ((2 ^ 12 : Nat) : Int) - 2 * (sgn one * u + sgn two * v) = 8192 - 2 * (sgn one * u + sgn two * v) := by rw [show ((2 ^ 12 : Nat) : Int) = 4096 by decide]; omega
    rw [← this]
    exact m5

def gal (f : Nat → Bool) : Nat → Bool
  | 0 => true
  | i + 1 => gal f i && f i
theorem gal_false {f : Nat → Bool} : ∀ {i j : Nat}, i ≤ j → gal f i = false → gal f j = false := by
  intro i j h h0
  induction j with
  | zero => obtain rfl : i = 0 := by omega
            exact h0
  | succ j ih =>
    by_cases e : i = j + 1
    · subst e; exact h0
    · simp only [gal]; rw [ih (by omega)]; rfl
theorem gal_at {f : Nat → Bool} : ∀ {i j : Nat}, gal f j = true → i < j → f i = true := by
  intro i j h hi
  induction j with
  | zero => omega
  | succ j ih =>
    simp only [gal, Bool.and_eq_true] at h
    by_cases e : i = j
    · subst e; exact h.2
    · exact ih h.1 (by omega)
def SR (L : List ((Fl × Fl) × Bool)) (U V : Nat → Int) : Prop := ∀ i, i < L.length → SV (gt L (i : Int)) (U i) (V i)
def mf (L : List ((Fl × Fl) × Bool)) (U V : Nat → Int) (i : Nat) : Bool := mayb (gt L (i : Int)) (U i) (V i)
theorem grid_c {L : List ((Fl × Fl) × Bool)} {U V : Nat → Int} (h : SR L U V) (hl : L.length ≤ 16384) : ∃ x, f_grid_Check L = some (x, if gal (mf L U V) L.length = true then 0 else 7) := by
  have key : ∀ k i : Nat, i + k = L.length → gal (mf L U V) i = true → ∃ x, loop (f_grid_Check.s1 L) (i : Int) = some (if gal (mf L U V) L.length = true then .inl () else .inr (x, 7)) := by
    intro k
    induction k with
    | zero =>
      intro i hi h0
      obtain rfl : i = L.length := by omega
      refine ⟨0, ?_⟩
      rw [if_pos h0]
      apply loop_done
      simp only [f_grid_Check.s1, f_grid_Check.s1c]
      rw [if_neg (by simp)]
    | succ k ih =>
      intro i hi h0
      have hs : f_grid_Check.s1 L (i : Int) = some (if mf L U V i = true then .inl ((i + 1 : Nat) : Int) else .inr (.inr ((i : Int), 7))) := by
        simp only [f_grid_Check.s1, f_grid_Check.s1c]
        rw [if_pos (by rw [decide_eq_true_eq]; omega), if_pos (by omega), may_c (h i (by omega))]
        simp only [Option.bind_some]
        rw [show mayb (gt L (i : Int)) (U i) (V i) = mf L U V i from rfl, w64 (by omega) (by omega)]
        cases mf L U V i <;> rfl
      by_cases hm : mf L U V i = true
      · rw [if_pos hm] at hs
        rw [loop_step hs]
        exact ih (i + 1) (by omega) (by simp only [gal]; rw [h0, hm]; rfl)
      · rw [if_neg hm] at hs
        refine ⟨(i : Int), ?_⟩
        rw [loop_done hs, if_neg]
        rw [gal_false (i := i + 1) (by omega) (by simp only [gal]; rw [h0]; cases h' : mf L U V i <;> simp_all)]
        decide
  obtain ⟨x, hx⟩ := key L.length 0 (by omega) rfl
  rw [show ((0 : Nat) : Int) = 0 from rfl] at hx
  unfold f_grid_Check
  rw [if_neg (by rw [decide_eq_true_eq]; omega), hx]
  by_cases ha : gal (mf L U V) L.length = true
  · rw [if_pos ha, if_pos ha]; exact ⟨0, rfl⟩
  · rw [if_neg ha, if_neg ha]; exact ⟨x, rfl⟩
def pc (n a b : Nat) (bits : List Bool) (L : List ((Fl × Fl) × Bool)) (U V : Nat → Int) : Nat → Int
  | 0 => 0
  | i + 1 => pc n a b bits L U V i + costV (ob n a (st n bits i) (bitAt bits i)) (ob n b (st n bits i) (bitAt bits i)) (gt L (i : Int)) (U i) (V i)
theorem sign_c (b : Bool) : f_soft_sign b = some (sgf b) := by cases b <;> rfl
theorem Point_c (x y : Bool) : f_soft_Point x y = some (sgf x, sgf y) := by unfold f_soft_Point; rw [sign_c, sign_c]; rfl
/-! ### Messages in order, the two best ones -/
theorem bitAt_app {l : List Bool} (x : Bool) {t : Nat} (ht : t < l.length) : bitAt (l ++ [x]) t = bitAt l t := by
  unfold bitAt
  rw [if_pos ht, if_pos (by simp; omega), gt_nat ht, gt_nat (by simp; omega), List.getElem_append_left ht]
theorem bitAt_last (l : List Bool) (x : Bool) : bitAt (l ++ [x]) l.length = x := by
  unfold bitAt
  rw [if_pos (by simp), gt_nat (by simp), List.getElem_append_right (by omega)]; simp
theorem st_congr {n : Nat} {l m : List Bool} : ∀ i, (∀ t, t < i → bitAt l t = bitAt m t) → st n l i = st n m i
  | 0, _ => rfl
  | i + 1, h => by
    show nx n (st n l i) (bitAt l i) = nx n (st n m i) (bitAt m i)
    rw [st_congr i (fun t ht => h t (by omega)), h i (by omega)]
def bv (l : List Bool) : Nat := l.foldl (fun acc b => 2 * acc + bn b) 0
theorem bv_nil : bv [] = 0 := rfl
theorem bv_snoc (l : List Bool) (b : Bool) : bv (l ++ [b]) = 2 * bv l + bn b := by simp [bv]
theorem bn_lt (b : Bool) : bn b < 2 := by cases b <;> decide
theorem bn_inj {a b : Bool} (h : bn a = bn b) : a = b := by revert h; cases a <;> cases b <;> decide
theorem snoc_of {l : List Bool} {i : Nat} (h : l.length = i + 1) : ∃ l' b, l = l' ++ [b] ∧ l'.length = i := by
  have hne : l ≠ [] := by intro e; rw [e] at h; simp at h
  exact ⟨l.dropLast, l.getLast hne, (List.dropLast_concat_getLast hne).symm, by simp; omega⟩
theorem bv_inj : ∀ (i : Nat) (l m : List Bool), l.length = i → m.length = i → bv l = bv m → l = m
  | 0, l, m, h1, h2, _ => by rw [List.length_eq_zero_iff.1 h1, List.length_eq_zero_iff.1 h2]
  | i + 1, l, m, h1, h2, h => by
    obtain ⟨l', b, rfl, e1⟩ := snoc_of h1
    obtain ⟨m', c, rfl, e2⟩ := snoc_of h2
    rw [bv_snoc, bv_snoc] at h
    have hb := bn_lt b; have hc := bn_lt c
    rw [bv_inj i l' m' e1 e2 (by omega), bn_inj (show bn b = bn c by omega)]
section
variable {C : List Bool → Int}
/-- one message is better than another one -/
def Lt (C : List Bool → Int) (l m : List Bool) : Prop := C l < C m ∨ C l = C m ∧ bv l < bv m
theorem Lt.trans {l m k : List Bool} (h : Lt C l m) (h2 : Lt C m k) : Lt C l k := by unfold Lt at *; omega
theorem Lt.irrefl {l : List Bool} (h : Lt C l l) : False := by unfold Lt at h; omega
theorem Lt.asymm {l m : List Bool} (h : Lt C l m) (h2 : Lt C m l) : False := (h.trans h2).irrefl
theorem Lt.total {l m : List Bool} (hl : l.length = m.length) (hne : l ≠ m) : Lt C l m ∨ Lt C m l := by
  have : bv l ≠ bv m := fun h => hne (bv_inj _ l m hl rfl h)
  unfold Lt; omega
/-- the two best ones of a set -/
def Best2 (C : List Bool → Int) (D : List Bool → Prop) : Option (List Bool) → Option (List Bool) → Prop
  | none, none => ∀ l, ¬ D l
  | none, some _ => False
  | some a, none => D a ∧ ∀ l, D l → l = a
  | some a, some b => D a ∧ D b ∧ Lt C a b ∧ ∀ l, D l → l = a ∨ l = b ∨ Lt C b l
theorem Best2.congr {D D' : List Bool → Prop} (h : ∀ l, D l ↔ D' l) : ∀ {e1 e2 : Option (List Bool)}, Best2 C D e1 e2 → Best2 C D' e1 e2
  | none, none, k => fun l hl => k l ((h l).2 hl)
  | none, some _, k => k.elim
  | some a, none, k => ⟨(h a).1 k.1, fun l hl => k.2 l ((h l).2 hl)⟩
  | some a, some b, k => ⟨(h a).1 k.1, (h b).1 k.2.1, k.2.2.1, fun l hl => k.2.2.2 l ((h l).2 hl)⟩
theorem Best2.fst {D : List Bool → Prop} {a : List Bool} : ∀ {e : Option (List Bool)}, Best2 C D (some a) e → D a ∧ ∀ l, D l → l = a ∨ Lt C a l
  | none, k => ⟨k.1, fun l hl => .inl (k.2 l hl)⟩
  | some b, k => ⟨k.1, fun l hl => by
      rcases k.2.2.2 l hl with h | h | h
      · exact .inl h
      · exact .inr (h ▸ k.2.2.1)
      · exact .inr (k.2.2.1.trans h)⟩
theorem Best2.snd {D : List Bool → Prop} {b : List Bool} : ∀ {e : Option (List Bool)}, Best2 C D e (some b) → D b ∧ ∃ a, e = some a ∧ D a ∧ Lt C a b
  | none, k => k.elim
  | some a, k => ⟨k.2.1, a, rfl, k.1, k.2.2.1⟩
theorem Best2.none1 {D : List Bool → Prop} : ∀ {e : Option (List Bool)}, Best2 C D none e → e = none ∧ ∀ l, ¬ D l
  | none, k => ⟨rfl, k⟩
  | some _, k => k.elim
/-- a message is put among the best ones -/
noncomputable def put2 (C : List Bool → Int) (m : List Bool) : Option (List Bool) → Option (List Bool) → Option (List Bool) × Option (List Bool)
  | none, e => (some m, e)
  | some a, none => open Classical in if Lt C m a then (some m, some a) else (some a, some m)
  | some a, some b => open Classical in if Lt C m a then (some m, some a) else if Lt C m b then (some a, some m) else (some a, some b)
theorem Best2.put {D : List Bool → Prop} {m : List Bool} {i : Nat} (hD : ∀ l, D l → l.length = i) (hm : m.length = i) (hn : ¬ D m) : ∀ {e1 e2 : Option (List Bool)}, Best2 C D e1 e2 →
    Best2 C (fun l => D l ∨ l = m) (put2 C m e1 e2).1 (put2 C m e1 e2).2
  | none, none, k => ⟨.inr rfl, fun l hl => hl.resolve_left (k l)⟩
  | none, some _, k => k.elim
  | some a, none, k => by
    have ha : m ≠ a := fun e => hn (e ▸ k.1)
    simp only [put2]
    by_cases h : Lt C m a
    · rw [if_pos h]
      refine ⟨.inr rfl, .inl k.1, h, fun l hl => ?_⟩
      rcases hl with hl | hl
      · exact .inr (.inl (k.2 l hl))
      · exact .inl hl
    · rw [if_neg h]
      have h2 := (Lt.total (C := C) (hm.trans (hD a k.1).symm) ha).resolve_left h
      refine ⟨.inl k.1, .inr rfl, h2, fun l hl => ?_⟩
      rcases hl with hl | hl
      · exact .inl (k.2 l hl)
      · exact .inr (.inl hl)
  | some a, some b, k => by
    have ha : m ≠ a := fun e => hn (e ▸ k.1)
    have hb : m ≠ b := fun e => hn (e ▸ k.2.1)
    simp only [put2]
    by_cases h : Lt C m a
    · rw [if_pos h]
      refine ⟨.inr rfl, .inl k.1, h, fun l hl => ?_⟩
      rcases hl with hl | hl
      · rcases k.2.2.2 l hl with h1 | h1 | h1
        · exact .inr (.inl h1)
        · exact .inr (.inr (h1 ▸ k.2.2.1))
        · exact .inr (.inr (k.2.2.1.trans h1))
      · exact .inl hl
    · rw [if_neg h]
      have h2 := (Lt.total (C := C) (hm.trans (hD a k.1).symm) ha).resolve_left h
      by_cases h3 : Lt C m b
      · rw [if_pos h3]
        refine ⟨.inl k.1, .inr rfl, h2, fun l hl => ?_⟩
        rcases hl with hl | hl
        · rcases k.2.2.2 l hl with h1 | h1 | h1
          · exact .inl h1
          · exact .inr (.inr (h1 ▸ h3))
          · exact .inr (.inr (h3.trans h1))
        · exact .inr (.inl hl)
      · rw [if_neg h3]
        have h4 := (Lt.total (C := C) (hm.trans (hD b k.2.1).symm) hb).resolve_left h3
        refine ⟨.inl k.1, .inl k.2.1, k.2.2.1, fun l hl => ?_⟩
        rcases hl with hl | hl
        · exact k.2.2.2 l hl
        · exact .inr (.inr (hl ▸ h4))
/-- what is left out is worse than two that are not -/
theorem Best2.up {D M : List Bool → Prop} (h1 : ∀ l, D l → M l) (h2 : ∀ l, M l → D l ∨ ∃ m1 m2, D m1 ∧ D m2 ∧ m1 ≠ m2 ∧ Lt C m1 l ∧ Lt C m2 l) : ∀ {e1 e2 : Option (List Bool)}, Best2 C D e1 e2 → Best2 C M e1 e2
  | none, none, k => fun l hl => by
    rcases h2 l hl with h | ⟨m1, _, h, _⟩
    · exact k l h
    · exact k m1 h
  | none, some _, k => k.elim
  | some a, none, k => ⟨h1 a k.1, fun l hl => by
      rcases h2 l hl with h | ⟨m1, m2, d1, d2, hne, _⟩
      · exact k.2 l h
      · exact absurd ((k.2 m1 d1).trans (k.2 m2 d2).symm) hne⟩
  | some a, some b, k => ⟨h1 a k.1, h1 b k.2.1, k.2.2.1, fun l hl => by
      rcases h2 l hl with h | ⟨m1, m2, d1, d2, hne, l1, l2⟩
      · exact k.2.2.2 l h
      · have key : ∀ m, D m → Lt C m l → m ≠ a → Lt C b l := by
          intro m d lt hma
          rcases k.2.2.2 m d with h | h | h
          · exact absurd h hma
          · exact h ▸ lt
          · exact h.trans lt
        by_cases e : m1 = a
        · exact .inr (.inr (key m2 d2 l2 (fun e2 => hne (e.trans e2.symm))))
        · exact .inr (.inr (key m1 d1 l1 e))⟩
end
/-! ### Nodes that stand for messages -/
abbrev PW := Option Nat × Option Nat
/-- A' has what A has, but for ranks -/
def Ext (A A' : List WayC) : Prop := A.length ≤ A'.length ∧ ∀ j, j < A.length → (nth A' j).1 = (nth A j).1 ∧ (nth A' j).2.1 = (nth A j).2.1 ∧ (nth A' j).2.2.1 = (nth A j).2.2.1
theorem Ext.refl (A : List WayC) : Ext A A := ⟨Nat.le_refl _, fun _ _ => ⟨rfl, rfl, rfl⟩⟩
theorem Ext.trans {A B D : List WayC} (h : Ext A B) (k : Ext B D) : Ext A D :=
  ⟨Nat.le_trans h.1 k.1, fun j hj => by
    obtain ⟨a1, a2, a3⟩ := h.2 j hj
    obtain ⟨b1, b2, b3⟩ := k.2 j (Nat.lt_of_lt_of_le hj h.1)
    exact ⟨b1.trans a1, b2.trans a2, b3.trans a3⟩⟩
theorem nth_app {A : List WayC} {x : WayC} {j : Nat} (h : j < A.length) : nth (A ++ [x]) j = nth A j := by
  unfold nth
  rw [List.getD_eq_getElem?_getD, List.getD_eq_getElem?_getD, List.getElem?_append_left h]
theorem nth_last (A : List WayC) (x : WayC) : nth (A ++ [x]) A.length = x := by
  unfold nth
  rw [List.getD_eq_getElem?_getD, List.getElem?_append_right (Nat.le_refl _)]; simp
theorem nth_setR {A : List WayC} {i j : Nat} {r : Int} (h : i < A.length) : nth (setR A i r) j = if i = j then ((nth A j).1, (nth A j).2.1, (nth A j).2.2.1, r) else nth A j := by
  unfold setR
  by_cases e : i = j
  · subst e
    rw [if_pos rfl]
    show (A.set i _).getD i default = _
    rw [List.getD_eq_getElem?_getD, List.getElem?_set_self h]; rfl
  · rw [if_neg e]
    show (A.set i _).getD j default = A.getD j default
    rw [List.getD_eq_getElem?_getD, List.getD_eq_getElem?_getD, List.getElem?_set_ne e]
theorem Ext.app (A : List WayC) (x : WayC) : Ext A (A ++ [x]) := ⟨by simp, fun j hj => by rw [nth_app hj]; exact ⟨rfl, rfl, rfl⟩⟩
theorem Ext.setR {A : List WayC} {i : Nat} (h : i < A.length) (r : Int) : Ext A (setR A i r) := ⟨by rw [setR_len]; exact Nat.le_refl _, fun j hj => by rw [nth_setR h]; split <;> exact ⟨rfl, rfl, rfl⟩⟩
inductive Rep (C : List Bool → Int) (A : List WayC) : Nat → List Bool → Prop
  | root {j : Nat} (h : j < A.length) (h1 : (nth A j).2.1 = none) (h2 : Val 12 (nth A j).2.2.1 (C [])) : Rep C A j []
  | step {j i : Nat} {l : List Bool} {b : Bool} (hj : j < A.length) (h : Rep C A i l) (h1 : (nth A j).1 = b) (h2 : (nth A j).2.1 = some i) (h3 : Val 12 (nth A j).2.2.1 (C (l ++ [b]))) : Rep C A j (l ++ [b])
theorem Rep.lt {C : List Bool → Int} {A : List WayC} {j : Nat} {l : List Bool} (h : Rep C A j l) : j < A.length := by cases h <;> assumption
theorem Rep.val {C : List Bool → Int} {A : List WayC} {j : Nat} {l : List Bool} (h : Rep C A j l) : Val 12 (nth A j).2.2.1 (C l) := by cases h <;> assumption
theorem Rep.ext {C : List Bool → Int} {A A' : List WayC} (e : Ext A A') {j : Nat} {l : List Bool} (h : Rep C A j l) : Rep C A' j l := by
  induction h with
  | root h h1 h2 =>
    obtain ⟨e1, e2, e3⟩ := e.2 _ h
    exact .root (Nat.lt_of_lt_of_le h e.1) (e2.trans h1) (e3 ▸ h2)
  | step hj h h1 h2 h3 ih =>
    obtain ⟨e1, e2, e3⟩ := e.2 _ hj
    exact .step (Nat.lt_of_lt_of_le hj e.1) ih (e1.trans h1) (e2.trans h2) (e3 ▸ h3)
theorem Rep.fun {C : List Bool → Int} {A : List WayC} {j : Nat} {l : List Bool} (h : Rep C A j l) : ∀ {m : List Bool}, Rep C A j m → l = m := by
  induction h with
  | root h h1 h2 =>
    intro m hm
    cases hm with
    | root _ _ _ => rfl
    | step _ _ _ k2 _ => rw [h1] at k2; cases k2
  | step hj h h1 h2 h3 ih =>
    intro m hm
    cases hm with
    | root _ k1 _ => rw [h2] at k1; cases k1
    | step _ k k1 k2 _ =>
      rw [h2] at k2; cases k2
      rw [ih k, ← h1, k1]
theorem gt_setG {α : Type} [Inhabited α] {L : List α} {i j : Nat} (hi : i < L.length) (hj : j < L.length) (v : α) : gt (L.set i v) (j : Int) = if i = j then v else gt L (j : Int) := by
  rw [gt_nat (by rw [List.length_set]; exact hj), gt_nat hj, List.getElem_set]
/-! ### Putting -/
theorem flt_dec {p : Nat} {x y : Fl} {k l : Int} (h1 : Val p x k) (h2 : Val p y l) : flt x y = decide (k < l) := by
  unfold flt
  rw [fcmp_val h1 h2]
  rw [Bool.eq_iff_iff, beq_iff_eq, decide_eq_true_eq, Option.some.injEq, Int.compare_eq_lt]
theorem fne_dec {p : Nat} {x y : Fl} {k l : Int} (h1 : Val p x k) (h2 : Val p y l) : fne x y = !decide (k = l) := by
  have e : fne x y = !feq x y := rfl
  rw [e, feq_dec h1 h2]
section
variable {C : List Bool → Int} {A : List WayC}
theorem better_ok {j1 j2 i1 i2 : Nat} {l1 l2 : List Bool} {b1 b2 : Bool} (v1 : Val 12 (nth A j1).2.2.1 (C (l1 ++ [b1]))) (v2 : Val 12 (nth A j2).2.2.1 (C (l2 ++ [b2])))
    (n1 : (nth A j1).1 = b1) (p1 : (nth A j1).2.1 = some i1) (n2 : (nth A j2).1 = b2) (p2 : (nth A j2).2.1 = some i2) (hp : i1 = i2 ↔ l1 = l2) (hl : l1.length = l2.length) (hr : (nth A i1).2.2.2 < (nth A i2).2.2.2 ↔ bv l1 < bv l2) :
    ∃ v : Bool, f_soft_run_1 A (some j1) (some j2) = some v ∧ (v = true ↔ Lt C (l1 ++ [b1]) (l2 ++ [b2])) := by
  unfold f_soft_run_1
  simp only [Option.bind_some]
  rw [fne_dec v1 v2, flt_dec v1 v2, p1, p2, n1, n2]
  simp only [Option.bind_some]
  have hb1 := bn_lt b1; have hb2 := bn_lt b2
  unfold Lt
  rw [bv_snoc, bv_snoc]
  by_cases hk : C (l1 ++ [b1]) = C (l2 ++ [b2])
  · rw [hk, if_neg (by simp)]
    by_cases hi : i1 = i2
    · have hll := hp.1 hi
      subst hi hll
      rw [if_neg (by simp)]
      refine ⟨(!b1) && b2, by cases b1 <;> rfl, ?_⟩
      cases b1 <;> cases b2 <;> simp [bn]
    · have hne : bv l1 ≠ bv l2 := fun h => hi (hp.2 (bv_inj _ _ _ hl rfl h))
      rw [if_pos (by simp [hi])]
      refine ⟨_, rfl, ?_⟩
      rw [decide_eq_true_eq, hr]
      omega
  · rw [if_pos (by simp [hk])]
    refine ⟨_, rfl, ?_⟩
    rw [decide_eq_true_eq]
    omega
/-- an entry's pointer and message -/
def RO (R : Nat → List Bool → Prop) : Option Nat → Option (List Bool) → Prop
  | none, none => True
  | some j, some m => R j m
  | _, _ => False
theorem RO.none1 {R : Nat → List Bool → Prop} {q : Option Nat} (h : RO R q none) : q = none := by cases q <;> simp_all [RO]
theorem RO.some1 {R : Nat → List Bool → Prop} {q : Option Nat} {m : List Bool} (h : RO R q (some m)) : ∃ j, q = some j ∧ R j m := by
  cases q with
  | none => exact h.elim
  | some j => exact ⟨j, rfl, h⟩
theorem RO.of_some {R : Nat → List Bool → Prop} {j : Nat} {e : Option (List Bool)} (h : RO R (some j) e) : ∃ m, e = some m ∧ R j m := by
  cases e with
  | none => exact h.elim
  | some m => exact ⟨m, rfl, h⟩
theorem RO.mono {R R' : Nat → List Bool → Prop} (h : ∀ j m, R j m → R' j m) : ∀ {q : Option Nat} {e : Option (List Bool)}, RO R q e → RO R' q e
  | none, none, _ => trivial
  | some j, some m, k => h j m k
  | none, some _, k => k.elim
  | some _, none, k => k.elim
/-- a node one step behind one of 'P' -/
def NR (C : List Bool → Int) (A : List WayC) (P : Nat → List Bool → Prop) (j : Nat) (m : List Bool) : Prop :=
  ∃ i0 l c, m = l ++ [c] ∧ j < A.length ∧ (nth A j).1 = c ∧ (nth A j).2.1 = some i0 ∧ Val 12 (nth A j).2.2.1 (C m) ∧ P i0 l
structure OK1 (A : List WayC) (P : Nat → List Bool → Prop) (i : Nat) : Prop where
  len : ∀ j l, P j l → l.length = i
  ptr : ∀ j l j' l', P j l → P j' l' → (j = j' ↔ l = l')
  rk : ∀ j l j' l', P j l → P j' l' → ((nth A j).2.2.2 < (nth A j').2.2.2 ↔ bv l < bv l')
theorem NR.better {P : Nat → List Bool → Prop} {i : Nat} (hP : OK1 A P i) {j1 j2 : Nat} {m1 m2 : List Bool} (h1 : NR C A P j1 m1) (h2 : NR C A P j2 m2) :
    ∃ v : Bool, f_soft_run_1 A (some j1) (some j2) = some v ∧ (v = true ↔ Lt C m1 m2) := by
  obtain ⟨i1, l1, c1, rfl, a1, a2, a3, a4, a5⟩ := h1
  obtain ⟨i2, l2, c2, rfl, d1, d2, d3, d4, d5⟩ := h2
  exact better_ok a4 d4 a2 a3 d2 d3 (hP.ptr _ _ _ _ a5 d5) ((hP.len _ _ a5).trans (hP.len _ _ d5).symm) (hP.rk _ _ _ _ a5 d5)
theorem gt_setw {th : List PW} {s : Nat} (h : s < th.length) (x : PW) : gt (th.set s x) (s : Int) = x := by
  rw [gt_nat (by rw [List.length_set]; exact h)]; simp
theorem put_ok {P : Nat → List Bool → Prop} {i : Nat} (hP : OK1 A P i) {th : List PW} {s j : Nat} {m : List Bool} {e1 e2 : Option (List Bool)} (hs : s < th.length)
    (r1 : RO (NR C A P) (gt th (s : Int)).1 e1) (r2 : RO (NR C A P) (gt th (s : Int)).2 e2) (h12 : e1 = none → e2 = none) (hm : NR C A P j m) :
    ∃ q1 q2, f_soft_two_put A th (s : Int) (some j) = some (th.set s (q1, q2)) ∧ RO (NR C A P) q1 (put2 C m e1 e2).1 ∧ RO (NR C A P) q2 (put2 C m e1 e2).2 := by
  have hsame : th.set s ((gt th (s : Int)).1, (gt th (s : Int)).2) = th := by
    refine List.ext_getElem (by simp) fun k h1 h2 => ?_
    rw [List.getElem_set]
    split
    · rename_i e; subst e; rw [gt_nat hs]
    · rfl
  have first : ∀ z : Bool, (if z = true then (some ((th.set ((s : Int)).toNat (some j, (gt th (s : Int)).2)).set ((s : Int)).toNat ((gt (th.set ((s : Int)).toNat (some j, (gt th (s : Int)).2)) (s : Int)).1, (gt th (s : Int)).1))) else none) = if z = true then some (th.set s (some j, (gt th (s : Int)).1)) else none := by
    intro z
    rw [Int.toNat_natCast, gt_setw hs, List.set_set]
  unfold f_soft_two_put
  cases e1 with
  | none =>
    have h2 := h12 rfl
    subst h2
    have g1 := r1.none1
    have g2 := r2.none1
    rw [g1]
    simp only [Option.isNone_none, if_true, Option.bind_some]
    have := first true
    simp only [if_true, g1] at this
    rw [this]
    exact ⟨_, _, rfl, hm, trivial⟩
  | some a1 =>
    obtain ⟨j1, g1, k1⟩ := r1.some1
    obtain ⟨v1, w1, w2⟩ := hm.better hP k1
    rw [g1]
    simp only [Option.isNone_some, Bool.false_eq_true, if_false, w1, Option.bind_some]
    cases hv : v1 with
    | true =>
      have hlt := w2.1 hv
      have := first true
      simp only [if_true, g1] at this
      rw [if_pos rfl, this]
      refine ⟨_, _, rfl, ?_⟩
      cases e2 with
      | none => simp only [put2, if_pos hlt]; exact ⟨hm, k1⟩
      | some a2 => simp only [put2, if_pos hlt]; exact ⟨hm, k1⟩
    | false =>
      have hlt : ¬ Lt C m a1 := fun h => by have := w2.2 h; rw [hv] at this; cases this
      rw [if_neg (by simp)]
      cases e2 with
      | none =>
        have g2 := r2.none1
        rw [g2]
        simp only [Option.isNone_none, if_true, Option.bind_some, Int.toNat_natCast]
        refine ⟨_, _, rfl, ?_⟩
        simp only [put2, if_neg hlt]
        exact ⟨k1, hm⟩
      | some a2 =>
        obtain ⟨j2, g2, k2⟩ := r2.some1
        obtain ⟨v2, w3, w4⟩ := hm.better hP k2
        rw [g2]
        simp only [Option.isNone_some, Bool.false_eq_true, if_false, w3, Option.bind_some]
        cases hv2 : v2 with
        | true =>
          have hlt2 := w4.1 hv2
          rw [if_pos rfl, Int.toNat_natCast]
          refine ⟨_, _, rfl, ?_⟩
          simp only [put2, if_neg hlt, if_pos hlt2]
          exact ⟨k1, hm⟩
        | false =>
          have hlt2 : ¬ Lt C m a2 := fun h => by have := w4.2 h; rw [hv2] at this; cases this
          rw [if_neg (by simp)]
          refine ⟨_, _, by rw [hsame], ?_⟩
          simp only [put2, if_neg hlt, if_neg hlt2]
          rw [g1, g2]
          exact ⟨k1, k2⟩
theorem NR.up {P : Nat → List Bool → Prop} {x : WayC} {j : Nat} {m : List Bool} (h : NR C A P j m) : NR C (A ++ [x]) P j m := by
  obtain ⟨i0, l, c, h1, h2, h3, h4, h5, h6⟩ := h
  exact ⟨i0, l, c, h1, by simp; omega, by rw [nth_app h2]; exact h3, by rw [nth_app h2]; exact h4, by rw [nth_app h2]; exact h5, h6⟩
theorem OK1.up {P : Nat → List Bool → Prop} {i : Nat} {x : WayC} (h : OK1 A P i) (hlt : ∀ j l, P j l → j < A.length) : OK1 (A ++ [x]) P i :=
  ⟨h.len, h.ptr, fun j l j' l' p p' => by rw [nth_app (hlt j l p), nth_app (hlt j' l' p')]; exact h.rk j l j' l' p p'⟩
end
/-! ### Ranks -/
theorem gt_set_ne {th : List PW} {s t : Nat} (h : s ≠ t) (x : PW) : gt (th.set s x) (t : Int) = gt th (t : Int) := by
  unfold GL.gt
  rw [List.getD_eq_getElem?_getD, List.getD_eq_getElem?_getD, Int.toNat_natCast, List.getElem?_set_ne h]
theorem gt_rep {m q : Nat} (h : q < m) : gt (List.replicate m ((none : Option Nat), (none : Option Nat))) (q : Int) = (none, none) := by
  rw [gt_nat (by rw [List.length_replicate]; exact h)]; simp
def slp (th : List PW) (s k : Nat) : Option Nat := gt [(gt th (s : Int)).1, (gt th (s : Int)).2] (k : Int)
theorem slp0 (th : List PW) (s : Nat) : slp th s 0 = (gt th (s : Int)).1 := rfl
theorem slp1 (th : List PW) (s : Nat) : slp th s 1 = (gt th (s : Int)).2 := rfl
def Fq (se : List PW) (q : Nat) : Option Nat := gt [(gt se ((q / 2 : Nat) : Int)).1, (gt se ((q / 2 : Nat) : Int)).2] ((q % 2 : Nat) : Int)
def kq (A : List WayC) (j : Nat) : Nat := 2 * ((nth A ((nth A j).2.1.getD 0)).2.2.2).toNat + bn (nth A j).1
def occ (se : List PW) (q : Nat) : Nat := if (Fq se q).isSome then 1 else 0
theorem occ_le (se : List PW) (q : Nat) : occ se q ≤ 1 := by unfold occ; split <;> omega
theorem Fq_set {se : List PW} {r : Nat} (hr : r < se.length) (c : Bool) (j : Nat) (q : Nat) : Fq (se.set r (pput (gt se (r : Int)) (if c then 1 else 0) (some j))) q = if q = 2 * r + bn c then some j else Fq se q := by
  unfold Fq
  by_cases hq : q / 2 = r
  · rw [hq, gt_setw hr]
    cases c with
    | false =>
      simp only [Bool.false_eq_true, if_false, bn, Nat.add_zero, pput, if_true]
      rcases (show q % 2 = 0 ∨ q % 2 = 1 by omega) with h | h
      · rw [h, if_pos (show q = 2 * r by omega)]; rfl
      · rw [h, if_neg (show ¬ q = 2 * r by omega)]; rfl
    | true =>
      have e10 : ¬ ((1 : Int) = 0) := by decide
      simp only [if_true, bn, pput, if_neg e10]
      rcases (show q % 2 = 0 ∨ q % 2 = 1 by omega) with h | h
      · rw [h, if_neg (show ¬ q = 2 * r + 1 by omega)]; rfl
      · rw [h, if_pos (show q = 2 * r + 1 by omega)]; rfl
  · have : q ≠ 2 * r + bn c := by have := bn_lt c; omega
    rw [if_neg this, gt_set_ne (fun h => hq h.symm)]
section
variable {A : List WayC} {th : List PW} {N : Nat}
structure I1 (A : List WayC) (th : List PW) (N s k : Nat) (se : List PW) : Prop where
  len : se.length = 2 * N
  at_ : ∀ q, q < 4 * N → ∀ j, Fq se q = some j ↔ (∃ s0 k0, s0 < N ∧ k0 < 2 ∧ (s0 < s ∨ s0 = s ∧ k0 < k) ∧ slp th s0 k0 = some j) ∧ kq A j = q
  cnt : fs (occ se) (4 * N) ≤ 2 * s + k
structure HE (A : List WayC) (th : List PW) (N : Nat) : Prop where
  nod : ∀ s k j, s < N → k < 2 → slp th s k = some j → j < A.length ∧ ∃ i0, (nth A j).2.1 = some i0 ∧ 0 ≤ (nth A i0).2.2.2 ∧ (nth A i0).2.2.2 < 2 * N
  inj : ∀ s k j s' k' j', s < N → k < 2 → slp th s k = some j → s' < N → k' < 2 → slp th s' k' = some j' → kq A j = kq A j' → j = j'
theorem rank_s2 (hE : HE A th N) (hN : N ≤ 64) (hl : th.length = 64) {s k : Nat} {se : List PW} (h : I1 A th N s k se) (hs : s < N) (hk : k < 2) :
    ∃ se', f_soft_ranked.s2 A th (s : Int) (se, (k : Int)) = some (.inl (se', ((k + 1 : Nat) : Int))) ∧ I1 A th N s (k + 1) se' := by
  have hw : IntKind.i64.wrap ((k : Int) + 1) = ((k + 1 : Nat) : Int) := by rw [w64 (by omega) (by omega)]; rfl
  simp only [f_soft_ranked.s2, f_soft_ranked.s2c]
  rw [if_pos (by rw [decide_eq_true_eq]; omega), if_pos (by omega), show gt [(gt th (s : Int)).1, (gt th (s : Int)).2] (k : Int) = slp th s k from rfl, hw]
  cases hsl : slp th s k with
  | none =>
    simp only [Option.isNone_none, if_true]
    refine ⟨_, rfl, h.len, fun q hq j => ?_, by have := h.cnt; omega⟩
    rw [h.at_ q hq j]
    constructor
    · rintro ⟨⟨s0, k0, h1, h2, h3, h4⟩, h5⟩
      exact ⟨⟨s0, k0, h1, h2, by omega, h4⟩, h5⟩
    · rintro ⟨⟨s0, k0, h1, h2, h3, h4⟩, h5⟩
      refine ⟨⟨s0, k0, h1, h2, ?_, h4⟩, h5⟩
      by_cases e : s0 = s ∧ k0 = k
      · obtain ⟨rfl, rfl⟩ := e; rw [hsl] at h4; cases h4
      · omega
  | some j =>
    obtain ⟨n1, i0, n2, n3, n4⟩ := hE.nod s k j hs hk hsl
    have hkq : kq A j = 2 * ((nth A i0).2.2.2).toNat + bn (nth A j).1 := by unfold kq; rw [n2]; rfl
    have hb := bn_lt (nth A j).1
    obtain ⟨r, hr⟩ : ∃ r : Nat, (nth A i0).2.2.2 = (r : Int) := ⟨((nth A i0).2.2.2).toNat, by omega⟩
    rw [hr, Int.toNat_natCast] at hkq
    have hrl : r < se.length := by rw [h.len]; omega
    have hj1 : f_soft_ranked.j1 A th se (s : Int) (k : Int) (r : Int) = some (.inl (se.set r (pput (gt se (r : Int)) (if (nth A j).1 then 1 else 0) (some j)), ((k + 1 : Nat) : Int))) := by
      unfold f_soft_ranked.j1
      rw [show gt [(gt th (s : Int)).1, (gt th (s : Int)).2] (k : Int) = slp th s k from rfl, hsl]
      simp only [Option.bind_some]
      have hj2 : ∀ c : Int, 0 ≤ c → c < 2 → f_soft_ranked.j2 th se (s : Int) (k : Int) (r : Int) c = some (.inl (se.set r (pput (gt se (r : Int)) c (some j)), ((k + 1 : Nat) : Int))) := by
        intro c c0 c1
        unfold f_soft_ranked.j2
        rw [if_pos (by omega), if_pos (by omega), show gt [(gt th (s : Int)).1, (gt th (s : Int)).2] (k : Int) = slp th s k from rfl, hsl, hw, Int.toNat_natCast]
      cases (nth A j).1 with
      | true => rw [if_pos rfl, hj2 1 (by decide) (by decide)]; rfl
      | false => rw [if_neg (by simp), hj2 0 (by decide) (by decide)]; rfl
    simp only [Option.isNone_some, Bool.false_eq_true, if_false, Option.bind_some, n2, Bool.not_false, if_true, hr, hj1]
    have hF := Fq_set (se := se) hrl (nth A j).1 j
    have hq0 : 2 * r + bn (nth A j).1 < 4 * N := by rw [h.len] at hrl; omega
    refine ⟨_, rfl, by rw [List.length_set]; exact h.len, fun q hq j' => ?_, ?_⟩
    · rw [hF]
      by_cases e : q = 2 * r + bn (nth A j).1
      · rw [if_pos e]
        constructor
        · intro hj
          have := Option.some.inj hj
          subst this
          exact ⟨⟨s, k, hs, hk, by omega, hsl⟩, by omega⟩
        · rintro ⟨⟨s0, k0, h1, h2, h3, h4⟩, h5⟩
          rw [hE.inj s k j s0 k0 j' hs hk hsl h1 h2 h4 (by omega)]
      · rw [if_neg e, h.at_ q hq j']
        constructor
        · rintro ⟨⟨s0, k0, h1, h2, h3, h4⟩, h5⟩
          exact ⟨⟨s0, k0, h1, h2, by omega, h4⟩, h5⟩
        · rintro ⟨⟨s0, k0, h1, h2, h3, h4⟩, h5⟩
          refine ⟨⟨s0, k0, h1, h2, ?_, h4⟩, h5⟩
          by_cases e2 : s0 = s ∧ k0 = k
          · obtain ⟨rfl, rfl⟩ := e2
            rw [hsl] at h4; cases h4
            omega
          · omega
    · have := fs_upd (f := occ se) (g := occ (se.set r (pput (gt se (r : Int)) (if (nth A j).1 then 1 else 0) (some j)))) (p := 2 * r + bn (nth A j).1) hq0 (fun i hi hne => by unfold occ; rw [hF, if_neg hne])
      have hg : occ (se.set r (pput (gt se (r : Int)) (if (nth A j).1 then 1 else 0) (some j))) (2 * r + bn (nth A j).1) ≤ 1 := occ_le _ _
      have := h.cnt
      omega
theorem rank_seats (hE : HE A th N) (hN : N ≤ 64) (hl : th.length = 64) : ∃ se, loop (f_soft_ranked.s1 A th (N : Int)) (List.replicate (2 * N) ((none : Option Nat), (none : Option Nat)), 0) = some se ∧ I1 A th N N 0 se := by
  have inner : ∀ {s : Nat} {se : List PW}, s < N → I1 A th N s 0 se → ∃ se', loop (f_soft_ranked.s2 A th (s : Int)) (se, 0) = some se' ∧ I1 A th N (s + 1) 0 se' := by
    intro s se hs h
    obtain ⟨se1, a1, a2⟩ := rank_s2 hE hN hl h hs (by decide)
    obtain ⟨se2, b1, b2⟩ := rank_s2 hE hN hl a2 hs (by decide)
    refine ⟨se2, ?_, b2.len, fun q hq j => ?_, by have := b2.cnt; omega⟩
    · have : loop (f_soft_ranked.s2 A th (s : Int)) (se2, ((0 + 1 + 1 : Nat) : Int)) = some se2 := loop_done (by
        simp only [f_soft_ranked.s2, f_soft_ranked.s2c]
        rw [if_neg (by simp)])
      exact (loop_step a1).trans ((loop_step b1).trans this)
    · rw [b2.at_ q hq j]
      constructor
      · rintro ⟨⟨s0, k0, h1, h2, h3, h4⟩, h5⟩
        exact ⟨⟨s0, k0, h1, h2, by omega, h4⟩, h5⟩
      · rintro ⟨⟨s0, k0, h1, h2, h3, h4⟩, h5⟩
        exact ⟨⟨s0, k0, h1, h2, by omega, h4⟩, h5⟩
  have main : ∀ c s : Nat, s + c = N → ∀ se, I1 A th N s 0 se → ∃ se', loop (f_soft_ranked.s1 A th (N : Int)) (se, (s : Int)) = some se' ∧ I1 A th N N 0 se' := by
    intro c
    induction c with
    | zero =>
      intro s hs se h
      obtain rfl : s = N := by omega
      refine ⟨se, loop_done ?_, h⟩
      simp only [f_soft_ranked.s1, f_soft_ranked.s1c]
      rw [if_neg (by rw [decide_eq_true_eq]; omega)]
    | succ c ih =>
      intro s hs se h
      obtain ⟨se1, a1, a2⟩ := inner (show s < N by omega) h
      obtain ⟨se2, b1, b2⟩ := ih (s + 1) (by omega) se1 a2
      refine ⟨se2, ?_, b2⟩
      rw [loop_step (s' := (se1, ((s + 1 : Nat) : Int))) ?_, b1]
      simp only [f_soft_ranked.s1, f_soft_ranked.s1c]
      rw [if_pos (by rw [decide_eq_true_eq]; omega), if_pos (by omega), a1]
      simp only [Option.bind_some]
      rw [w64 (by omega) (by omega)]; rfl
  refine main N 0 (by omega) _ ⟨by simp, fun q hq j => ?_, ?_⟩
  · have : Fq (List.replicate (2 * N) ((none : Option Nat), (none : Option Nat))) q = none := by
      unfold Fq
      rw [gt_rep (by omega)]
      rcases (show q % 2 = 0 ∨ q % 2 = 1 by omega) with h | h <;> rw [h] <;> rfl
    rw [this]
    constructor
    · intro h; cases h
    · rintro ⟨⟨s0, k0, _, _, h3, _⟩, _⟩; omega
  · have : fs (occ (List.replicate (2 * N) ((none : Option Nat), (none : Option Nat)))) (4 * N) = fs (fun _ => 0) (4 * N) := fs_congr fun q hq => by
      unfold occ Fq
      rw [gt_rep (by omega)]
      rcases (show q % 2 = 0 ∨ q % 2 = 1 by omega) with h | h <;> rw [h] <;> rfl
    rw [this, fs_zero]; omega
theorem rank_write (hE : HE A th N) (hN : N ≤ 64) {se : List PW} (h : I1 A th N N 0 se) :
    ∃ A', loop (f_soft_ranked.s3 se) (A, 0, 0) = some A' ∧ A'.length = A.length ∧ Ext A A' ∧ ∀ q, q < 4 * N → ∀ j, Fq se q = some j → (nth A' j).2.2.2 = (fs (occ se) q : Nat) := by
  have hcnt := h.cnt
  have hlt : ∀ q, q < 4 * N → ∀ j, Fq se q = some j → j < A.length := by
    intro q hq j hj
    obtain ⟨⟨s0, k0, h1, h2, _, h4⟩, _⟩ := (h.at_ q hq j).1 hj
    exact (hE.nod s0 k0 j h1 h2 h4).1
  have step : ∀ (r k : Nat) (A' : List WayC), r < 2 * N → k < 2 → A'.length = A.length → Ext A A' → (∀ q', q' < 2 * r + k → ∀ j, Fq se q' = some j → (nth A' j).2.2.2 = (fs (occ se) q' : Nat)) →
      ∃ A'', f_soft_ranked.s4 se (r : Int) (A', ((fs (occ se) (2 * r + k) : Nat) : Int), (k : Int)) = some (.inl (A'', ((fs (occ se) (2 * r + k + 1) : Nat) : Int), ((k + 1 : Nat) : Int))) ∧ A''.length = A.length ∧ Ext A A'' ∧ (∀ q', q' < 2 * r + k + 1 → ∀ j, Fq se q' = some j → (nth A'' j).2.2.2 = (fs (occ se) q' : Nat)) := by
    intro r k A' hr hk hl hX hq
    have hmono := fs_mono (occ se) (show 2 * r + k ≤ 4 * N by omega)
    have hFq : gt [(gt se (r : Int)).1, (gt se (r : Int)).2] (k : Int) = Fq se (2 * r + k) := by
      unfold Fq
      rw [show (2 * r + k) / 2 = r by omega, show (2 * r + k) % 2 = k by omega]
    have hs1 : fs (occ se) (2 * r + k + 1) = fs (occ se) (2 * r + k) + occ se (2 * r + k) := rfl
    simp only [f_soft_ranked.s4, f_soft_ranked.s4c]
    rw [if_pos (by rw [decide_eq_true_eq]; omega), if_pos (by omega), hFq, w64 (x := (k : Int) + 1) (by omega) (by omega)]
    cases hj : Fq se (2 * r + k) with
    | none =>
      have ho : occ se (2 * r + k) = 0 := by unfold occ; rw [hj]; rfl
      rw [if_neg (by simp)]
      have e9 : fs (occ se) (2 * r + k + 1) = fs (occ se) (2 * r + k) := by omega
      refine ⟨A', by rw [e9]; rfl, hl, hX, fun q' hq' j hj' => ?_⟩
      · by_cases e : q' = 2 * r + k
        · subst e; rw [hj] at hj'; cases hj'
        · exact hq q' (by omega) j hj'
    | some j =>
      have ho : occ se (2 * r + k) = 1 := by unfold occ; rw [hj]; rfl
      have hjl := hlt _ (by omega) j hj
      rw [if_pos (by simp)]
      simp only [Option.bind_some]
      have e9 : IntKind.i64.wrap (((fs (occ se) (2 * r + k) : Nat) : Int) + 1) = ((fs (occ se) (2 * r + k + 1) : Nat) : Int) := by rw [w64 (by omega) (by omega)]; omega
      refine ⟨_, by rw [e9]; rfl, by rw [setR_len]; exact hl, hX.trans (Ext.setR (by omega) _), fun q' hq' j' hj' => ?_⟩
      rw [nth_setR (by omega)]
      by_cases e : j = j'
      · subst e
        rw [if_pos rfl]
        have e1 := ((h.at_ _ (by omega) j).1 hj).2
        have e2 := ((h.at_ _ (by omega) j).1 hj').2
        have : q' = 2 * r + k := by omega
        rw [this]
      · rw [if_neg e]
        refine hq q' ?_ j' hj'
        by_cases e2 : q' = 2 * r + k
        · subst e2; rw [hj] at hj'; exact absurd (Option.some.inj hj') e
        · omega
  have main : ∀ c r : Nat, r + c = 2 * N → ∀ A', A'.length = A.length → Ext A A' → (∀ q', q' < 2 * r → ∀ j, Fq se q' = some j → (nth A' j).2.2.2 = (fs (occ se) q' : Nat)) →
      ∃ A'', loop (f_soft_ranked.s3 se) (A', ((fs (occ se) (2 * r) : Nat) : Int), (r : Int)) = some A'' ∧ A''.length = A.length ∧ Ext A A'' ∧ (∀ q', q' < 4 * N → ∀ j, Fq se q' = some j → (nth A'' j).2.2.2 = (fs (occ se) q' : Nat)) := by
    intro c
    induction c with
    | zero =>
      intro r hr A' hl hX hq
      obtain rfl : r = 2 * N := by omega
      refine ⟨A', loop_done ?_, hl, hX, fun q' hq' => hq q' (by omega)⟩
      simp only [f_soft_ranked.s3, f_soft_ranked.s3c]
      rw [if_neg (by rw [decide_eq_true_eq, h.len]; omega)]
    | succ c ih =>
      intro r hr A' hl hX hq
      obtain ⟨A1, a1, a2, a3, a4⟩ := step r 0 A' (by omega) (by decide) hl hX hq
      obtain ⟨A2, b1, b2, b3, b4⟩ := step r 1 A1 (by omega) (by decide) a2 a3 a4
      obtain ⟨A3, c1, c2, c3, c4⟩ := ih (r + 1) (by omega) A2 b2 b3 (fun q' hq' => b4 q' (by omega))
      refine ⟨A3, ?_, c2, c3, c4⟩
      have inner : loop (f_soft_ranked.s4 se (r : Int)) (A', ((fs (occ se) (2 * r) : Nat) : Int), 0) = some (A2, ((fs (occ se) (2 * (r + 1)) : Nat) : Int)) := by
        have e0 : loop (f_soft_ranked.s4 se (r : Int)) (A2, ((fs (occ se) (2 * r + 1 + 1) : Nat) : Int), ((1 + 1 : Nat) : Int)) = some (A2, ((fs (occ se) (2 * (r + 1)) : Nat) : Int)) := loop_done (by
          simp only [f_soft_ranked.s4, f_soft_ranked.s4c]
          rw [if_neg (by simp)]; rfl)
        rw [← e0, ← loop_step b1]
        exact loop_step a1
      rw [loop_step (s' := (A2, ((fs (occ se) (2 * (r + 1)) : Nat) : Int), ((r + 1 : Nat) : Int))) ?_, c1]
      simp only [f_soft_ranked.s3, f_soft_ranked.s3c]
      rw [if_pos (by rw [decide_eq_true_eq, h.len]; omega), if_pos (by rw [h.len]; omega), inner]
      simp only [Option.bind_some]
      rw [w64 (by omega) (by omega)]; rfl
  exact main (2 * N) 0 (by omega) A rfl (Ext.refl A) (fun q' hq' => by omega)
theorem ranked_ok (hE : HE A th N) (hN : N ≤ 64) (hl : th.length = 64) : ∃ A', f_soft_ranked A th (N : Int) = some A' ∧ A'.length = A.length ∧ Ext A A' ∧
    (∀ s k j, s < N → k < 2 → slp th s k = some j → 0 ≤ (nth A' j).2.2.2 ∧ (nth A' j).2.2.2 < 2 * N) ∧
    (∀ s k j s' k' j', s < N → k < 2 → slp th s k = some j → s' < N → k' < 2 → slp th s' k' = some j' → ((nth A' j).2.2.2 < (nth A' j').2.2.2 ↔ kq A j < kq A j')) := by
  obtain ⟨se, a1, a2⟩ := rank_seats hE hN hl
  obtain ⟨A', b1, b2, b3, b4⟩ := rank_write hE hN a2
  have hcnt := a2.cnt
  have hf : ∀ s k j, s < N → k < 2 → slp th s k = some j → kq A j < 4 * N ∧ Fq se (kq A j) = some j := by
    intro s k j hs hk hj
    obtain ⟨n1, i0, n2, n3, n4⟩ := hE.nod s k j hs hk hj
    have hb := bn_lt (nth A j).1
    have hkq : kq A j = 2 * ((nth A i0).2.2.2).toNat + bn (nth A j).1 := by unfold kq; rw [n2]; rfl
    have hlt : kq A j < 4 * N := by omega
    exact ⟨hlt, (a2.at_ _ hlt j).2 ⟨⟨s, k, hs, hk, by omega, hj⟩, rfl⟩⟩
  have hocc : ∀ q j, Fq se q = some j → occ se q = 1 := fun q j h => by unfold occ; rw [h]; rfl
  refine ⟨A', ?_, b2, b3, fun s k j hs hk hj => ?_, fun s k j s' k' j' hs hk hj hs' hk' hj' => ?_⟩
  · unfold f_soft_ranked
    have e : IntKind.i64.wrap (2 * (N : Int)) = ((2 * N : Nat) : Int) := by rw [w64 (by omega) (by omega)]; omega
    rw [e, if_pos (by omega), Int.toNat_natCast, a1]
    simp only [Option.bind_some]
    rw [b1]; rfl
  · obtain ⟨f1, f2⟩ := hf s k j hs hk hj
    have h1 := b4 _ f1 j f2
    have h2 := fs_mono (occ se) (show kq A j + 1 ≤ 4 * N by omega)
    have h3 : fs (occ se) (kq A j + 1) = fs (occ se) (kq A j) + occ se (kq A j) := rfl
    rw [hocc _ _ f2] at h3
    omega
  · obtain ⟨f1, f2⟩ := hf s k j hs hk hj
    obtain ⟨g1, g2⟩ := hf s' k' j' hs' hk' hj'
    have h1 := b4 _ f1 j f2
    have h2 := b4 _ g1 j' g2
    have h3 : fs (occ se) (kq A j + 1) = fs (occ se) (kq A j) + occ se (kq A j) := rfl
    rw [hocc _ _ f2] at h3
    rw [h1, h2]
    constructor
    · intro hlt
      rcases Nat.lt_or_ge (kq A j) (kq A j') with h | h
      · exact h
      · have := fs_mono (occ se) h; omega
    · intro hlt
      have := fs_mono (occ se) (show kq A j + 1 ≤ kq A j' from hlt); omega
end
/-! ### A step of the run -/
def HC (L : List ((Fl × Fl) × Bool)) (U V : Nat → Int) : Prop := ∀ i, i < L.length → ∀ one two, ∃ c, f_soft_cost one two (gt L (i : Int)).1 (gt L (i : Int)).2 = some c ∧ Val 12 c (costV one two (gt L (i : Int)) (U i) (V i)) ∧ (costV one two (gt L (i : Int)) (U i) (V i)).natAbs ≤ 33554432
theorem HC_of {L : List ((Fl × Fl) × Bool)} {U V : Nat → Int} (h : SR L U V) (ha : gal (mf L U V) L.length = true) : HC L U V := fun i hi one two => cost_ok one two (h i hi) (gal_at ha hi)
theorem pc_congr {n a b : Nat} {L : List ((Fl × Fl) × Bool)} {U V : Nat → Int} {l m : List Bool} : ∀ i, (∀ t, t < i → bitAt l t = bitAt m t) → pc n a b l L U V i = pc n a b m L U V i
  | 0, _ => rfl
  | i + 1, h => by simp only [pc]; rw [pc_congr i (fun t ht => h t (by omega)), st_congr i (fun t ht => h t (by omega)), h i (by omega)]
def cst (n a b : Nat) (L : List ((Fl × Fl) × Bool)) (U V : Nat → Int) (l : List Bool) : Int := pc n a b l L U V l.length
section
variable {n a b : Nat} {L : List ((Fl × Fl) × Bool)} {U V : Nat → Int}
theorem st_app (l : List Bool) (c : Bool) {i : Nat} (h : i ≤ l.length) : st n (l ++ [c]) i = st n l i := st_congr i fun t ht => bitAt_app c (by omega)
theorem st_snoc (l : List Bool) (c : Bool) : st n (l ++ [c]) (l.length + 1) = nx n (st n l l.length) c := by
  show nx n (st n (l ++ [c]) l.length) (bitAt (l ++ [c]) l.length) = _
  rw [st_app l c (Nat.le_refl _), bitAt_last]
theorem cst_snoc (l : List Bool) (c : Bool) : cst n a b L U V (l ++ [c]) = cst n a b L U V l + costV (ob n a (st n l l.length) c) (ob n b (st n l l.length) c) (gt L (l.length : Int)) (U l.length) (V l.length) := by
  unfold cst
  rw [List.length_append, List.length_singleton]
  simp only [pc]
  rw [st_app l c (Nat.le_refl _), bitAt_last, pc_congr l.length (fun t ht => bitAt_app c ht)]
theorem cst_le (h : HC L U V) : ∀ (i : Nat) (l : List Bool), l.length = i → i ≤ L.length → (cst n a b L U V l).natAbs ≤ i * 33554432
  | 0, l, h1, _ => by rw [List.length_eq_zero_iff.1 h1]; simp [cst, pc]
  | i + 1, l, h1, h2 => by
    obtain ⟨l', c, rfl, e⟩ := snoc_of h1
    have ih := cst_le h i l' e (by omega)
    obtain ⟨_, _, _, h3⟩ := h l'.length (by omega) (ob n a (st n l' l'.length) c) (ob n b (st n l' l'.length) c)
    rw [cst_snoc]
    omega
theorem Lt_snoc {l m : List Bool} (c : Bool) (hl : l.length = m.length) (hs : st n l l.length = st n m m.length) (h : Lt (cst n a b L U V) l m) : Lt (cst n a b L U V) (l ++ [c]) (m ++ [c]) := by
  unfold Lt at *
  rw [cst_snoc, cst_snoc, bv_snoc, bv_snoc, hs, hl]
  omega
def Adm (T last i : Nat) (l : List Bool) : Prop := l.length = i ∧ ∀ t, t < i → T ≤ t + last → bitAt l t = false
def Mem (n T last i s : Nat) (l : List Bool) : Prop := Adm T last i l ∧ st n l i = s
theorem Adm.snoc {T last i : Nat} {l : List Bool} (h : Adm T last i l) {c : Bool} (hc : c = true → ¬ T ≤ i + last) : Adm T last (i + 1) (l ++ [c]) := by
  refine ⟨by simp [h.1], fun t ht hT => ?_⟩
  by_cases e : t = i
  · subst e
    have := bitAt_last l c
    rw [h.1] at this
    rw [this]
    cases c with
    | false => rfl
    | true => exact absurd hT (hc rfl)
  · rw [bitAt_app c (by rw [h.1]; omega)]; exact h.2 t (by omega) hT
theorem Adm.of_snoc {T last i : Nat} {l : List Bool} {c : Bool} (h : Adm T last (i + 1) (l ++ [c])) : Adm T last i l ∧ (c = true → ¬ T ≤ i + last) := by
  have hl : l.length = i := by have := h.1; simp at this; exact this
  refine ⟨⟨hl, fun t ht hT => ?_⟩, fun hc hT => ?_⟩
  · rw [← bitAt_app c (by omega)]; exact h.2 t (by omega) hT
  · have := h.2 i (by omega) hT
    have e := bitAt_last l c
    rw [hl] at e
    rw [e, hc] at this; cases this
abbrev EE := Nat → Option (List Bool) × Option (List Bool)
def sle (e : EE) (s k : Nat) : Option (List Bool) := gt [(e s).1, (e s).2] (k : Int)
theorem RO.sl {R : Nat → List Bool → Prop} {t : List PW} {e : EE} {s k : Nat} (hk : k < 2) (h : RO R (gt t (s : Int)).1 (e s).1 ∧ RO R (gt t (s : Int)).2 (e s).2) : RO R (slp t s k) (sle e s k) := by
  rcases (show k = 0 ∨ k = 1 by omega) with rfl | rfl
  · exact h.1
  · exact h.2
theorem Best2.sl {C : List Bool → Int} {D : List Bool → Prop} {e : EE} {s k : Nat} {l : List Bool} (hk : k < 2) (h : Best2 C D (e s).1 (e s).2) (hl : sle e s k = some l) : D l := by
  rcases (show k = 0 ∨ k = 1 by omega) with rfl | rfl
  · have hl' : (e s).1 = some l := hl
    rw [hl'] at h; exact h.fst.1
  · have hl' : (e s).2 = some l := hl
    rw [hl'] at h; exact h.snd.1
theorem Best2.one {C : List Bool → Int} {D : List Bool → Prop} {e : EE} {s k k' : Nat} {l : List Bool} (hk : k < 2) (hk' : k' < 2) (h : Best2 C D (e s).1 (e s).2) (h1 : sle e s k = some l) (h2 : sle e s k' = some l) : k = k' := by
  have key : (e s).1 = some l → (e s).2 = some l → False := by
    intro a1 a2
    rw [a1, a2] at h
    exact h.2.2.1.irrefl
  rcases (show k = 0 ∨ k = 1 by omega) with rfl | rfl <;> rcases (show k' = 0 ∨ k' = 1 by omega) with rfl | rfl
  · rfl
  · exact (key h1 h2).elim
  · exact (key h2 h1).elim
  · rfl
/-- a generation: of each state the two best messages -/
structure Gen (n a b : Nat) (L : List ((Fl × Fl) × Bool)) (U V : Nat → Int) (last i : Nat) (A : List WayC) (t : List PW) (e : EE) : Prop where
  len : t.length = 64
  ro : ∀ s : Nat, s < 2 ^ (n - 1) → RO (Rep (cst n a b L U V) A) (gt t (s : Int)).1 (e s).1 ∧ RO (Rep (cst n a b L U V) A) (gt t (s : Int)).2 (e s).2
  best : ∀ s : Nat, s < 2 ^ (n - 1) → Best2 (cst n a b L U V) (Mem n L.length last i s) (e s).1 (e s).2
  rk0 : ∀ s k j, s < 2 ^ (n - 1) → k < 2 → slp t s k = some j → 0 ≤ (nth A j).2.2.2 ∧ (nth A j).2.2.2 < 2 * (2 ^ (n - 1) : Nat)
  rk : ∀ s k j l s' k' j' l', s < 2 ^ (n - 1) → k < 2 → slp t s k = some j → Rep (cst n a b L U V) A j l → s' < 2 ^ (n - 1) → k' < 2 → slp t s' k' = some j' → Rep (cst n a b L U V) A j' l' → ((nth A j).2.2.2 < (nth A j').2.2.2 ↔ bv l < bv l')
def Ent (n a b : Nat) (L : List ((Fl × Fl) × Bool)) (U V : Nat → Int) (A : List WayC) (t : List PW) (j : Nat) (l : List Bool) : Prop := ∃ s k, s < 2 ^ (n - 1) ∧ k < 2 ∧ slp t s k = some j ∧ Rep (cst n a b L U V) A j l
variable {last i : Nat} {A : List WayC} {t : List PW} {e : EE}
theorem Gen.ent (h : Gen n a b L U V last i A t e) {s k j : Nat} {l : List Bool} (hs : s < 2 ^ (n - 1)) (hk : k < 2) (hj : slp t s k = some j) (hr : Rep (cst n a b L U V) A j l) : sle e s k = some l ∧ Mem n L.length last i s l := by
  have r := RO.sl hk (h.ro s hs)
  rw [hj] at r
  obtain ⟨m, h1, h2⟩ := r.of_some
  have := h2.fun hr
  subst this
  exact ⟨h1, Best2.sl hk (h.best s hs) h1⟩
theorem Gen.ok1 (h : Gen n a b L U V last i A t e) : OK1 A (Ent n a b L U V A t) i := by
  refine ⟨fun j l ⟨s, k, hs, hk, hj, hr⟩ => (h.ent hs hk hj hr).2.1.1, fun j l j' l' ⟨s, k, hs, hk, hj, hr⟩ ⟨s', k', hs', hk', hj', hr'⟩ => ?_, fun j l j' l' ⟨s, k, hs, hk, hj, hr⟩ ⟨s', k', hs', hk', hj', hr'⟩ => h.rk s k j l s' k' j' l' hs hk hj hr hs' hk' hj' hr'⟩
  constructor
  · intro ej; subst ej; exact hr.fun hr'
  · intro el; subst el
    obtain ⟨a1, a2⟩ := h.ent hs hk hj hr
    obtain ⟨b1, b2⟩ := h.ent hs' hk' hj' hr'
    have es : s = s' := a2.2.symm.trans b2.2
    subst es
    have ek := Best2.one hk hk' (h.best s hs) a1 b1
    subst ek
    rw [hj] at hj'
    exact Option.some.inj hj'
/-- while a step's messages are put -/
structure Pt (n a b : Nat) (L : List ((Fl × Fl) × Bool)) (U V : Nat → Int) (i : Nat) (A0 A : List WayC) (P : Nat → List Bool → Prop) (th : List PW) (e : EE) (D : List Bool → Prop) : Prop where
  len : th.length = 64
  ro : ∀ s : Nat, s < 2 ^ (n - 1) → RO (NR (cst n a b L U V) A P) (gt th (s : Int)).1 (e s).1 ∧ RO (NR (cst n a b L U V) A P) (gt th (s : Int)).2 (e s).2
  best : ∀ s : Nat, s < 2 ^ (n - 1) → Best2 (cst n a b L U V) (fun m => D m ∧ st n m (i + 1) = s) (e s).1 (e s).2
  ok : OK1 A P i
  lt : ∀ j l, P j l → j < A.length
  ext : Ext A0 A
  rk0 : ∀ j l, P j l → 0 ≤ (nth A j).2.2.2 ∧ (nth A j).2.2.2 < 2 * (2 ^ (n - 1) : Nat)
  dl : ∀ m, D m → m.length = i + 1
variable {A0 : List WayC} {P : Nat → List Bool → Prop} {th : List PW} {D : List Bool → Prop}
theorem Pt.congr (h : Pt n a b L U V i A0 A P th e D) {D' : List Bool → Prop} (hD : ∀ m, D m ↔ D' m) : Pt n a b L U V i A0 A P th e D' :=
  ⟨h.len, h.ro, fun s hs => (h.best s hs).congr fun m => by rw [hD], h.ok, h.lt, h.ext, h.rk0, fun m hm => h.dl m ((hD m).2 hm)⟩
theorem Pt.add (hc : CodeOK n a b) (h : Pt n a b L U V i A0 A P th e D) {j : Nat} {l : List Bool} {c : Bool} (hj : P j l) (hnd : ¬ D (l ++ [c])) {x : Fl} (hx : Val 12 x (cst n a b L U V (l ++ [c]))) :
    ∃ th' e', f_soft_two_put (A ++ [(c, some j, x, 0)]) th ((nx n (st n l i) c : Nat) : Int) (some A.length) = some th' ∧ Pt n a b L U V i A0 (A ++ [(c, some j, x, 0)]) P th' e' (fun m => D m ∨ m = l ++ [c]) := by
  have hl := h.ok.len j l hj
  have hs0 := nx_lt hc (st_lt hc l i) c
  obtain ⟨q, p1, _, q1, q2, _⟩ := hc.pq
  generalize hs' : nx n (st n l i) c = s' at *
  have hsm : st n (l ++ [c]) (i + 1) = s' := by rw [← hl, st_snoc, hl]; exact hs'
  have hlen := h.len
  have nr : NR (cst n a b L U V) (A ++ [(c, some j, x, 0)]) P A.length (l ++ [c]) := ⟨j, l, c, rfl, by simp, by rw [nth_last], by rw [nth_last], by rw [nth_last]; exact hx, hj⟩
  have ok := h.ok.up (x := (c, some j, x, 0)) h.lt
  have b0 := h.best s' hs0
  have r0 := h.ro s' hs0
  obtain ⟨q1', q2', f1, f2, f3⟩ := put_ok (th := th) (s := s') (e1 := (e s').1) (e2 := (e s').2) ok (by rw [hlen]; omega) (r0.1.mono fun _ _ h => h.up) (r0.2.mono fun _ _ h => h.up)
    (fun h1 => by rw [h1] at b0; exact b0.none1.1) nr
  refine ⟨_, fun s => if s = s' then put2 (cst n a b L U V) (l ++ [c]) (e s').1 (e s').2 else e s, f1, by rw [List.length_set]; exact hlen, fun s hs => ?_, fun s hs => ?_, ok, fun j' l' hp => by simp; have := h.lt j' l' hp; omega, h.ext.trans (Ext.app _ _), fun j' l' hp => ?_, fun m hm => ?_⟩
  · by_cases es : s = s'
    · subst es
      rw [gt_setw (by rw [hlen]; omega)]
      simp only [if_true]
      exact ⟨f2, f3⟩
    · rw [gt_set_ne (fun h => es h.symm)]
      simp only [if_neg es]
      exact ⟨(h.ro s hs).1.mono fun _ _ h => h.up, (h.ro s hs).2.mono fun _ _ h => h.up⟩
  · by_cases es : s = s'
    · subst es
      simp only [if_true]
      have := Best2.put (m := l ++ [c]) (i := i + 1) (fun m hm => h.dl m hm.1) (by simp [hl]) (fun hm => hnd hm.1) b0
      refine this.congr fun m => ?_
      constructor
      · rintro (⟨h1, h2⟩ | h1)
        · exact ⟨.inl h1, h2⟩
        · exact ⟨.inr h1, by rw [h1]; exact hsm⟩
      · rintro ⟨h1 | h1, h2⟩
        · exact .inl ⟨h1, h2⟩
        · exact .inr h1
    · simp only [if_neg es]
      refine (h.best s hs).congr fun m => ?_
      constructor
      · rintro ⟨h1, h2⟩; exact ⟨.inl h1, h2⟩
      · rintro ⟨h1 | h1, h2⟩
        · exact ⟨h1, h2⟩
        · subst h1; exact absurd (h2.symm.trans hsm) es
  · rw [nth_app (h.lt j' l' hp)]; exact h.rk0 j' l' hp
  · rcases hm with hm | hm
    · exact h.dl m hm
    · rw [hm]; simp [hl]
/-- what has been put -/
def Cs (n : Nat) (T last i : Nat) (e : EE) (s k β : Nat) (m : List Bool) : Prop :=
  ∃ s0 k0 c0 l0, s0 < 2 ^ (n - 1) ∧ k0 < 2 ∧ sle e s0 k0 = some l0 ∧ m = l0 ++ [c0] ∧ (c0 = true → ¬ T ≤ i + last) ∧ (s0 < s ∨ s0 = s ∧ (k0 < k ∨ k0 = k ∧ bn c0 < β))
theorem Cs.next {T : Nat} {e0 : EE} {s k : Nat} (m : List Bool) : Cs n T last i e0 s k 2 m ↔ Cs n T last i e0 s (k + 1) 0 m := by
  constructor
  · rintro ⟨s0, k0, c0, l0, h1, h2, h3, h4, h5, h6⟩
    exact ⟨s0, k0, c0, l0, h1, h2, h3, h4, h5, by omega⟩
  · rintro ⟨s0, k0, c0, l0, h1, h2, h3, h4, h5, h6⟩
    have := bn_lt c0
    exact ⟨s0, k0, c0, l0, h1, h2, h3, h4, h5, by omega⟩
theorem Cs.row {T : Nat} {e0 : EE} {s : Nat} (m : List Bool) : Cs n T last i e0 s 2 0 m ↔ Cs n T last i e0 (s + 1) 0 0 m := by
  constructor
  · rintro ⟨s0, k0, c0, l0, h1, h2, h3, h4, h5, h6⟩
    exact ⟨s0, k0, c0, l0, h1, h2, h3, h4, h5, by omega⟩
  · rintro ⟨s0, k0, c0, l0, h1, h2, h3, h4, h5, h6⟩
    exact ⟨s0, k0, c0, l0, h1, h2, h3, h4, h5, by omega⟩
theorem Cs.skip {T : Nat} {e0 : EE} {s k : Nat} (h0 : sle e0 s k = none) (m : List Bool) : Cs n T last i e0 s k 0 m ↔ Cs n T last i e0 s (k + 1) 0 m := by
  constructor
  · rintro ⟨s0, k0, c0, l0, h1, h2, h3, h4, h5, h6⟩
    exact ⟨s0, k0, c0, l0, h1, h2, h3, h4, h5, by omega⟩
  · rintro ⟨s0, k0, c0, l0, h1, h2, h3, h4, h5, h6⟩
    refine ⟨s0, k0, c0, l0, h1, h2, h3, h4, h5, ?_⟩
    by_cases ee : s0 = s ∧ k0 = k
    · obtain ⟨rfl, rfl⟩ := ee; rw [h0] at h3; cases h3
    · omega
theorem Cs.bit {T : Nat} {e0 : EE} {s k β : Nat} {c : Bool} (hb : bn c = β) {l : List Bool} (hs : s < 2 ^ (n - 1)) (hk : k < 2) (h0 : sle e0 s k = some l) (hc : c = true → ¬ T ≤ i + last) (m : List Bool) : (Cs n T last i e0 s k β m ∨ m = l ++ [c]) ↔ Cs n T last i e0 s k (β + 1) m := by
  constructor
  · rintro (⟨s0, k0, c0, l0, h1, h2, h3, h4, h5, h6⟩ | h)
    · exact ⟨s0, k0, c0, l0, h1, h2, h3, h4, h5, by omega⟩
    · exact ⟨s, k, c, l, hs, hk, h0, h, hc, by omega⟩
  · rintro ⟨s0, k0, c0, l0, h1, h2, h3, h4, h5, h6⟩
    by_cases ee : s0 = s ∧ k0 = k ∧ bn c0 = β
    · obtain ⟨rfl, rfl, e3⟩ := ee
      rw [h0] at h3; cases h3
      have := bn_inj (e3.trans hb.symm)
      subst this
      exact .inr h4
    · exact .inl ⟨s0, k0, c0, l0, h1, h2, h3, h4, h5, by omega⟩
theorem Cs.nobit {T : Nat} {e0 : EE} {s k : Nat} (hc : T ≤ i + last) (m : List Bool) : Cs n T last i e0 s k 1 m ↔ Cs n T last i e0 s k 2 m := by
  constructor
  · rintro ⟨s0, k0, c0, l0, h1, h2, h3, h4, h5, h6⟩
    exact ⟨s0, k0, c0, l0, h1, h2, h3, h4, h5, by omega⟩
  · rintro ⟨s0, k0, c0, l0, h1, h2, h3, h4, h5, h6⟩
    have : bn c0 = 0 := by
      cases c0 with
      | false => rfl
      | true => exact absurd hc (h5 rfl)
    exact ⟨s0, k0, c0, l0, h1, h2, h3, h4, h5, by omega⟩
theorem Cs.fresh {e0 : EE} {A' : List WayC} {t' : List PW} (h : Gen n a b L U V last i A' t' e0) {s k β : Nat} {c : Bool} (hb : bn c = β) {l : List Bool} (hs : s < 2 ^ (n - 1)) (hk : k < 2) (h0 : sle e0 s k = some l) : ¬ Cs n L.length last i e0 s k β (l ++ [c]) := by
  rintro ⟨s0, k0, c0, l0, h1, h2, h3, h4, h5, h6⟩
  obtain ⟨rfl, h7⟩ := List.append_inj' h4 rfl
  cases h7
  have m1 := Best2.sl hk (h.best s hs) h0
  have m2 := Best2.sl h2 (h.best s0 h1) h3
  have : s0 = s := m2.2.symm.trans m1.2
  subst this
  have := Best2.one h2 hk (h.best s0 hs) h3 h0
  omega
end
/-! ### The run -/
section
variable {n a b : Nat} {L : List ((Fl × Fl) × Bool)} {U V : Nat → Int} {last i : Nat} {A0 A : List WayC} {t th : List PW} {e0 e : EE}
theorem run_bit (hc : CodeOK n a b) (hL : L.length ≤ 16384) (hco : HC L U V) (hi : i < L.length) (hla : last ≤ 16384) (G : Gen n a b L U V last i A0 t e0) {s k j : Nat} {l : List Bool} (hs : s < 2 ^ (n - 1)) (hk : k < 2) (hsl : slp t s k = some j) (hrep : Rep (cst n a b L U V) A0 j l) {c : Bool}
    (h : Pt n a b L U V i A0 A (Ent n a b L U V A0 t) th e (Cs n L.length last i e0 s k (bn c))) :
    ∃ A' th' e', f_soft_run.s4 (n : Int) (a : Int) (b : Int) L (last : Int) t (i : Int) (s : Int) (k : Int) (A, th, ((bn c : Nat) : Int)) = some (.inl (A', th', ((bn c + 1 : Nat) : Int))) ∧ Pt n a b L U V i A0 A' (Ent n a b L U V A0 t) th' e' (Cs n L.length last i e0 s k (bn c + 1)) := by
  obtain ⟨hse, hm⟩ := G.ent hs hk hsl hrep
  have hP : Ent n a b L U V A0 t j l := ⟨s, k, hs, hk, hsl, hrep⟩
  have hli := hm.1.1
  have hst := hm.2
  have hb := bn_lt c
  have hgc : gt [false, true] ((bn c : Nat) : Int) = c := by cases c <;> rfl
  have hw : IntKind.i64.wrap (((bn c : Nat) : Int) + 1) = ((bn c + 1 : Nat) : Int) := by rw [w64 (by omega) (by omega)]; rfl
  have hw2 : IntKind.i64.wrap ((L.length : Int) - (last : Int)) = (L.length : Int) - last := w64 (by omega) (by omega)
  simp only [f_soft_run.s4, f_soft_run.s4c]
  rw [if_pos (by simp only [List.length_cons, List.length_nil, decide_eq_true_eq]; omega), if_pos (by simp only [List.length_cons, List.length_nil]; omega), hgc, hw, hw2]
  by_cases hskip : c = true ∧ L.length ≤ i + last
  · rw [if_pos (by simp only [hskip.1, Bool.true_and, decide_eq_true_eq]; omega)]
    refine ⟨A, th, e, rfl, ?_⟩
    have : bn c = 1 := by rw [hskip.1]; rfl
    rw [this] at h ⊢
    exact h.congr fun m => Cs.nobit hskip.2 m
  · rw [if_neg (by simp only [Bool.and_eq_true, decide_eq_true_eq]; exact fun h => hskip ⟨h.1, by have := h.2; omega⟩)]
    have hall : c = true → ¬ L.length ≤ i + last := fun h1 h2 => hskip ⟨h1, h2⟩
    have hn := nx_lt hc hs c
    obtain ⟨q, p1, _, q1, q2, _⟩ := hc.pq
    rw [Step_ok hc hs c]
    simp only [Option.bind_some]
    rw [if_pos (by omega), show gt [(gt t (s : Int)).1, (gt t (s : Int)).2] (k : Int) = slp t s k from rfl, hsl]
    simp only [Option.bind_some]
    obtain ⟨x, x1, x2, x3⟩ := hco i hi (ob n a s c) (ob n b s c)
    rw [x1]
    simp only [Option.bind_some]
    have hv : Val 12 (nth A j).2.2.1 (cst n a b L U V l) := by
      rw [(h.ext.2 j hrep.lt).2.2]; exact hrep.val
    have hcl := cst_le (n := n) (a := a) (b := b) hco i l hli (by omega)
    have hsn : cst n a b L U V (l ++ [c]) = cst n a b L U V l + costV (ob n a s c) (ob n b s c) (gt L (i : Int)) (U i) (V i) := by
      rw [cst_snoc, hli, hst]
    have hv2 : Val 12 (fadd (nth A j).2.2.1 x) (cst n a b L U V (l ++ [c])) := by
      rw [hsn]; exact fadd_val hv x2 (by decide) (by omega)
    obtain ⟨th', e', y1, y2⟩ := Pt.add hc h hP (Cs.fresh G rfl hs hk hse) hv2
    rw [hst] at y1
    rw [y1]
    refine ⟨_, th', e', rfl, ?_⟩
    exact y2.congr fun m => Cs.bit rfl hs hk hse hall m
theorem run_slot (hc : CodeOK n a b) (hL : L.length ≤ 16384) (hco : HC L U V) (hi : i < L.length) (hla : last ≤ 16384) (G : Gen n a b L U V last i A0 t e0) {s k : Nat} (hs : s < 2 ^ (n - 1)) (hk : k < 2)
    (h : Pt n a b L U V i A0 A (Ent n a b L U V A0 t) th e (Cs n L.length last i e0 s k 0)) :
    ∃ A' th' e', f_soft_run.s3 (n : Int) (a : Int) (b : Int) L (last : Int) t (i : Int) (s : Int) (A, th, (k : Int)) = some (.inl (A', th', ((k + 1 : Nat) : Int))) ∧ Pt n a b L U V i A0 A' (Ent n a b L U V A0 t) th' e' (Cs n L.length last i e0 s (k + 1) 0) := by
  have hw : IntKind.i64.wrap ((k : Int) + 1) = ((k + 1 : Nat) : Int) := by rw [w64 (by omega) (by omega)]; rfl
  simp only [f_soft_run.s3, f_soft_run.s3c]
  rw [if_pos (by rw [decide_eq_true_eq]; omega), if_pos (by omega), show gt [(gt t (s : Int)).1, (gt t (s : Int)).2] (k : Int) = slp t s k from rfl, hw]
  have ro := RO.sl hk (G.ro s hs)
  cases hsl : slp t s k with
  | none =>
    simp only [Option.isNone_none, if_true]
    rw [hsl] at ro
    have hse : sle e0 s k = none := by
      cases hx : sle e0 s k with
      | none => rfl
      | some l => rw [hx] at ro; exact ro.elim
    exact ⟨A, th, e, rfl, h.congr fun m => Cs.skip hse m⟩
  | some j =>
    simp only [Option.isNone_some, Bool.false_eq_true, if_false]
    rw [hsl] at ro
    obtain ⟨l, hse, hrep⟩ := ro.of_some
    obtain ⟨A1, th1, e1, a1, a2⟩ := run_bit hc hL hco hi hla G hs hk hsl hrep (c := false) h
    obtain ⟨A2, th2, e2, b1, b2⟩ := run_bit hc hL hco hi hla G hs hk hsl hrep (c := true) a2
    have e9 : loop (f_soft_run.s4 (n : Int) (a : Int) (b : Int) L (last : Int) t (i : Int) (s : Int) (k : Int)) (A2, th2, ((bn true + 1 : Nat) : Int)) = some (A2, th2) := loop_done (by
      simp only [f_soft_run.s4, f_soft_run.s4c]
      rw [if_neg (by simp [bn])])
    have e10 : loop (f_soft_run.s4 (n : Int) (a : Int) (b : Int) L (last : Int) t (i : Int) (s : Int) (k : Int)) (A, th, 0) = some (A2, th2) := (loop_step a1).trans ((loop_step b1).trans e9)
    rw [e10]
    simp only [Option.bind_some]
    exact ⟨A2, th2, e2, rfl, b2.congr fun m => Cs.next m⟩
theorem run_state (hc : CodeOK n a b) (hL : L.length ≤ 16384) (hco : HC L U V) (hi : i < L.length) (hla : last ≤ 16384) (G : Gen n a b L U V last i A0 t e0) {s : Nat} (hs : s < 2 ^ (n - 1))
    (h : Pt n a b L U V i A0 A (Ent n a b L U V A0 t) th e (Cs n L.length last i e0 s 0 0)) :
    ∃ A' th' e', f_soft_run.s2 (n : Int) (a : Int) (b : Int) L (last : Int) (((2 ^ (n - 1) : Nat) : Int), 0) t (i : Int) (A, th, (s : Int)) = some (.inl (A', th', ((s + 1 : Nat) : Int))) ∧ Pt n a b L U V i A0 A' (Ent n a b L U V A0 t) th' e' (Cs n L.length last i e0 (s + 1) 0 0) := by
  obtain ⟨q, p1, _, q1, q2, _⟩ := hc.pq
  obtain ⟨A1, th1, e1, a1, a2⟩ := run_slot hc hL hco hi hla G hs (k := 0) (by decide) h
  obtain ⟨A2, th2, e2, b1, b2⟩ := run_slot hc hL hco hi hla G hs (k := 1) (by decide) a2
  have e9 : loop (f_soft_run.s3 (n : Int) (a : Int) (b : Int) L (last : Int) t (i : Int) (s : Int)) (A2, th2, ((1 + 1 : Nat) : Int)) = some (A2, th2) := loop_done (by
    simp only [f_soft_run.s3, f_soft_run.s3c]
    rw [if_neg (by simp)])
  have e10 : loop (f_soft_run.s3 (n : Int) (a : Int) (b : Int) L (last : Int) t (i : Int) (s : Int)) (A, th, 0) = some (A2, th2) := (loop_step a1).trans ((loop_step b1).trans e9)
  simp only [f_soft_run.s2, f_soft_run.s2c]
  rw [if_pos (by rw [decide_eq_true_eq]; omega), if_pos (by omega), e10]
  simp only [Option.bind_some]
  rw [w64 (by omega) (by omega)]
  exact ⟨A2, th2, e2, rfl, b2.congr fun m => Cs.row m⟩
theorem Gen.start_pt (hc : CodeOK n a b) (G : Gen n a b L U V last i A t e0) : Pt n a b L U V i A A (Ent n a b L U V A t) (List.replicate 64 ((none : Option Nat), (none : Option Nat))) (fun _ => (none, none)) (Cs n L.length last i e0 0 0 0) := by
  obtain ⟨q, p1, _, q1, q2, _⟩ := hc.pq
  have no : ∀ m, ¬ Cs n L.length last i e0 0 0 0 m := by
    rintro m ⟨s0, k0, c0, l0, _, _, _, _, _, h6⟩; omega
  refine ⟨by simp, fun s hs => ?_, fun s hs => fun m hm => no m hm.1, G.ok1, fun j l hp => ?_, Ext.refl A, fun j l hp => ?_, fun m hm => absurd hm (no m)⟩
  · rw [gt_rep (by omega)]; exact ⟨trivial, trivial⟩
  · obtain ⟨s, k, hs, hk, hj, hr⟩ := hp; exact hr.lt
  · obtain ⟨s, k, hs, hk, hj, hr⟩ := hp; exact G.rk0 s k j hs hk hj
theorem Pt.he (hc : CodeOK n a b) {P : Nat → List Bool → Prop} {D : List Bool → Prop} (h : Pt n a b L U V i A0 A P th e D) :
    HE A th (2 ^ (n - 1)) ∧ ∀ s k j, s < 2 ^ (n - 1) → k < 2 → slp th s k = some j → ∃ m, sle e s k = some m ∧ NR (cst n a b L U V) A P j m ∧ D m ∧ st n m (i + 1) = s := by
  have key : ∀ s k j, s < 2 ^ (n - 1) → k < 2 → slp th s k = some j → ∃ m, sle e s k = some m ∧ NR (cst n a b L U V) A P j m ∧ D m ∧ st n m (i + 1) = s := by
    intro s k j hs hk hj
    have ro := RO.sl hk (h.ro s hs)
    rw [hj] at ro
    obtain ⟨m, h1, h2⟩ := ro.of_some
    have := Best2.sl hk (h.best s hs) h1
    exact ⟨m, h1, h2, this.1, this.2⟩
  refine ⟨⟨fun s k j hs hk hj => ?_, fun s k j s' k' j' hs hk hj hs' hk' hj' hq => ?_⟩, key⟩
  · obtain ⟨m, _, ⟨i0, l, c, _, h3, _, h5, _, h7⟩, _⟩ := key s k j hs hk hj
    exact ⟨h3, i0, h5, h.rk0 i0 l h7⟩
  · obtain ⟨m, a1, ⟨i0, l, c, rfl, a3, a4, a5, a6, a7⟩, a8, a9⟩ := key s k j hs hk hj
    obtain ⟨m', b1, ⟨i1, l', c', rfl, b3, b4, b5, b6, b7⟩, b8, b9⟩ := key s' k' j' hs' hk' hj'
    have hkq : kq A j = 2 * ((nth A i0).2.2.2).toNat + bn c := by unfold kq; rw [a5, a4]; rfl
    have hkq' : kq A j' = 2 * ((nth A i1).2.2.2).toNat + bn c' := by unfold kq; rw [b5, b4]; rfl
    have h1 := bn_lt c; have h2 := bn_lt c'
    have r1 := h.rk0 i0 l a7; have r2 := h.rk0 i1 l' b7
    have k1 := h.ok.rk _ _ _ _ a7 b7
    have k2 := h.ok.rk _ _ _ _ b7 a7
    have hbv : bv l = bv l' := by omega
    have hl := bv_inj _ l l' rfl ((h.ok.len _ _ b7).trans (h.ok.len _ _ a7).symm) hbv
    have hcc := bn_inj (show bn c = bn c' by omega)
    subst hl hcc
    have : s = s' := a9.symm.trans b9
    subst this
    have := Best2.one hk hk' (h.best s hs) a1 b1
    subst this
    rw [hj] at hj'
    exact Option.some.inj hj'
theorem run_gen (hc : CodeOK n a b) (hL : L.length ≤ 16384) (hco : HC L U V) (hi : i < L.length) (hla : last ≤ 16384) (G : Gen n a b L U V last i A t e0) :
    ∃ A' th' e', f_soft_run.s1 (n : Int) (a : Int) (b : Int) L (last : Int) (((2 ^ (n - 1) : Nat) : Int), 0) (A, t, (i : Int)) = some (.inl (A', th', ((i + 1 : Nat) : Int))) ∧ Gen n a b L U V last (i + 1) A' th' e' := by
  obtain ⟨q, p1, _, q1, q2, _⟩ := hc.pq
  have main : ∀ c s : Nat, s + c = 2 ^ (n - 1) → ∀ A1 th1 e1, Pt n a b L U V i A A1 (Ent n a b L U V A t) th1 e1 (Cs n L.length last i e0 s 0 0) →
      ∃ A' th' e', loop (f_soft_run.s2 (n : Int) (a : Int) (b : Int) L (last : Int) (((2 ^ (n - 1) : Nat) : Int), 0) t (i : Int)) (A1, th1, (s : Int)) = some (A', th') ∧ Pt n a b L U V i A A' (Ent n a b L U V A t) th' e' (Cs n L.length last i e0 (2 ^ (n - 1)) 0 0) := by
    intro c
    induction c with
    | zero =>
      intro s hs A1 th1 e1 h
      have : s = 2 ^ (n - 1) := by omega
      subst this
      refine ⟨A1, th1, e1, loop_done ?_, h⟩
      simp only [f_soft_run.s2, f_soft_run.s2c]
      rw [if_neg (by rw [decide_eq_true_eq]; omega)]
    | succ c ih =>
      intro s hs A1 th1 e1 h
      obtain ⟨A2, th2, e2, a1, a2⟩ := run_state hc hL hco hi hla G (by omega) h
      obtain ⟨A3, th3, e3, b1, b2⟩ := ih (s + 1) (by omega) A2 th2 e2 a2
      exact ⟨A3, th3, e3, (loop_step a1).trans b1, b2⟩
  obtain ⟨A1, th1, e1, a1, a2⟩ := main (2 ^ (n - 1)) 0 (by omega) A _ _ (G.start_pt hc)
  obtain ⟨he, hen⟩ := a2.he hc
  obtain ⟨A2, b1, b2, b3, b4, b5⟩ := ranked_ok he (by omega) a2.len
  have hrep : ∀ j m, NR (cst n a b L U V) A1 (Ent n a b L U V A t) j m → Rep (cst n a b L U V) A2 j m := by
    rintro j m ⟨i0, l, c, rfl, h2, h3, h4, h5, ⟨s, k, hs, hk, hj, hr⟩⟩
    obtain ⟨x1, x2, x3⟩ := b3.2 j h2
    exact .step (by omega) (hr.ext (a2.ext.trans b3)) (x1.trans h3) (x2.trans h4) (by rw [x3]; exact h5)
  refine ⟨A2, th1, e1, ?_, a2.len, fun s hs => ⟨(a2.ro s hs).1.mono hrep, (a2.ro s hs).2.mono hrep⟩, fun s hs => ?_, fun s k j hs hk hj => ?_, fun s k j l s' k' j' l' hs hk hj hr hs' hk' hj' hr' => ?_⟩
  · simp only [f_soft_run.s1, f_soft_run.s1c]
    rw [if_pos (by rw [decide_eq_true_eq]; omega), if_pos (by omega)]
    have a1' : loop (f_soft_run.s2 (n : Int) (a : Int) (b : Int) L (last : Int) (((2 ^ (n - 1) : Nat) : Int), 0) t (i : Int)) (A, List.replicate 64 ((none : Option Nat), (none : Option Nat)), 0) = some (A1, th1) := a1
    rw [a1']
    simp only [Option.bind_some]
    rw [b1]
    simp only [Option.bind_some]
    rw [w64 (by omega) (by omega)]; rfl
  · -- what was not put is worse than two that were
    refine (a2.best s hs).up (fun m hm => ?_) (fun m hm => ?_)
    · obtain ⟨⟨s0, k0, c0, l0, h1, h2, h3, h4, h5, _⟩, h7⟩ := hm
      have hM := Best2.sl h2 (G.best s0 h1) h3
      subst h4
      exact ⟨hM.1.snoc h5, h7⟩
    · obtain ⟨l, c, rfl, hl⟩ := snoc_of hm.1.1
      obtain ⟨hA, hall⟩ := hm.1.of_snoc
      have hs0 := st_lt hc l i
      have hput : ∀ {k : Nat} {l1 : List Bool}, k < 2 → sle e0 (st n l i) k = some l1 → Cs n L.length last i e0 (2 ^ (n - 1)) 0 0 (l1 ++ [c]) ∧ st n (l1 ++ [c]) (i + 1) = s ∧ l1.length = l.length ∧ st n l1 l1.length = st n l l.length := by
        intro k l1 hk h1
        have hM := Best2.sl hk (G.best _ hs0) h1
        have e1 : l1.length = i := hM.1.1
        refine ⟨⟨_, k, c, l1, hs0, hk, h1, rfl, hall, .inl hs0⟩, ?_, by omega, by rw [e1, hl]; exact hM.2⟩
        have q1 := st_snoc (n := n) l1 c
        have q2 := st_snoc (n := n) l c
        rw [e1] at q1; rw [hl] at q2
        rw [q1, hM.2, ← q2]; exact hm.2
      have B := G.best _ hs0
      have hMl : Mem n L.length last i (st n l i) l := ⟨hA, rfl⟩
      cases h1 : (e0 (st n l i)).1 with
      | none => rw [h1] at B; exact absurd hMl (B.none1.2 l)
      | some l1 =>
        obtain ⟨c1, c2, c3, c4⟩ := hput (k := 0) (by decide) h1
        cases h2 : (e0 (st n l i)).2 with
        | none =>
          rw [h1, h2] at B
          have : l = l1 := B.2 l hMl
          subst this
          exact .inl ⟨c1, c2⟩
        | some l2 =>
          obtain ⟨d1, d2, d3, d4⟩ := hput (k := 1) (by decide) h2
          rw [h1, h2] at B
          rcases B.2.2.2 l hMl with h | h | h
          · subst h; exact .inl ⟨c1, c2⟩
          · subst h; exact .inl ⟨d1, d2⟩
          · refine .inr ⟨_, _, ⟨c1, c2⟩, ⟨d1, d2⟩, fun h9 => ?_, Lt_snoc c c3 c4 (B.2.2.1.trans h), Lt_snoc c d3 d4 h⟩
            have := List.append_cancel_right h9
            rw [this] at B
            exact B.2.2.1.irrefl
  · obtain ⟨x1, x2⟩ := b4 s k j hs hk hj
    exact ⟨x1, by omega⟩
  · rw [b5 s k j s' k' j' hs hk hj hs' hk' hj']
    obtain ⟨m, _, hn1, _⟩ := hen s k j hs hk hj
    obtain ⟨m', _, hn2, _⟩ := hen s' k' j' hs' hk' hj'
    have e1 := (hrep _ _ hn1).fun hr
    have e2 := (hrep _ _ hn2).fun hr'
    subst e1 e2
    obtain ⟨i0, l, c, rfl, a3, a4, a5, a6, a7⟩ := hn1
    obtain ⟨i1, l', c', rfl, b3', b4', b5', b6, b7⟩ := hn2
    have hkq : kq A1 j = 2 * ((nth A1 i0).2.2.2).toNat + bn c := by unfold kq; rw [a5, a4]; rfl
    have hkq' : kq A1 j' = 2 * ((nth A1 i1).2.2.2).toNat + bn c' := by unfold kq; rw [b5', b4']; rfl
    have h1 := bn_lt c; have h2 := bn_lt c'
    have r1 := a2.rk0 i0 l a7; have r2 := a2.rk0 i1 l' b7
    have k1 := a2.ok.rk _ _ _ _ a7 b7
    have k2 := a2.ok.rk _ _ _ _ b7 a7
    rw [bv_snoc, bv_snoc, hkq, hkq']
    omega
theorem gen_start (hc : CodeOK n a b) : Gen n a b L U V last 0 (([] : List WayC) ++ [(false, none, Fl.bits 0, 0)]) ((List.replicate 64 ((none : Option Nat), (none : Option Nat))).set 0 (some 0, none)) (fun s => if s = 0 then (some [], none) else (none, none)) := by
  obtain ⟨q, p1, _, q1, q2, _⟩ := hc.pq
  have hn : nth (([] : List WayC) ++ [(false, none, Fl.bits 0, 0)]) 0 = (false, none, Fl.bits 0, 0) := rfl
  have hsl : ∀ s k j, s < 2 ^ (n - 1) → k < 2 → slp ((List.replicate 64 ((none : Option Nat), (none : Option Nat))).set 0 (some 0, none)) s k = some j → j = 0 := by
    intro s k j hs hk hj
    unfold slp at hj
    by_cases h0 : s = 0
    · subst h0
      rw [gt_setw (by simp)] at hj
      rcases (show k = 0 ∨ k = 1 by omega) with rfl | rfl
      · exact (Option.some.inj hj).symm
      · cases hj
    · rw [gt_set_ne (fun h => h0 h.symm), gt_rep (by omega)] at hj
      rcases (show k = 0 ∨ k = 1 by omega) with rfl | rfl <;> cases hj
  have hroot : Rep (cst n a b L U V) (([] : List WayC) ++ [(false, none, Fl.bits 0, 0)]) 0 [] := .root (by simp) (by rw [hn]) (by rw [hn]; exact zero_val 12)
  refine ⟨by simp, fun s hs => ?_, fun s hs => ?_, fun s k j hs hk hj => ?_, fun s k j l s' k' j' l' hs hk hj hr hs' hk' hj' hr' => ?_⟩
  · by_cases h0 : s = 0
    · subst h0
      rw [gt_setw (by simp)]
      simp only [if_true]
      exact ⟨hroot, trivial⟩
    · rw [gt_set_ne (fun h => h0 h.symm), gt_rep (by omega)]
      simp only [if_neg h0]
      exact ⟨trivial, trivial⟩
  · by_cases h0 : s = 0
    · subst h0
      simp only [if_true]
      exact ⟨⟨⟨rfl, fun t ht => by omega⟩, rfl⟩, fun l hl => List.length_eq_zero_iff.1 hl.1.1⟩
    · simp only [if_neg h0]
      intro l hl
      exact h0 hl.2.symm
  · rw [hsl s k j hs hk hj, hn]
    simp only
    omega
  · have e1 := hsl s k j hs hk hj
    have e2 := hsl s' k' j' hs' hk' hj'
    subst e1 e2
    rw [← hroot.fun hr, ← hroot.fun hr']
    omega
theorem run_ok (hc : CodeOK n a b) (hL : L.length ≤ 16384) (hco : HC L U V) (hla : last ≤ 16384) : ∃ t A e, f_soft_run (n : Int) (a : Int) (b : Int) L (last : Int) = some (t, A) ∧ Gen n a b L U V last L.length A t e := by
  have main : ∀ c i : Nat, i + c = L.length → ∀ A t e, Gen n a b L U V last i A t e →
      ∃ A' t' e', loop (f_soft_run.s1 (n : Int) (a : Int) (b : Int) L (last : Int) (((2 ^ (n - 1) : Nat) : Int), 0)) (A, t, (i : Int)) = some (A', t') ∧ Gen n a b L U V last L.length A' t' e' := by
    intro c
    induction c with
    | zero =>
      intro i hi A t e h
      have : i = L.length := by omega
      subst this
      refine ⟨A, t, e, loop_done ?_, h⟩
      simp only [f_soft_run.s1, f_soft_run.s1c]
      rw [if_neg (by rw [decide_eq_true_eq]; omega)]
    | succ c ih =>
      intro i hi A t e h
      obtain ⟨A1, t1, e1, a1, a2⟩ := run_gen hc hL hco (by omega) hla h
      obtain ⟨A2, t2, e2, b1, b2⟩ := ih (i + 1) (by omega) A1 t1 e1 a2
      exact ⟨A2, t2, e2, (loop_step a1).trans b1, b2⟩
  obtain ⟨A, t, e, a1, a2⟩ := main L.length 0 (by omega) _ _ _ (gen_start (n := n) (a := a) (b := b) (L := L) (U := U) (V := V) (last := last) hc)
  refine ⟨t, A, e, ?_, a2⟩
  unfold f_soft_run
  rw [states_ok hc]
  simp only [Option.bind_some]
  have e9 : (List.replicate 64 ((none : Option Nat), (none : Option Nat))).set ((0 : Int)).toNat ((some (([] : List WayC)).length), (gt (List.replicate 64 ((none : Option Nat), (none : Option Nat))) (0 : Int)).2) = (List.replicate 64 ((none : Option Nat), (none : Option Nat))).set 0 (some 0, none) := rfl
  rw [e9]
  have a1' : loop (f_soft_run.s1 (n : Int) (a : Int) (b : Int) L (last : Int) (((2 ^ (n - 1) : Nat) : Int), 0)) (([] : List WayC) ++ [(false, none, Fl.bits 0, 0)], (List.replicate 64 ((none : Option Nat), (none : Option Nat))).set 0 (some 0, none), 0) = some (A, t) := a1
  rw [a1']; rfl
end
/-! ### Decode, Margin, Path -/
theorem bnd_eq {α β : Type} {o : Option α} {x : α} {f : α → Option β} {r : Option β} (h : o = some x) (h2 : f x = r) : o.bind f = r := by subst h; exact h2
section
variable {n a b : Nat} {L : List ((Fl × Fl) × Bool)} {U V : Nat → Int}
theorem scheck_ok (hc : CodeOK n a b) (h : SR L U V) (hL : L.length ≤ 16384) (ha : gal (mf L U V) L.length = true) (least : Int) : f_soft_check (n : Int) (a : Int) (b : Int) L least = some (if (L.length : Int) < least then 1 else 0) := by
  unfold f_soft_check
  rw [check_ok hc]
  simp only [Option.bind_some]
  by_cases hl : (L.length : Int) < least
  · rw [if_pos (by simp [hl]), if_pos hl]
  · rw [if_neg (by simp only [bne_self_eq_false, Bool.false_or, Bool.or_eq_true, decide_eq_true_eq]; omega), if_neg hl]
    obtain ⟨x, hx⟩ := grid_c h hL
    rw [hx, if_pos ha]; rfl
theorem dec_loop {C : List Bool → Int} {A : List WayC} {t : List PW} {j : Nat} {l : List Bool} (h : Rep C A j l) : ∀ bits : List Bool, l.length ≤ bits.length → l.length ≤ 100000 → loop (f_soft_Decode.s1 (t, A)) (bits, (l.length : Int) - 1, some j) = some (l ++ bits.drop l.length) := by
  induction h with
  | root h h1 h2 =>
    intro bits hb _
    refine loop_done ?_
    simp only [f_soft_Decode.s1, f_soft_Decode.s1c]
    rw [if_neg (by simp)]; rfl
  | @step j i l c hj h h1 h2 h3 ih =>
    intro bits hb hl
    simp only [List.length_append, List.length_singleton] at hb hl
    have hs : f_soft_Decode.s1 (t, A) (bits, ((l ++ [c]).length : Int) - 1, some j) = some (.inl (bits.set l.length c, (l.length : Int) - 1, some i)) := by
      simp only [f_soft_Decode.s1, f_soft_Decode.s1c, List.length_append, List.length_singleton]
      have e : (((l.length + 1 : Nat) : Int) - 1) = (l.length : Int) := by omega
      rw [e, if_pos (by rw [decide_eq_true_eq]; omega)]
      simp only [Option.bind_some]
      rw [if_pos (by omega), Int.toNat_natCast, h1, h2, w64 (by omega) (by omega)]
    rw [loop_step hs, ih (bits.set l.length c) (by rw [List.length_set]; omega) (by omega)]
    congr 1
    rw [List.append_assoc]
    congr 1
    refine List.ext_getElem (by simp; omega) fun k k1 k2 => ?_
    rw [List.getElem_drop, List.getElem_set]
    cases k with
    | zero => simp
    | succ k =>
      rw [if_neg (by omega)]
      simp only [List.singleton_append, List.getElem_cons_succ, List.getElem_drop, List.length_append, List.length_singleton]
      congr 1; omega
/-- messages of 'M' bits and their cost -/
def mc (n a b : Nat) (L : List ((Fl × Fl) × Bool)) (U V : Nat → Int) (m : List Bool) : Int := pc n a b m L U V L.length
def ext (n : Nat) (m : List Bool) : List Bool := m ++ List.replicate (n - 1) false
theorem ext_bit (m : List Bool) (t : Nat) : bitAt (ext n m) t = bitAt m t := by
  unfold ext
  by_cases h : t < m.length
  · unfold bitAt
    rw [if_pos h, if_pos (by simp; omega), gt_nat h, gt_nat (by simp; omega), List.getElem_append_left h]
  · rw [bitAt_big (l := m) (by omega)]
    by_cases h2 : t < (m ++ List.replicate (n - 1) false).length
    · rw [bitAt_lt h2, gt_nat h2, List.getElem_append_right (by omega)]; simp
    · rw [bitAt_big (by omega)]
theorem ext_len (m : List Bool) : (ext n m).length = m.length + (n - 1) := by simp [ext]
theorem ext_cst {m : List Bool} (h : m.length + (n - 1) = L.length) : cst n a b L U V (ext n m) = mc n a b L U V m := by
  unfold cst mc
  rw [ext_len, h]
  exact pc_congr _ fun t _ => ext_bit m t
theorem ext_mem (hc : CodeOK n a b) {m : List Bool} {T : Nat} (h : m.length + (n - 1) = T) : Mem n T (n - 1) T 0 (ext n m) := by
  refine ⟨⟨by rw [ext_len]; exact h, fun t ht hT => ?_⟩, ?_⟩
  · rw [ext_bit, bitAt_big (by omega)]
  · rw [st_congr T fun t _ => ext_bit (n := n) m t, ← h]
    exact st_end hc m
theorem mem_ext {T : Nat} (hT : n - 1 ≤ T) {l : List Bool} (h : Mem n T (n - 1) T 0 l) : l = ext n (l.take (T - (n - 1))) ∧ (l.take (T - (n - 1))).length + (n - 1) = T := by
  have hl := h.1.1
  have h2 : (l.take (T - (n - 1))).length = T - (n - 1) := by rw [List.length_take]; omega
  refine ⟨?_, by omega⟩
  show l = l.take (T - (n - 1)) ++ List.replicate (n - 1) false
  refine List.ext_getElem (by rw [List.length_append, List.length_replicate]; omega) fun t t1 t2 => ?_
  by_cases ht : t < T - (n - 1)
  · rw [List.getElem_append_left (by omega)]; simp
  · have e1 := h.1.2 t (by omega) (by omega)
    rw [bitAt_lt t1, gt_nat t1] at e1
    rw [e1, List.getElem_append_right (by omega)]; simp
theorem ext_bv (m : List Bool) : bv (ext n m) = bv m * 2 ^ (n - 1) := by
  unfold ext
  have : ∀ k, bv (m ++ List.replicate k false) = bv m * 2 ^ k := by
    intro k
    induction k with
    | zero => simp
    | succ k ih =>
      rw [List.replicate_succ', ← List.append_assoc, bv_snoc, ih, Nat.pow_succ]
      show 2 * (bv m * 2 ^ k) + 0 = _
      rw [Nat.add_zero, Nat.mul_left_comm, Nat.mul_comm 2]
  exact this _
/-- one message is better than another one -/
def MLt (n a b : Nat) (L : List ((Fl × Fl) × Bool)) (U V : Nat → Int) (m m' : List Bool) : Prop := mc n a b L U V m < mc n a b L U V m' ∨ mc n a b L U V m = mc n a b L U V m' ∧ bv m < bv m'
theorem MLt_ext {m m' : List Bool} (h : m.length + (n - 1) = L.length) (h' : m'.length + (n - 1) = L.length) : Lt (cst n a b L U V) (ext n m) (ext n m') ↔ MLt n a b L U V m m' := by
  unfold Lt MLt
  rw [ext_cst h, ext_cst h', ext_bv, ext_bv, Nat.mul_lt_mul_right (Nat.two_pow_pos (n - 1))]
theorem soft_both (hc : CodeOK n a b) (h : SR L U V) (hL : L.length ≤ 16384) (ha : gal (mf L U V) L.length = true) {M : Nat} (hM : M + (n - 1) = L.length) :
    ∃ m x, f_soft_Decode (n : Int) (a : Int) (b : Int) L = some (m, x, 0) ∧ m.length = M ∧ Val 12 x (mc n a b L U V m) ∧ (∀ m', m'.length = M → m' = m ∨ MLt n a b L U V m m') ∧
      ((f_soft_Margin (n : Int) (a : Int) (b : Int) L = some (Fl.bits 0, 6) ∧ ∀ m', m'.length = M → m' = m) ∨
       ∃ m2 x2, f_soft_Margin (n : Int) (a : Int) (b : Int) L = some (fsub x2 x, 0) ∧ m2.length = M ∧ m2 ≠ m ∧ Val 12 x2 (mc n a b L U V m2) ∧ ∀ m', m'.length = M → m' = m ∨ m' = m2 ∨ MLt n a b L U V m2 m') := by
  have n2 := hc.n2; have n7 := hc.n7
  obtain ⟨q, p1, _, q1, q2, _⟩ := hc.pq
  obtain ⟨t, A, e, r1, G⟩ := run_ok (last := n - 1) hc hL (HC_of h ha) (by omega)
  have hn1 : IntKind.i64.wrap ((n : Int) - 1) = ((n - 1 : Nat) : Int) := by rw [w64 (by omega) (by omega)]; omega
  have hck : f_soft_check (n : Int) (a : Int) (b : Int) L ((n - 1 : Nat) : Int) = some 0 := by rw [scheck_ok hc h hL ha, if_neg (by omega)]
  have B := G.best 0 (by omega)
  have R := G.ro 0 (by omega)
  have hz : (List.replicate M false).length + (n - 1) = L.length := by simp; exact hM
  cases he1 : (e 0).1 with
  | none => rw [he1] at B; exact absurd (ext_mem hc hz) (B.none1.2 _)
  | some l =>
    rw [he1] at B R
    obtain ⟨j, g1, rep⟩ := R.1.some1
    have hB := B.fst
    obtain ⟨x1, x2⟩ := mem_ext (by omega) hB.1
    have hll : l.length = L.length := hB.1.1.1
    obtain ⟨m, hm⟩ : ∃ m, m = l.take (L.length - (n - 1)) := ⟨_, rfl⟩
    rw [← hm] at x1 x2
    have hml : m.length = M := by omega
    have hval := rep.val
    rw [x1, ext_cst x2] at hval
    have hall : ∀ m', m'.length = M → m' = m ∨ MLt n a b L U V m m' := by
      intro m' hm'
      have h1 : m'.length + (n - 1) = L.length := by omega
      rcases hB.2 _ (ext_mem hc h1) with h2 | h2
      · left
        rw [x1] at h2
        exact List.append_cancel_right h2
      · right
        rw [x1] at h2
        exact (MLt_ext x2 h1).1 h2
    have g1' : (gt t (0 : Int)).1 = some j := g1
    refine ⟨m, (nth A j).2.2.1, ?_, hml, hval, hall, ?_⟩
    · unfold f_soft_Decode
      rw [hn1, hck]
      simp only [Option.bind_some]
      rw [if_neg (by simp), r1]
      simp only [Option.bind_some]
      rw [if_pos (by omega), g1', Int.toNat_natCast, w64 (x := (L.length : Int) - 1) (by omega) (by omega), ← hll, dec_loop rep _ (by simp) (by omega)]
      simp only [Option.bind_some]
      have e1 : l ++ (List.replicate l.length false).drop l.length = l := by rw [List.drop_eq_nil_of_le (by simp), List.append_nil]
      have e2 : IntKind.i64.wrap (IntKind.i64.wrap ((l.length : Int) - (n : Int)) + 1) = (M : Int) := by
        rw [w64 (x := (l.length : Int) - n) (by omega) (by omega), w64 (by omega) (by omega)]; omega
      rw [e1, e2, if_pos (by omega), if_pos (by simp only [List.length_take, List.length_drop, List.length_nil]; omega), Int.toNat_natCast]
      have e3 : ([] : List Bool) ++ (l.drop 0).take (M - 0) = m := by rw [hm]; simp; congr 1; omega
      rw [e3]
    · have hmar : f_soft_Margin (n : Int) (a : Int) (b : Int) L = if (gt t (0 : Int)).2.isNone = true then some (Fl.bits 0, 6) else ((gt t (0 : Int)).2).bind fun j2 => some (fsub (nth A j2).2.2.1 (nth A j).2.2.1, 0) := by
        unfold f_soft_Margin
        rw [hn1, hck]
        simp only [Option.bind_some]
        rw [if_neg (by simp), r1]
        simp only [Option.bind_some]
        rw [g1']
        rfl
      cases he2 : (e 0).2 with
      | none =>
        rw [he2] at B R
        have g2 : (gt t (0 : Int)).2 = none := R.2.none1
        left
        refine ⟨by rw [hmar, g2]; rfl, fun m' hm' => ?_⟩
        have h1 : m'.length + (n - 1) = L.length := by omega
        have h2 := B.2 _ (ext_mem hc h1)
        rw [x1] at h2
        exact List.append_cancel_right h2
      | some l2 =>
        rw [he2] at B R
        obtain ⟨j2, g2, rep2⟩ := R.2.some1
        have g2' : (gt t (0 : Int)).2 = some j2 := g2
        obtain ⟨y1, y2⟩ := mem_ext (by omega) B.2.1
        obtain ⟨m2, hm2⟩ : ∃ m2, m2 = l2.take (L.length - (n - 1)) := ⟨_, rfl⟩
        rw [← hm2] at y1 y2
        have hval2 := rep2.val
        rw [y1, ext_cst y2] at hval2
        right
        refine ⟨m2, (nth A j2).2.2.1, by rw [hmar, g2']; rfl, by omega, fun e9 => ?_, hval2, fun m' hm' => ?_⟩
        · have : l = l2 := by rw [x1, y1, e9]
          rw [this] at B
          exact B.2.2.1.irrefl
        · have h1 : m'.length + (n - 1) = L.length := by omega
          rcases B.2.2.2 _ (ext_mem hc h1) with h2 | h2 | h2
          · left; rw [x1] at h2; exact List.append_cancel_right h2
          · right; left; rw [y1] at h2; exact List.append_cancel_right h2
          · right; right; rw [y1] at h2; exact (MLt_ext y2 h1).1 h2
theorem path_ok (hc : CodeOK n a b) (h : SR L U V) (hL : L.length ≤ 16384) (ha : gal (mf L U V) L.length = true) {m : List Bool} (hM : m.length + (n - 1) = L.length) :
    ∃ x, f_soft_Path (n : Int) (a : Int) (b : Int) m L = some (x, 0) ∧ Val 12 x (mc n a b L U V m) ∧ (mc n a b L U V m).natAbs ≤ L.length * 33554432 := by
  have hco := HC_of h ha
  have n2 := hc.n2
  have key : ∀ k i : Nat, i + k = L.length → ∀ x : Fl, Val 12 x (pc n a b m L U V i) → (pc n a b m L U V i).natAbs ≤ i * 33554432 →
      ∃ y, loop (f_soft_Path.s1 (n : Int) (a : Int) (b : Int) m L) (x, ((st n m i : Nat) : Int), (i : Int)) = some y ∧ Val 12 y (pc n a b m L U V L.length) ∧ (pc n a b m L U V L.length).natAbs ≤ L.length * 33554432 := by
    intro k
    induction k with
    | zero =>
      intro i hi x hx hb
      obtain rfl : i = L.length := by omega
      refine ⟨x, loop_done ?_, hx, hb⟩
      simp only [f_soft_Path.s1, f_soft_Path.s1c]
      rw [if_neg (by simp)]
    | succ k ih =>
      intro i hi x hx hb
      have hs := st_lt hc m i
      obtain ⟨c, c1, c2, c3⟩ := hco i (by omega) (ob n a (st n m i) (bitAt m i)) (ob n b (st n m i) (bitAt m i))
      have hb2 : (pc n a b m L U V (i + 1)).natAbs ≤ (i + 1) * 33554432 := by simp only [pc]; omega
      have hx2 : Val 12 (fadd x c) (pc n a b m L U V (i + 1)) := fadd_val hx c2 (by decide) (by simp only [pc] at hb2; omega)
      obtain ⟨y, y1, y2⟩ := ih (i + 1) (by omega) (fadd x c) hx2 hb2
      refine ⟨y, (loop_step ?_).trans y1, y2⟩
      simp only [f_soft_Path.s1, f_soft_Path.s1c]
      rw [if_pos (by rw [decide_eq_true_eq]; omega), if_pos (by omega), bit_read]
      simp only [Option.bind_some]
      rw [Step_ok hc hs]
      simp only [Option.bind_some]
      rw [c1]
      simp only [Option.bind_some]
      rw [w64 (by omega) (by omega)]; rfl
  obtain ⟨x, x1, x2, x3⟩ := key L.length 0 (by omega) (Fl.bits 0) (zero_val 12) (by simp [pc])
  refine ⟨x, ?_, x2, x3⟩
  unfold f_soft_Path
  obtain ⟨g, hg⟩ := grid_c h hL
  rw [check_ok hc]
  simp only [Option.bind_some]
  rw [w64 (x := (m.length : Int) + n) (by omega) (by omega), w64 (by omega) (by omega), if_neg (by simp only [bne_self_eq_false, Bool.false_or, Bool.or_eq_true, decide_eq_true_eq, bne_iff_ne]; omega), hg, if_pos ha]
  simp only [Option.bind_some]
  rw [if_neg (by simp)]
  exact bnd_eq x1 rfl
end
/-! ### A few helpers -/
theorem gal_all {f : Nat → Bool} : ∀ {i : Nat}, (∀ j, j < i → f j = true) → gal f i = true
  | 0, _ => rfl
  | i + 1, h => by simp only [gal]; rw [gal_all (fun j hj => h j (by omega)), h i (by omega)]; rfl
theorem v_one : Val 12 (Fl.bits 4607182418800017408) 4096 := ⟨_, false, 4503599627370496, -52, rfl, by decide, by decide, by decide +kernel⟩
theorem set_loop {α : Type} [Inhabited α] {f : List α × Int → Option ((List α × Int) ⊕ List α)} (S D : List α) (hSD : S.length = D.length) (hl : (D.length : Int) < 9223372036854775807)
    (h1 : ∀ (i : Nat) (hi : i < D.length) (T : List α), T.length = D.length → f (T, (i : Int)) = some (.inl (T.set i D[i], IntKind.i64.wrap ((i : Int) + 1)))) (h2 : f (D, (D.length : Int)) = some (.inr D)) :
    loop f (S, 0) = some D := by
  have := lst (f := f) D.length (fun i => (D.take i ++ S.drop i, (i : Int))) D (fun i hi => ?_) ?_
  · simpa using this
  · rw [h1 i hi _ (by simp; omega), w64 (by omega) (by omega)]
    have : (D.take i ++ S.drop i).set i D[i] = D.take (i + 1) ++ S.drop (i + 1) := by
      rw [List.set_append_right _ _ (by simp; omega)]
      have e : i - (D.take i).length = 0 := by simp; omega
      rw [e, List.drop_eq_getElem_cons (by omega), List.set_cons_zero, List.take_succ_eq_append_getElem hi, List.append_assoc]; rfl
    rw [this]; rfl
  · rw [List.take_length, List.drop_eq_nil_of_le (by omega), List.append_nil]; exact h2
/-! ### The ends -/
def infF : Fl := Fl.bits 9218868437227405312
theorem inf_ok : f_math_Inf 1 = some infF := rfl
section
variable {n a b : Nat} {L : List ((Fl × Fl) × Bool)} {U V : Nat → Int}
theorem ends_ok (hc : CodeOK n a b) (h : SR L U V) (hL : L.length ≤ 16384) (ha : gal (mf L U V) L.length = true) :
    ∃ E, f_soft_Ends (n : Int) (a : Int) (b : Int) L = some (E, 0) ∧ E.length = 2 ^ (n - 1) ∧ ∀ s : Nat, s < 2 ^ (n - 1) →
      (gt E (s : Int) = infF ∧ ∀ l, ¬ Mem n L.length 0 L.length s l) ∨ ∃ l, Mem n L.length 0 L.length s l ∧ Val 12 (gt E (s : Int)) (cst n a b L U V l) ∧ ∀ l', Mem n L.length 0 L.length s l' → cst n a b L U V l ≤ cst n a b L U V l' := by
  obtain ⟨q, p1, _, q1, q2, _⟩ := hc.pq
  obtain ⟨t, A, e, r1, G⟩ := run_ok (last := 0) hc hL (HC_of h ha) (by omega)
  obtain ⟨D, hD⟩ : ∃ D : List Fl, D = (List.range (2 ^ (n - 1))).map fun s => match (gt t ((s : Nat) : Int)).1 with | none => infF | some j => (nth A j).2.2.1 := ⟨_, rfl⟩
  have hDl : D.length = 2 ^ (n - 1) := by rw [hD]; simp
  have hDg : ∀ s : Nat, s < 2 ^ (n - 1) → gt D (s : Int) = match (gt t ((s : Nat) : Int)).1 with | none => infF | some j => (nth A j).2.2.1 := fun s hs => by
    rw [gt_nat (by omega)]; simp [hD]
  refine ⟨D, ?_, hDl, fun s hs => ?_⟩
  · unfold f_soft_Ends
    rw [show (0 : Int) = ((0 : Nat) : Int) from rfl, scheck_ok hc h hL ha, if_neg (by omega)]
    simp only [Option.bind_some]
    rw [if_neg (by simp), r1]
    simp only [Option.bind_some]
    rw [states_ok hc]
    simp only [Option.bind_some]
    rw [if_pos (by omega), Int.toNat_natCast]
    have hloop : loop (f_soft_Ends.s1 (t, A) (((2 ^ (n - 1) : Nat) : Int), 0)) (List.replicate (2 ^ (n - 1)) (Fl.bits 0), 0) = some D := by
      refine set_loop _ _ (by rw [hDl, List.length_replicate]) (by rw [hDl, p1]; omega) (fun i hi X hX => ?_) ?_
      · have hg := hDg i (by omega)
        rw [gt_nat hi] at hg
        rw [hg]
        simp only [f_soft_Ends.s1, f_soft_Ends.s1c, List.length_replicate, Int.toNat_natCast]
        rw [if_pos (by rw [decide_eq_true_eq]; omega), inf_ok]
        simp only [Option.bind_some]
        rw [if_pos (by omega), if_pos (by omega)]
        cases ht : (gt t (i : Int)).1 with
        | none => rw [if_neg (by simp)]
        | some j =>
          rw [if_pos (by simp)]
          simp only [Option.bind_some, List.length_set, Int.toNat_natCast, List.set_set]
          rw [if_pos (by omega)]
      · simp only [f_soft_Ends.s1, f_soft_Ends.s1c, List.length_replicate, Int.toNat_natCast]
        rw [if_neg (by rw [decide_eq_true_eq]; omega)]
    exact bnd_eq hloop rfl
  · have R := (G.ro s hs).1
    have B := G.best s hs
    rw [hDg s hs]
    cases he : (e s).1 with
    | none =>
      rw [he] at R B
      left
      rw [R.none1]
      exact ⟨rfl, B.none1.2⟩
    | some l =>
      rw [he] at R B
      obtain ⟨j, g1, rep⟩ := R.some1
      right
      have hB := B.fst
      refine ⟨l, hB.1, by rw [g1]; exact rep.val, fun l' hl' => ?_⟩
      rcases hB.2 l' hl' with e1 | e1
      · rw [e1]; exact Int.le_refl _
      · unfold Lt at e1; omega
end
/-! ### The least of numbers and the infinite -/
def EV (x : Fl) : Option Int → Prop
  | none => x = infF
  | some k => Val 12 x k
theorem inf_read : Ieee.double.read 9218868437227405312 = .infinity false := by decide
theorem fcmp_iv {y : Fl} {p : Nat} {k : Int} (h : Val p y k) : fcmp infF y = some .gt ∧ fcmp y infF = some .lt := by
  obtain ⟨b, t, n, j, rfl, r2, hj, v2⟩ := h
  constructor
  · show (Ieee.double.read 9218868437227405312).order (Ieee.double.read b) = _
    rw [inf_read, r2]; rfl
  · show (Ieee.double.read b).order (Ieee.double.read 9218868437227405312) = _
    rw [inf_read, r2]; rfl
theorem fcmp_ii : fcmp infF infF = some .eq := by decide +kernel
theorem fadd_inf {y : Fl} {p : Nat} {k : Int} (h : Val p y k) : fadd infF y = infF := by
  obtain ⟨b, t, n, j, rfl, r2, hj, v2⟩ := h
  show farith .add _ _ = _
  have : floatBits .add .f64 9218868437227405312 b = some 9218868437227405312 := by
    show Ieee.double.add 9218868437227405312 b = _
    unfold Ieee.Format.add
    rw [inf_read, r2]
    show some (Ieee.double.write (.infinity false)) = _
    decide
  simp only [farith, infF, this]
theorem fminS_cmp {x y : Fl} {a b : Nat} (hx : x = .bits a) (hy : y = .bits b) : (fcmp x y = some .lt → fminS x y = some x) ∧ (fcmp x y = some .gt → fminS x y = some y) ∧ (fcmp x y = some .eq → fminS x y = some x ∨ fminS x y = some y) := by
  subst hx hy
  have e : fcmp (.bits a) (.bits b) = FloatKind.f64.format.order a b := rfl
  rw [e]
  unfold fminS
  refine ⟨fun h => ?_, fun h => ?_, fun h => ?_⟩ <;> dsimp only <;> rw [h]
  dsimp only
  by_cases g : (FloatKind.f64.decode a).neg = true
  · rw [if_pos g]; exact .inl rfl
  · rw [if_neg g]; exact .inr rfl
theorem EV.bits {x : Fl} {o : Option Int} (h : EV x o) : ∃ a, x = .bits a := by
  cases o with
  | none => exact ⟨_, h⟩
  | some k => exact Val.bits h
def emin : Option Int → Option Int → Option Int
  | none, o => o
  | o, none => o
  | some k, some l => some (min k l)
theorem fmin_ev {x y : Fl} {o o' : Option Int} (h : EV x o) (h' : EV y o') : ∃ r, fminS x y = some r ∧ EV r (emin o o') := by
  obtain ⟨a, ha⟩ := h.bits
  obtain ⟨b, hb⟩ := h'.bits
  obtain ⟨c1, c2, c3⟩ := fminS_cmp ha hb
  cases o with
  | none =>
    have hx : x = infF := h
    cases o' with
    | none =>
      have hy : y = infF := h'
      have := c3 (by rw [hx, hy]; exact fcmp_ii)
      rw [hx, hy] at this
      rw [hx, hy]
      rcases this with e | e <;> exact ⟨_, e, rfl⟩
    | some l => exact ⟨y, c2 (by rw [hx]; exact (fcmp_iv h').1), h'⟩
  | some k =>
    cases o' with
    | none =>
      have hy : y = infF := h'
      exact ⟨x, c1 (by rw [hy]; exact (fcmp_iv h).2), h⟩
    | some l =>
      have hc := fcmp_val h h'
      change fcmp x y = some (compareOfLessAndEq k l) at hc
      unfold compareOfLessAndEq at hc
      by_cases e : k < l
      · rw [if_pos e] at hc
        refine ⟨x, c1 hc, ?_⟩
        show Val 12 x (min k l)
        rw [show min k l = k by omega]; exact h
      · rw [if_neg e] at hc
        by_cases e2 : k = l
        · rw [if_pos e2] at hc
          subst e2
          rcases c3 hc with g | g
          · refine ⟨x, g, ?_⟩
            show Val 12 x (min k k)
            rw [show min k k = k by omega]; exact h
          · refine ⟨y, g, ?_⟩
            show Val 12 y (min k k)
            rw [show min k k = k by omega]; exact h'
        · rw [if_neg e2] at hc
          refine ⟨y, c2 hc, ?_⟩
          show Val 12 y (min k l)
          rw [show min k l = l by omega]; exact h'
theorem fadd_ev {x c : Fl} {o : Option Int} {w : Int} (h : EV x o) (hc : Val 12 c w) (hb : ∀ k, o = some k → (k + w).natAbs < 9007199254740992) : EV (fadd x c) (o.map (· + w)) := by
  cases o with
  | none => rw [show x = infF from h]; exact fadd_inf hc
  | some k => exact fadd_val h hc (by decide) (hb k rfl)
theorem fne_ev {x y : Fl} {o : Option Int} (h : EV x o) (h' : EV y o) : fne x y = false := by
  cases o with
  | none => rw [show x = infF from h, show y = infF from h']; unfold fne; rw [fcmp_ii]; rfl
  | some k => rw [fne_dec h h', decide_eq_true rfl]; rfl
/-- the least one of a set, if there is one -/
def Min (S : Int → Prop) : Option Int → Prop
  | none => ∀ k, ¬ S k
  | some k => S k ∧ ∀ k', S k' → k ≤ k'
theorem Min.uniq {S : Int → Prop} {o o' : Option Int} (h : Min S o) (h' : Min S o') : o = o' := by
  cases o with
  | none => cases o' with
    | none => rfl
    | some k => exact absurd h'.1 (h k)
  | some k => cases o' with
    | none => exact absurd h.1 (h' k)
    | some l =>
      have := h.2 l h'.1
      have := h'.2 k h.1
      rw [show k = l by omega]
theorem Min.congr {S S' : Int → Prop} {o : Option Int} (h : Min S o) (e : ∀ k, S k ↔ S' k) : Min S' o := by
  cases o with
  | none => exact fun k hk => h k ((e k).2 hk)
  | some k => exact ⟨(e k).1 h.1, fun k' hk' => h.2 k' ((e k').2 hk')⟩
theorem Min.join {S S' : Int → Prop} {o o' : Option Int} (h : Min S o) (h' : Min S' o') : Min (fun k => S k ∨ S' k) (emin o o') := by
  cases o with
  | none => cases o' with
    | none => exact fun k hk => hk.elim (h k) (h' k)
    | some l => exact ⟨.inr h'.1, fun k' hk' => hk'.elim (fun e => absurd e (h k')) (h'.2 k')⟩
  | some k => cases o' with
    | none => exact ⟨.inl h.1, fun k' hk' => hk'.elim (h.2 k') (fun e => absurd e (h' k'))⟩
    | some l =>
      refine ⟨?_, fun k' hk' => ?_⟩
      · by_cases e : k ≤ l
        · rw [show min k l = k by omega]; exact .inl h.1
        · rw [show min k l = l by omega]; exact .inr h'.1
      · rcases hk' with e | e
        · have := h.2 k' e; omega
        · have := h'.2 k' e; omega
theorem Min.shift {S : Int → Prop} {o : Option Int} (h : Min S o) (w : Int) : Min (fun k => S (k - w)) (o.map (· + w)) := by
  cases o with
  | none => exact fun k => h (k - w)
  | some k => exact ⟨by show S (k + w - w); rw [show k + w - w = k by omega]; exact h.1, fun k' hk' => by have := h.2 _ hk'; show k + w ≤ k'; omega⟩
theorem Min.empty : Min (fun _ => False) none := fun _ h => h
section
variable {n a b : Nat} {L : List ((Fl × Fl) × Bool)} {U V : Nat → Int}
/-- the costs of the messages that end in a state -/
def CS (n a b : Nat) (L : List ((Fl × Fl) × Bool)) (U V : Nat → Int) (i s : Nat) (k : Int) : Prop := ∃ l, l.length = i ∧ st n l i = s ∧ k = cst n a b L U V l
theorem mem0 {i s : Nat} {l : List Bool} : Mem n i 0 i s l ↔ l.length = i ∧ st n l i = s := by
  unfold Mem Adm
  constructor
  · rintro ⟨⟨h1, _⟩, h2⟩; exact ⟨h1, h2⟩
  · rintro ⟨h1, h2⟩; exact ⟨⟨h1, fun t ht hT => by omega⟩, h2⟩
theorem ends_min (hc : CodeOK n a b) (h : SR L U V) (hL : L.length ≤ 16384) (ha : gal (mf L U V) L.length = true) :
    ∃ E, f_soft_Ends (n : Int) (a : Int) (b : Int) L = some (E, 0) ∧ E.length = 2 ^ (n - 1) ∧ ∀ s : Nat, s < 2 ^ (n - 1) → ∃ o, EV (gt E (s : Int)) o ∧ Min (CS n a b L U V L.length s) o := by
  obtain ⟨E, e1, e2, e3⟩ := ends_ok hc h hL ha
  refine ⟨E, e1, e2, fun s hs => ?_⟩
  rcases e3 s hs with ⟨g1, g2⟩ | ⟨l, g1, g2, g3⟩
  · exact ⟨none, g1, fun k ⟨l, k1, k2, _⟩ => g2 l (mem0.2 ⟨k1, k2⟩)⟩
  · obtain ⟨k1, k2⟩ := mem0.1 g1
    refine ⟨some (cst n a b L U V l), g2, ⟨l, k1, k2, rfl⟩, ?_⟩
    rintro k' ⟨l', h1, h2, rfl⟩
    exact g3 l' (mem0.2 ⟨h1, h2⟩)
theorem pc_pre {L' : List ((Fl × Fl) × Bool)} {l : List Bool} : ∀ i : Nat, (∀ t : Nat, t < i → gt L (t : Int) = gt L' (t : Int)) → pc n a b l L U V i = pc n a b l L' U V i
  | 0, _ => rfl
  | i + 1, h => by simp only [pc]; rw [pc_pre i (fun t ht => h t (by omega)), h i (by omega)]
theorem pre_of {q s p : Nat} {c : Bool} (hq : 2 ^ (n - 1) = 2 * q) (hp : p < 2 * q) (hs : s < 2 * q) : nx n p c = s ↔ c = decide (q ≤ s) ∧ (p = 2 * (s % q) ∨ p = 2 * (s % q) + 1) := by
  unfold nx al
  rw [hq]
  have hm : s % q = if q ≤ s then s - q else s := by
    split
    · rw [Nat.mod_eq_sub_mod (by omega), Nat.mod_eq_of_lt (by omega)]
    · rw [Nat.mod_eq_of_lt (by omega)]
  rw [hm]
  cases c
  · simp only [Bool.false_eq_true, if_false]
    by_cases h : q ≤ s
    · rw [if_pos h, decide_eq_true h]; simp; omega
    · rw [if_neg h, decide_eq_false h]; simp; omega
  · simp only [if_true]
    by_cases h : q ≤ s
    · rw [if_pos h, decide_eq_true h]; simp; omega
    · rw [if_neg h, decide_eq_false h]; simp; omega
theorem cs_step (hc : CodeOK n a b) {L' : List ((Fl × Fl) × Bool)} {T q s : Nat} (hT : L.length = T + 1) (hL' : ∀ t : Nat, t < T → gt L (t : Int) = gt L' (t : Int)) (hq : 2 ^ (n - 1) = 2 * q) (hs : s < 2 * q) (k : Int) :
    ((False ∨ CS n a b L' U V T (2 * (s % q)) (k - costV (ob n a (2 * (s % q)) (decide (q ≤ s))) (ob n b (2 * (s % q)) (decide (q ≤ s))) (gt L (T : Int)) (U T) (V T))) ∨ CS n a b L' U V T (2 * (s % q) + 1) (k - costV (ob n a (2 * (s % q) + 1) (decide (q ≤ s))) (ob n b (2 * (s % q) + 1) (decide (q ≤ s))) (gt L (T : Int)) (U T) (V T))) ↔ CS n a b L U V (T + 1) s k := by
  have cpre : ∀ l : List Bool, l.length = T → cst n a b L U V l = cst n a b L' U V l := fun l hl => by
    unfold cst
    exact pc_pre _ fun t ht => hL' t (by omega)
  have hml := Nat.mod_lt s (show 0 < q by omega)
  have mk : ∀ p : Nat, (p = 2 * (s % q) ∨ p = 2 * (s % q) + 1) → CS n a b L' U V T p (k - costV (ob n a p (decide (q ≤ s))) (ob n b p (decide (q ≤ s))) (gt L (T : Int)) (U T) (V T)) → CS n a b L U V (T + 1) s k := by
    rintro p hp ⟨l, h1, h2, h3⟩
    refine ⟨l ++ [decide (q ≤ s)], by simp [h1], ?_, ?_⟩
    · have := st_snoc (n := n) l (decide (q ≤ s))
      rw [h1] at this
      rw [this, h2]
      exact (pre_of hq (by omega) hs).2 ⟨rfl, hp⟩
    · rw [cst_snoc, h1, h2, cpre l h1]; omega
  constructor
  · rintro ((h | h) | h)
    · exact h.elim
    · exact mk _ (.inl rfl) h
    · exact mk _ (.inr rfl) h
  · rintro ⟨l, h1, h2, rfl⟩
    obtain ⟨l', c, rfl, e⟩ := snoc_of h1
    have hst := st_snoc (n := n) l' c
    rw [e] at hst
    rw [hst] at h2
    have hlt := st_lt hc l' T
    obtain ⟨hcc, hp⟩ := (pre_of hq (by omega) hs).1 h2
    rw [cst_snoc, e, cpre l' e, hcc]
    rcases hp with hp | hp
    · left; right
      exact ⟨l', e, hp, by rw [hp]; omega⟩
    · right
      exact ⟨l', e, hp, by rw [hp]; omega⟩
end
def smp (l : List (Int × Int × Bool)) : List ((Fl × Fl) × Bool) := l.map fun x => ((qv x.1, qv x.2.1), x.2.2)
def Ok32 (l : List (Int × Int × Bool)) : Prop := ∀ x ∈ l, (-2147483648 ≤ x.1 ∧ x.1 < 2147483648) ∧ (-2147483648 ≤ x.2.1 ∧ x.2.1 < 2147483648)
def mark : (Fl × Fl) × Bool := ((Fl.bits 4651892959631900672, Fl.bits 0), false)
theorem samples_ok {l : List (Int × Int × Bool)} (ho : Ok32 l) (hl : l.length ≤ 1048576) : f_foghornlaw23_samples l = some (smp l, [mark]) := by
  unfold f_foghornlaw23_samples
  have hL : (smp l).length = l.length := by simp [smp]
  have := app_loop (f := f_foghornlaw23_samples.s1 l) (smp l) (by omega) (fun i hi T hT => by
    have hi' : i < l.length := by omega
    simp only [f_foghornlaw23_samples.s1, f_foghornlaw23_samples.s1c]
    obtain ⟨o1, o2⟩ := ho _ (List.getElem_mem hi')
    rw [if_pos (by rw [decide_eq_true_eq]; omega), if_pos (by omega), gt_nat hi', (qv_ok o1).1]
    simp only [Option.bind_some]
    rw [if_pos (by omega), (qv_ok o2).1]
    simp only [Option.bind_some]
    rw [if_pos (by omega), if_pos (by simp only [List.length_cons, List.length_nil]; omega)]
    simp [smp]) (by
    simp only [f_foghornlaw23_samples.s1, f_foghornlaw23_samples.s1c]
    rw [if_neg (by rw [hL]; simp)])
  rw [this]
  simp only [Option.bind_some]
  rw [if_pos (by simp only [List.length_cons, List.length_nil]; omega), if_pos (by simp; omega)]
  simp [mark]
theorem smp_sv {l : List (Int × Int × Bool)} (ho : Ok32 l) {i : Nat} (hi : i < (smp l).length) : SV (smp l)[i] (gt l (i : Int)).1 (gt l (i : Int)).2.1 := by
  have hi' : i < l.length := by simpa [smp] using hi
  obtain ⟨o1, o2⟩ := ho _ (List.getElem_mem hi')
  rw [gt_nat hi']
  have e : (smp l)[i] = ((qv l[i].1, qv l[i].2.1), l[i].2.2) := by simp [smp]
  rw [e]
  exact ⟨(qv_ok o1).2, (qv_ok o2).2, by omega, by omega, by omega, by omega⟩
/-! ### The document's answers: grid, steps, costs -/
theorem ftoi_whole {y : Fl} {u : Int} (h : Val 12 y (u * 4096)) (hu : -4611686018427387904 ≤ u ∧ u ≤ 4611686018427387904) : ftoi .i64 y = some u := by
  obtain ⟨a, s, m, e, n, drop, rfl, hr, hn, hd, hnu, hs⟩ := whole_of h
  show floatToIntVal .f64 a .i64 = _
  unfold floatToIntVal
  have h' : FloatKind.f64.decode a = .number s m e := hr
  rw [h']
  have : (Ieee.Datum.number s m e).toInt .zero = some u := by
    show some (Ieee.signed s (Ieee.Toward.zero.cut s (m <<< e.toNat) (-e).toNat) 0) = _
    rw [Nat.shiftLeft_eq, cut_zero, hn, hd, hnu, Nat.mul_div_cancel _ (Nat.two_pow_pos drop), signed_eq, Nat.pow_zero, Nat.mul_one, hs]
  rw [this]
  simp only
  have e1 : IntKind.i64.min = -9223372036854775808 := by decide
  have e2 : IntKind.i64.max = 9223372036854775807 := by decide
  rw [if_pos (by rw [e1, e2]; omega)]
theorem on_r {x : Fl} {u : Int} (h : Val 12 x u) : f_foghornref02_On x = some (onb u) := by
  unfold f_foghornref02_On
  rw [within_dec h]
  cases ho : onb u
  · rfl
  · unfold onb at ho
    rw [decide_eq_true_eq] at ho
    have hm := fmul_val h c4096 (by decide) (by omega)
    rw [Nat.add_zero] at hm
    rw [if_neg (by decide), ftoi_whole hm (by omega)]
    simp only [Option.bind_some]
    have hf := val_scale (d := 12) (fofi_val (k := u) (by omega)) (by decide)
    rw [Nat.zero_add] at hf
    rw [feq_val hf hm]
theorem may_r {s : (Fl × Fl) × Bool} {u v : Int} (h : SV s u v) : f_foghornref02_May s.1 s.2 = some (mayb s u v) := by
  unfold f_foghornref02_May mayb
  by_cases hs : s.2 = true
  · rw [if_pos hs, if_pos hs]; rfl
  · rw [if_neg hs, if_neg hs, on_r h.re, on_r h.im]
    simp only [Option.bind_some]
    cases onb u <;> rfl
theorem cost_eq (one two : Bool) (v : Fl × Fl) (lost : Bool) : f_foghornref23_cost one two v lost = f_soft_cost one two v lost := rfl
theorem grid_r {L : List ((Fl × Fl) × Bool)} {U V : Nat → Int} (h : SR L U V) (hl : L.length ≤ 16384) : f_foghornref23_grid L = some (gal (mf L U V) L.length) := by
  have key : ∀ k i : Nat, i + k = L.length → gal (mf L U V) i = true → loop (f_foghornref23_grid.s1 L) (i : Int) = some (if gal (mf L U V) L.length = true then .inl () else .inr false) := by
    intro k
    induction k with
    | zero =>
      intro i hi h0
      obtain rfl : i = L.length := by omega
      rw [if_pos h0]
      apply loop_done
      simp only [f_foghornref23_grid.s1, f_foghornref23_grid.s1c]
      rw [if_neg (by simp)]
    | succ k ih =>
      intro i hi h0
      have hs : f_foghornref23_grid.s1 L (i : Int) = some (if mf L U V i = true then .inl ((i + 1 : Nat) : Int) else .inr (.inr false)) := by
        simp only [f_foghornref23_grid.s1, f_foghornref23_grid.s1c]
        rw [if_pos (by rw [decide_eq_true_eq]; omega), if_pos (by omega), may_r (h i (by omega))]
        simp only [Option.bind_some]
        rw [show mayb (gt L (i : Int)) (U i) (V i) = mf L U V i from rfl, w64 (by omega) (by omega)]
        cases mf L U V i <;> rfl
      by_cases hm : mf L U V i = true
      · rw [if_pos hm] at hs
        rw [loop_step hs]
        exact ih (i + 1) (by omega) (by simp only [gal]; rw [h0, hm]; rfl)
      · rw [if_neg hm] at hs
        rw [loop_done hs, if_neg]
        rw [gal_false (i := i + 1) (by omega) (by simp only [gal]; rw [h0]; cases h' : mf L U V i <;> simp_all)]
        decide
  have hx := key L.length 0 (by omega) rfl
  rw [show ((0 : Nat) : Int) = 0 from rfl] at hx
  unfold f_foghornref23_grid
  rw [hx]
  by_cases ha : gal (mf L U V) L.length = true
  · rw [if_pos ha, ha]; rfl
  · rw [if_neg ha]
    have : gal (mf L U V) L.length = false := by cases h' : gal (mf L U V) L.length <;> simp_all
    rw [this]; rfl
def pr (x : Nat) : Nat → Bool
  | 0 => false
  | i + 1 => pr x i != x.testBit i
theorem pr_par : ∀ x, x < 128 → (pr x 32 == par x) = true := by decide +kernel
theorem bit_one {x i : Nat} (hx : x < 4294967296) (hi : i < 32) : (iand .u32 (ishr .u32 (x : Int) (i : Int)) (1 : Int) == (1 : Int)) = x.testBit i := by
  have hd : x / 2 ^ i ≤ x := Nat.div_le_self _ _
  rw [ishr_nat (show i ≤ 32 by omega), show (1 : Int) = ((1 : Nat) : Int) from rfl, iand32 (by omega) (by omega), Nat.and_one_is_mod, Nat.testBit_eq_decide_div_mod_eq]
  rw [Bool.eq_iff_iff]
  simp only [beq_iff_eq, decide_eq_true_eq]
  omega
theorem odd_ok {x y : Nat} (hx : x < 128) (hy : y < 128) : f_foghornref21_odd (x : Int) (y : Int) = some (par (x &&& y)) := by
  have key : ∀ k i : Nat, i + k = 32 → loop (f_foghornref21_odd.s1 (x : Int) (y : Int)) (pr (x &&& y) i, (i : Int)) = some (pr (x &&& y) 32) := by
    intro k
    induction k with
    | zero =>
      intro i hi
      obtain rfl : i = 32 := by omega
      apply loop_done
      simp only [f_foghornref21_odd.s1, f_foghornref21_odd.s1c]
      rw [if_neg (by simp)]
    | succ k ih =>
      intro i hi
      rw [← ih (i + 1) (by omega)]
      apply loop_step
      simp only [f_foghornref21_odd.s1, f_foghornref21_odd.s1c]
      have i0 : 0 ≤ (i : Int) := by omega
      rw [if_pos (by rw [decide_eq_true_eq]; omega), if_pos i0, bit_one (x := x) (by omega) (by omega), bit_one (x := y) (by omega) (by omega), w64 (by omega) (by omega), if_pos i0]
      have e : pr (x &&& y) (i + 1) = (pr (x &&& y) i != (x.testBit i && y.testBit i)) := by simp only [pr]; rw [Nat.testBit_and]
      rw [e]
      cases x.testBit i <;> cases y.testBit i <;> simp
  have := key 32 0 (by omega)
  rw [show pr (x &&& y) 0 = false from rfl, show ((0 : Nat) : Int) = 0 from rfl] at this
  have hle : x &&& y ≤ x := Nat.and_le_left
  unfold f_foghornref21_odd
  rw [this, eq_of_beq (pr_par (x &&& y) (by omega))]; rfl
theorem go_ok {n a b : Nat} (h : CodeOK n a b) {s : Nat} (hs : s < 2 ^ (n - 1)) (c : Bool) :
    f_foghornref21_Go (n : Int) (a : Int) (b : Int) (s : Int) c = some (((nx n s c : Nat) : Int), ob n a s c, ob n b s c) := by
  have hal := al_lt h hs c
  obtain ⟨q, p1, p2, q1, q2, _⟩ := h.pq
  have h1 := h.n2; have h2 := h.n7; have h5 := h.an; have h6 := h.bn
  have j : f_foghornref21_Go.j1 (a : Int) (b : Int) ((al n s c : Nat) : Int) = some (((nx n s c : Nat) : Int), ob n a s c, ob n b s c) := by
    unfold f_foghornref21_Go.j1
    rw [odd_ok (by omega) (by omega), odd_ok (by omega) (by omega), show (2 : Int) = ((2 : Nat) : Int) from rfl, tdiv_nat, w32 (by omega) (by omega), w64 (by omega) (by omega)]
    rfl
  unfold f_foghornref21_Go
  cases c with
  | false => rw [if_neg (by simp), w32 (by omega) (by omega)]; exact j
  | true =>
    rw [if_pos rfl, w64 (by omega) (by omega), if_pos (by omega), w32 (x := (s : Int)) (by omega) (by omega), show (n : Int) - 1 = ((n - 1 : Nat) : Int) by omega, show ((1 : Int)) = ((1 : Nat) : Int) from rfl, ishl32 (by omega) (by omega), Nat.one_mul]
    have e : IntKind.u32.wrap ((s : Int) + ((2 ^ (n - 1) : Nat) : Int)) = ((al n s true : Nat) : Int) := by
      rw [w32 (by omega) (by omega)]; simp only [al, if_true]; omega
    rw [e]; exact j
theorem rstates_ok {n a b : Nat} (h : CodeOK n a b) (hm : f_foghornref21_May (n : Int) (a : Int) (b : Int) = some true) : f_foghornref21_States (n : Int) (a : Int) (b : Int) = some (((2 ^ (n - 1) : Nat) : Int), 0) := by
  obtain ⟨q, p1, p2, q1, q2, _⟩ := h.pq
  have h1 := h.n2; have h2 := h.n7
  unfold f_foghornref21_States
  rw [hm]
  simp only [Option.bind_some]
  rw [if_neg (by simp), w64 (by omega) (by omega), if_pos (by omega), show (n : Int) - 1 = ((n - 1 : Nat) : Int) by omega, show ((1 : Int)) = ((1 : Nat) : Int) from rfl, ishl64 (by omega) (by omega), Nat.one_mul]
theorem same_self (l : List Bool) (hl : l.length < 9223372036854775807) : f_foghornref21_Same l l = some true := by
  unfold f_foghornref21_Same
  rw [if_neg (by simp)]
  have := loop_for1 (f := f_foghornref21_Same.s1 l l) l.length (.inl ()) (fun i hi => ?_) ?_
  · rw [this]; rfl
  · simp only [f_foghornref21_Same.s1, f_foghornref21_Same.s1c]
    rw [if_pos (by simpa using hi), if_pos (by omega), if_pos (by omega), if_neg (by simp), w64 (by omega) (by omega)]
    rfl
  · simp only [f_foghornref21_Same.s1, f_foghornref21_Same.s1c]
    rw [if_neg (by simp)]
/-! ### The document's run -/
abbrev RW := List Bool × Fl
/-- a row and the messages it stands for -/
def RowR (C : List Bool → Int) : List RW → Option (List Bool) → Option (List Bool) → Prop
  | [], none, none => True
  | [w], some a, none => w.1 = a ∧ Val 12 w.2 (C a)
  | [w, z], some a, some b => (w.1 = a ∧ Val 12 w.2 (C a)) ∧ z.1 = b ∧ Val 12 z.2 (C b)
  | _, _, _ => False
section
variable {C : List Bool → Int}
theorem RowR.len {row : List RW} {e1 e2 : Option (List Bool)} (h : RowR C row e1 e2) : (row = [] ∧ e1 = none ∧ e2 = none) ∨ (∃ w a, row = [w] ∧ e1 = some a ∧ e2 = none ∧ w.1 = a ∧ Val 12 w.2 (C a)) ∨ ∃ w z a b, row = [w, z] ∧ e1 = some a ∧ e2 = some b ∧ w.1 = a ∧ Val 12 w.2 (C a) ∧ z.1 = b ∧ Val 12 z.2 (C b) := by
  match row, e1, e2, h with
  | [], none, none, _ => exact .inl ⟨rfl, rfl, rfl⟩
  | [w], some a, none, h => exact .inr (.inl ⟨w, a, rfl, rfl, rfl, h.1, h.2⟩)
  | [w, z], some a, some b, h => exact .inr (.inr ⟨w, z, a, b, rfl, rfl, rfl, h.1.1, h.1.2, h.2.1, h.2.2⟩)
theorem bv_app (p : List Bool) : ∀ (k : Nat) (q : List Bool), q.length = k → bv (p ++ q) = bv p * 2 ^ k + bv q
  | 0, q, h => by rw [List.length_eq_zero_iff.1 h]; simp [bv_nil]
  | k + 1, q, h => by
    obtain ⟨q', b, rfl, e⟩ := snoc_of h
    rw [← List.append_assoc, bv_snoc, bv_snoc, bv_app p k q' e, Nat.pow_succ, Nat.mul_add, Nat.mul_left_comm, Nat.mul_comm 2 (2 ^ k)]
    omega
theorem bv_lt : ∀ (i : Nat) (l : List Bool), l.length = i → bv l < 2 ^ i
  | 0, l, h => by rw [List.length_eq_zero_iff.1 h]; decide
  | i + 1, l, h => by
    obtain ⟨l', b, rfl, e⟩ := snoc_of h
    have := bv_lt i l' e
    have hb := bn_lt b
    rw [bv_snoc, Nat.pow_succ]; omega
theorem bv_first {p r s : List Bool} {c d : Bool} (hl : r.length = s.length) (hne : c ≠ d) : bv (p ++ c :: r) < bv (p ++ d :: s) ↔ c = false := by
  have e1 : bv (p ++ c :: r) = bv p * 2 ^ (r.length + 1) + (bn c * 2 ^ r.length + bv r) := by
    rw [bv_app p (r.length + 1) (c :: r) (by simp)]
    have : bv (c :: r) = bv ([c] ++ r) := rfl
    rw [this, bv_app [c] r.length r rfl]; simp [bv]
  have e2 : bv (p ++ d :: s) = bv p * 2 ^ (r.length + 1) + (bn d * 2 ^ r.length + bv s) := by
    rw [bv_app p (r.length + 1) (d :: s) (by simp [hl])]
    have : bv (d :: s) = bv ([d] ++ s) := rfl
    rw [this, bv_app [d] s.length s rfl, hl]; simp [bv]
  have h1 := bv_lt _ r rfl
  have h2 := bv_lt _ s rfl
  rw [← hl] at h2
  rw [e1, e2]
  cases c <;> cases d <;> simp [bn] at hne ⊢ <;> omega
theorem ahead_ok {l m : List Bool} {x y : Fl} (hl : l.length = m.length) (hs : l.length ≤ 100000) (hx : Val 12 x (C l)) (hy : Val 12 y (C m)) : ∃ v, f_foghornref23_ahead l x m y = some v ∧ (v = true ↔ Lt C l m) := by
  unfold f_foghornref23_ahead
  rw [fne_dec hx hy, flt_dec hx hy]
  by_cases hc : C l = C m
  · rw [if_neg (by simp [hc])]
    have key : ∀ k i : Nat, i + k = l.length → l.take i = m.take i → (loop (f_foghornref23_ahead.s1 l m) (i : Int) = some (.inl ()) ∧ l = m) ∨ ∃ v, loop (f_foghornref23_ahead.s1 l m) (i : Int) = some (.inr v) ∧ (v = true ↔ bv l < bv m) := by
      intro k
      induction k with
      | zero =>
        intro i hi he
        obtain rfl : i = l.length := by omega
        left
        refine ⟨loop_done ?_, ?_⟩
        · simp only [f_foghornref23_ahead.s1, f_foghornref23_ahead.s1c]
          rw [if_neg (by simp)]
        · rw [List.take_length] at he
          rw [he, hl, List.take_length]
      | succ k ih =>
        intro i hi he
        have h1 : i < l.length := by omega
        have h2 : i < m.length := by omega
        by_cases hd : l[i] = m[i]
        · have hstep : f_foghornref23_ahead.s1 l m (i : Int) = some (.inl ((i + 1 : Nat) : Int)) := by
            simp only [f_foghornref23_ahead.s1, f_foghornref23_ahead.s1c]
            rw [if_pos (by rw [decide_eq_true_eq]; omega), if_pos (by omega), if_pos (by omega), gt_nat h1, gt_nat h2, hd, if_neg (by simp), w64 (by omega) (by omega)]; rfl
          rw [loop_step hstep]
          exact ih (i + 1) (by omega) (by rw [List.take_succ_eq_append_getElem h1, List.take_succ_eq_append_getElem h2, he, hd])
        · right
          refine ⟨!l[i], loop_done ?_, ?_⟩
          · simp only [f_foghornref23_ahead.s1, f_foghornref23_ahead.s1c]
            rw [if_pos (by rw [decide_eq_true_eq]; omega), if_pos (by omega), if_pos (by omega), gt_nat h1, gt_nat h2, if_pos (by simpa using hd), if_pos (by omega)]
          · have e1 : l = l.take i ++ l[i] :: l.drop (i + 1) := by rw [← List.drop_eq_getElem_cons h1, List.take_append_drop]
            have e2 : m = l.take i ++ m[i] :: m.drop (i + 1) := by rw [he, ← List.drop_eq_getElem_cons h2, List.take_append_drop]
            have := bv_first (p := l.take i) (r := l.drop (i + 1)) (s := m.drop (i + 1)) (c := l[i]) (d := m[i]) (by simp; omega) hd
            rw [← e1, ← e2] at this
            rw [this]
            cases l[i] <;> simp
    rcases key l.length 0 (by omega) (by simp) with ⟨h1, h2⟩ | ⟨v, h1, h2⟩
    · rw [show ((0 : Nat) : Int) = 0 from rfl] at h1
      rw [h1]
      refine ⟨false, rfl, ?_⟩
      unfold Lt
      rw [h2]; simp
    · rw [show ((0 : Nat) : Int) = 0 from rfl] at h1
      rw [h1]
      refine ⟨v, rfl, h2.trans ?_⟩
      unfold Lt; omega
  · rw [if_pos (by simp [hc])]
    refine ⟨_, rfl, ?_⟩
    rw [decide_eq_true_eq]
    unfold Lt; omega
theorem rput_step (row : List RW) (m : List Bool) (y : Fl) (out : List RW) (done : Bool) (i : Nat) (hi : i < row.length) (hr : row.length ≤ 2) (ho : out.length ≤ 4) (v : Bool) (hv : done = false → f_foghornref23_ahead m y row[i].1 row[i].2 = some v) :
    f_foghornref23_put.s1 row m y (out, done, (i : Int)) = some (.inl (if done = false ∧ v = true then (out ++ [(m, y)] ++ [row[i]], true, ((i + 1 : Nat) : Int)) else (out ++ [row[i]], done, ((i + 1 : Nat) : Int)))) := by
  simp only [f_foghornref23_put.s1, f_foghornref23_put.s1c]
  rw [if_pos (by rw [decide_eq_true_eq]; omega), gt_nat hi]
  have hj : ∀ (o : List RW) (d : Bool), o.length ≤ 5 → f_foghornref23_put.j1 row (i : Int) o d = some (.inl (o ++ [row[i]], d, ((i + 1 : Nat) : Int))) := fun o d ho' => by
    unfold f_foghornref23_put.j1
    rw [if_pos (by omega), gt_nat hi, if_pos (by simp only [List.length_cons, List.length_nil]; omega), w64 (by omega) (by omega)]; rfl
  cases done with
  | true =>
    simp only [Bool.not_true, Bool.false_eq_true, if_false, Option.bind_some]
    rw [hj _ _ (by omega), if_neg (by simp)]
  | false =>
    simp only [Bool.not_false, if_true]
    rw [if_pos (by omega), hv rfl]
    simp only [Option.bind_some]
    cases v with
    | true =>
      rw [if_pos rfl, if_pos (by simp only [List.length_cons, List.length_nil]; omega), hj _ _ (by simp; omega), if_pos (by simp)]
    | false =>
      rw [if_neg (by simp), hj _ _ (by omega), if_neg (by simp)]
theorem rput_end (row : List RW) (m : List Bool) (y : Fl) (out : List RW) (done : Bool) : f_foghornref23_put.s1 row m y (out, done, (row.length : Int)) = some (.inr (out, done)) := by
  simp only [f_foghornref23_put.s1, f_foghornref23_put.s1c]
  rw [if_neg (by simp)]
theorem rput_ok {row : List RW} {m : List Bool} {y : Fl} {e1 e2 : Option (List Bool)} (hr : RowR C row e1 e2) (hm : m.length ≤ 100000) (h1 : ∀ a, e1 = some a → m.length = a.length) (h2 : ∀ b, e2 = some b → m.length = b.length) (hy : Val 12 y (C m)) :
    ∃ row', f_foghornref23_put row m y = some row' ∧ RowR C row' (put2 C m e1 e2).1 (put2 C m e1 e2).2 := by
  unfold f_foghornref23_put
  rcases hr.len with ⟨rfl, rfl, rfl⟩ | ⟨w, a, rfl, rfl, rfl, rfl, w2⟩ | ⟨w, z, a, b, rfl, rfl, rfl, rfl, w2, rfl, z2⟩
  · have e : loop (f_foghornref23_put.s1 [] m y) ([], false, 0) = some ([], false) := loop_done (rput_end [] m y [] false)
    rw [e]
    refine ⟨[(m, y)], rfl, ?_⟩
    exact ⟨rfl, hy⟩
  · obtain ⟨v, v1, v2⟩ := ahead_ok (h1 _ rfl) hm hy w2
    have s0 := rput_step [w] m y [] false 0 (by simp) (by simp) (by simp) v (fun _ => v1)
    cases hv : v with
    | true =>
      rw [hv, if_pos ⟨rfl, rfl⟩] at s0
      have e : loop (f_foghornref23_put.s1 [w] m y) ([], false, 0) = some ([(m, y), w], true) := (loop_step s0).trans (loop_done (rput_end [w] m y _ true))
      rw [e]
      refine ⟨[(m, y), w], rfl, ?_⟩
      simp only [put2, if_pos (v2.1 hv)]
      exact ⟨⟨rfl, hy⟩, rfl, w2⟩
    | false =>
      rw [hv, if_neg (by simp)] at s0
      have e : loop (f_foghornref23_put.s1 [w] m y) ([], false, 0) = some ([w], false) := (loop_step s0).trans (loop_done (rput_end [w] m y _ false))
      rw [e]
      refine ⟨[w, (m, y)], rfl, ?_⟩
      have hn : ¬ Lt C m w.1 := fun h => by have := v2.2 h; rw [hv] at this; cases this
      simp only [put2, if_neg hn]
      exact ⟨⟨rfl, w2⟩, rfl, hy⟩
  · obtain ⟨v, v1, v2⟩ := ahead_ok (h1 _ rfl) hm hy w2
    obtain ⟨u, u1, u2⟩ := ahead_ok (h2 _ rfl) hm hy z2
    have s0 := rput_step [w, z] m y [] false 0 (by simp) (by simp) (by simp) v (fun _ => v1)
    cases hv : v with
    | true =>
      rw [hv, if_pos ⟨rfl, rfl⟩] at s0
      have s1 := rput_step [w, z] m y ([] ++ [(m, y)] ++ [w]) true 1 (by simp) (by simp) (by simp) true (fun h => by cases h)
      rw [if_neg (by simp)] at s1
      have e : loop (f_foghornref23_put.s1 [w, z] m y) ([], false, 0) = some ([(m, y), w, z], true) := (loop_step s0).trans ((loop_step s1).trans (loop_done (rput_end [w, z] m y _ true)))
      rw [e]
      refine ⟨[(m, y), w], rfl, ?_⟩
      simp only [put2, if_pos (v2.1 hv)]
      exact ⟨⟨rfl, hy⟩, rfl, w2⟩
    | false =>
      rw [hv, if_neg (by simp)] at s0
      have hn : ¬ Lt C m w.1 := fun h => by have := v2.2 h; rw [hv] at this; cases this
      have s1 := rput_step [w, z] m y ([] ++ [w]) false 1 (by simp) (by simp) (by simp) u (fun _ => u1)
      cases hu : u with
      | true =>
        rw [hu, if_pos ⟨rfl, rfl⟩] at s1
        have e : loop (f_foghornref23_put.s1 [w, z] m y) ([], false, 0) = some ([w, (m, y), z], true) := (loop_step s0).trans ((loop_step s1).trans (loop_done (rput_end [w, z] m y _ true)))
        rw [e]
        refine ⟨[w, (m, y)], rfl, ?_⟩
        simp only [put2, if_neg hn, if_pos (u2.1 hu)]
        exact ⟨⟨rfl, w2⟩, rfl, hy⟩
      | false =>
        rw [hu, if_neg (by simp)] at s1
        have hn2 : ¬ Lt C m z.1 := fun h => by have := u2.2 h; rw [hu] at this; cases this
        have e : loop (f_foghornref23_put.s1 [w, z] m y) ([], false, 0) = some ([w, z], false) := (loop_step s0).trans ((loop_step s1).trans (loop_done (rput_end [w, z] m y _ false)))
        rw [e]
        refine ⟨[w, z], rfl, ?_⟩
        simp only [put2, if_neg hn, if_neg hn2]
        exact ⟨⟨rfl, w2⟩, rfl, z2⟩
end
/-! ### The document's run, step by step -/
section
variable {n a b : Nat} {L : List ((Fl × Fl) × Bool)} {U V : Nat → Int} {last i : Nat} {th now : List (List RW)} {e0 e : EE} {D : List Bool → Prop}
/-- a generation -/
structure RG (n a b : Nat) (L : List ((Fl × Fl) × Bool)) (U V : Nat → Int) (last i : Nat) (now : List (List RW)) (e : EE) : Prop where
  len : now.length = 2 ^ (n - 1)
  row : ∀ s : Nat, s < 2 ^ (n - 1) → RowR (cst n a b L U V) (gt now (s : Int)) (e s).1 (e s).2
  best : ∀ s : Nat, s < 2 ^ (n - 1) → Best2 (cst n a b L U V) (Mem n L.length last i s) (e s).1 (e s).2
/-- while a step's messages are put -/
structure RPt (n a b : Nat) (L : List ((Fl × Fl) × Bool)) (U V : Nat → Int) (i : Nat) (th : List (List RW)) (e : EE) (D : List Bool → Prop) : Prop where
  len : th.length = 2 ^ (n - 1)
  row : ∀ s : Nat, s < 2 ^ (n - 1) → RowR (cst n a b L U V) (gt th (s : Int)) (e s).1 (e s).2
  best : ∀ s : Nat, s < 2 ^ (n - 1) → Best2 (cst n a b L U V) (fun m => D m ∧ st n m (i + 1) = s) (e s).1 (e s).2
  dl : ∀ m, D m → m.length = i + 1
theorem RPt.congr (h : RPt n a b L U V i th e D) {D' : List Bool → Prop} (hD : ∀ m, D m ↔ D' m) : RPt n a b L U V i th e D' :=
  ⟨h.len, h.row, fun s hs => (h.best s hs).congr fun m => by rw [hD], fun m hm => h.dl m ((hD m).2 hm)⟩
theorem RPt.add (hc : CodeOK n a b) (h : RPt n a b L U V i th e D) (hi : i ≤ 16384) {l : List Bool} {c : Bool} (hl : l.length = i) (hnd : ¬ D (l ++ [c])) {x : Fl} (hx : Val 12 x (cst n a b L U V (l ++ [c]))) :
    ∃ row' e', f_foghornref23_put (gt th ((nx n (st n l i) c : Nat) : Int)) (l ++ [c]) x = some row' ∧ RPt n a b L U V i (th.set (nx n (st n l i) c) row') e' (fun m => D m ∨ m = l ++ [c]) := by
  have hs0 := nx_lt hc (st_lt hc l i) c
  generalize hs' : nx n (st n l i) c = s' at *
  have hsm : st n (l ++ [c]) (i + 1) = s' := by rw [← hl, st_snoc, hl]; exact hs'
  have hlen := h.len
  have b0 := h.best s' hs0
  have lens : ∀ k m', k < 2 → sle e s' k = some m' → (l ++ [c]).length = m'.length := fun k m' hk hm => by
    have := Best2.sl hk b0 hm
    rw [h.dl m' this.1]; simp [hl]
  obtain ⟨row', f1, f2⟩ := rput_ok (h.row s' hs0) (by simp; omega) (fun a ha => lens 0 a (by decide) ha) (fun a ha => lens 1 a (by decide) ha) hx
  refine ⟨row', fun s => if s = s' then put2 (cst n a b L U V) (l ++ [c]) (e s').1 (e s').2 else e s, f1, by rw [List.length_set]; exact hlen, fun s hs => ?_, fun s hs => ?_, fun m hm => ?_⟩
  · rw [gt_setG (by omega) (by omega)]
    by_cases es : s' = s
    · subst es; rw [if_pos rfl]; simp only [if_true]; exact f2
    · rw [if_neg es]; simp only [if_neg (Ne.symm es)]; exact h.row s hs
  · by_cases es : s = s'
    · subst es
      simp only [if_true]
      have := Best2.put (m := l ++ [c]) (i := i + 1) (fun m hm => h.dl m hm.1) (by simp [hl]) (fun hm => hnd hm.1) b0
      refine this.congr fun m => ?_
      constructor
      · rintro (⟨h1, h2⟩ | h1)
        · exact ⟨.inl h1, h2⟩
        · exact ⟨.inr h1, by rw [h1]; exact hsm⟩
      · rintro ⟨h1 | h1, h2⟩
        · exact .inl ⟨h1, h2⟩
        · exact .inr h1
    · simp only [if_neg es]
      refine (h.best s hs).congr fun m => ?_
      constructor
      · rintro ⟨h1, h2⟩; exact ⟨.inl h1, h2⟩
      · rintro ⟨h1 | h1, h2⟩
        · exact ⟨h1, h2⟩
        · subst h1; exact absurd (h2.symm.trans hsm) es
  · rcases hm with hm | hm
    · exact h.dl m hm
    · rw [hm]; simp [hl]
theorem cs_fresh (hb : ∀ s : Nat, s < 2 ^ (n - 1) → Best2 (cst n a b L U V) (Mem n L.length last i s) (e0 s).1 (e0 s).2) {s k β : Nat} {c : Bool} (hbn : bn c = β) {l : List Bool} (hs : s < 2 ^ (n - 1)) (hk : k < 2) (h0 : sle e0 s k = some l) : ¬ Cs n L.length last i e0 s k β (l ++ [c]) := by
  rintro ⟨s0, k0, c0, l0, h1, h2, h3, h4, h5, h6⟩
  obtain ⟨rfl, h7⟩ := List.append_inj' h4 rfl
  cases h7
  have m1 := Best2.sl hk (hb s hs) h0
  have m2 := Best2.sl h2 (hb s0 h1) h3
  have : s0 = s := m2.2.symm.trans m1.2
  subst this
  have := Best2.one h2 hk (hb s0 hs) h3 h0
  omega
theorem RowR.sl {s k : Nat} {row : List RW} (h : RowR (cst n a b L U V) row (e s).1 (e s).2) (hk : k < 2) : (k < row.length → ∃ l, sle e s k = some l ∧ (gt row (k : Int)).1 = l ∧ Val 12 (gt row (k : Int)).2 (cst n a b L U V l)) ∧ (¬ k < row.length → sle e s k = none) := by
  unfold sle
  rcases h.len with ⟨rfl, h1, h2⟩ | ⟨w, a1, rfl, h1, h2, h3, h4⟩ | ⟨w, z, a1, b1, rfl, h1, h2, h3, h4, h5, h6⟩
  · rw [h1, h2]
    rcases (show k = 0 ∨ k = 1 by omega) with rfl | rfl <;> exact ⟨fun h => by simp at h, fun _ => rfl⟩
  · rw [h1, h2]
    rcases (show k = 0 ∨ k = 1 by omega) with rfl | rfl
    · exact ⟨fun _ => ⟨a1, rfl, h3, h4⟩, fun h => by simp at h⟩
    · exact ⟨fun h => by simp at h, fun _ => rfl⟩
  · rw [h1, h2]
    rcases (show k = 0 ∨ k = 1 by omega) with rfl | rfl
    · exact ⟨fun _ => ⟨a1, rfl, h3, h4⟩, fun h => by simp at h⟩
    · exact ⟨fun _ => ⟨b1, rfl, h5, h6⟩, fun h => by simp at h⟩
theorem rrun_bit (hc : CodeOK n a b) (hL : L.length ≤ 16384) (hco : HC L U V) (hi : i < L.length) (hla : last ≤ 16384) (G : RG n a b L U V last i now e0) {s k : Nat} (hs : s < 2 ^ (n - 1)) (hk : k < 2) (hkr : k < (gt now (s : Int)).length) {c : Bool}
    (h : RPt n a b L U V i th e (Cs n L.length last i e0 s k (bn c))) :
    ∃ th' e', f_foghornref23_run.s4 (n : Int) (a : Int) (b : Int) L (last : Int) now (i : Int) (s : Int) (k : Int) (th, ((bn c : Nat) : Int)) = some (.inl (th', ((bn c + 1 : Nat) : Int))) ∧ RPt n a b L U V i th' e' (Cs n L.length last i e0 s k (bn c + 1)) := by
  obtain ⟨l, hse, g1, g2⟩ := ((G.row s hs).sl hk).1 hkr
  have hm := Best2.sl hk (G.best s hs) hse
  have hli := hm.1.1
  have hst := hm.2
  have hb := bn_lt c
  have hgc : (((bn c : Nat) : Int) == (1 : Int)) = c := by cases c <;> rfl
  have hw : IntKind.i64.wrap (((bn c : Nat) : Int) + 1) = ((bn c + 1 : Nat) : Int) := by rw [w64 (by omega) (by omega)]; rfl
  have hw2 : IntKind.i64.wrap ((L.length : Int) - (last : Int)) = (L.length : Int) - last := w64 (by omega) (by omega)
  simp only [f_foghornref23_run.s4, f_foghornref23_run.s4c]
  rw [if_pos (by rw [decide_eq_true_eq]; omega), hgc, hw, hw2]
  by_cases hskip : c = true ∧ L.length ≤ i + last
  · rw [if_pos (by simp only [hskip.1, Bool.true_and, decide_eq_true_eq]; omega)]
    refine ⟨th, e, rfl, ?_⟩
    have : bn c = 1 := by rw [hskip.1]; rfl
    rw [this] at h ⊢
    exact h.congr fun m => Cs.nobit hskip.2 m
  · rw [if_neg (by simp only [Bool.and_eq_true, decide_eq_true_eq]; exact fun h => hskip ⟨h.1, by have := h.2; omega⟩)]
    have hall : c = true → ¬ L.length ≤ i + last := fun h1 h2 => hskip ⟨h1, h2⟩
    have hn := nx_lt hc hs c
    obtain ⟨q, p1, _, q1, q2, _⟩ := hc.pq
    have hnl := G.len
    have htl := h.len
    rw [go_ok hc hs c]
    simp only [Option.bind_some]
    have hcond : 0 ≤ (s : Int) ∧ (s : Int) < (now.length : Int) := by omega
    have hcond2 : 0 ≤ (k : Int) ∧ (k : Int) < ((gt now (s : Int)).length : Int) := by omega
    rw [if_pos hcond, if_pos hcond2, if_pos (by omega), cost_eq]
    obtain ⟨x, x1, x2, x3⟩ := hco i hi (ob n a s c) (ob n b s c)
    rw [x1]
    simp only [Option.bind_some]
    have hcl := cst_le (n := n) (a := a) (b := b) hco i l hli (by omega)
    have hsn : cst n a b L U V (l ++ [c]) = cst n a b L U V l + costV (ob n a s c) (ob n b s c) (gt L (i : Int)) (U i) (V i) := by
      rw [cst_snoc, hli, hst]
    have hv2 : Val 12 (fadd (gt (gt now (s : Int)) (k : Int)).2 x) (cst n a b L U V (l ++ [c])) := by
      rw [hsn]; exact fadd_val g2 x2 (by decide) (by omega)
    obtain ⟨row', e', y1, y2⟩ := RPt.add hc h (by omega) hli (cs_fresh G.best rfl hs hk hse) hv2
    rw [hst] at y1 y2
    rw [if_pos hcond, if_pos hcond2, g1, if_pos (by simp only [List.length_nil]; omega), if_pos (by simp only [List.length_append, List.length_cons, List.length_nil]; omega), if_pos (by omega), List.nil_append, y1]
    simp only [Option.bind_some]
    rw [if_pos (by omega), Int.toNat_natCast]
    exact ⟨_, e', rfl, y2.congr fun m => Cs.bit rfl hs hk hse hall m⟩
theorem rrun_slot (hc : CodeOK n a b) (hL : L.length ≤ 16384) (hco : HC L U V) (hi : i < L.length) (hla : last ≤ 16384) (G : RG n a b L U V last i now e0) {s k : Nat} (hs : s < 2 ^ (n - 1)) (hk : k < 2) (hkr : k < (gt now (s : Int)).length)
    (h : RPt n a b L U V i th e (Cs n L.length last i e0 s k 0)) :
    ∃ th' e', f_foghornref23_run.s3 (n : Int) (a : Int) (b : Int) L (last : Int) now (i : Int) (s : Int) (th, (k : Int)) = some (.inl (th', ((k + 1 : Nat) : Int))) ∧ RPt n a b L U V i th' e' (Cs n L.length last i e0 s (k + 1) 0) := by
  have hw : IntKind.i64.wrap ((k : Int) + 1) = ((k + 1 : Nat) : Int) := by rw [w64 (by omega) (by omega)]; rfl
  have hnl := G.len
  simp only [f_foghornref23_run.s3, f_foghornref23_run.s3c]
  have hcond : 0 ≤ (s : Int) ∧ (s : Int) < (now.length : Int) := by omega
  rw [if_pos hcond, if_pos (by rw [decide_eq_true_eq]; omega), hw]
  obtain ⟨th1, e1, a1, a2⟩ := rrun_bit hc hL hco hi hla G hs hk hkr (c := false) h
  obtain ⟨th2, e2, b1, b2⟩ := rrun_bit hc hL hco hi hla G hs hk hkr (c := true) a2
  have e9 : loop (f_foghornref23_run.s4 (n : Int) (a : Int) (b : Int) L (last : Int) now (i : Int) (s : Int) (k : Int)) (th2, ((bn true + 1 : Nat) : Int)) = some th2 := loop_done (by
    simp only [f_foghornref23_run.s4, f_foghornref23_run.s4c]
    rw [if_neg (by simp [bn])])
  have e10 : loop (f_foghornref23_run.s4 (n : Int) (a : Int) (b : Int) L (last : Int) now (i : Int) (s : Int) (k : Int)) (th, 0) = some th2 := (loop_step a1).trans ((loop_step b1).trans e9)
  rw [e10]
  simp only [Option.bind_some]
  exact ⟨th2, e2, rfl, b2.congr fun m => Cs.next m⟩
theorem rrun_end (hnl : now.length = 2 ^ (n - 1)) {s k : Nat} (hs : s < 2 ^ (n - 1)) (hk : k = (gt now (s : Int)).length) : f_foghornref23_run.s3 (n : Int) (a : Int) (b : Int) L (last : Int) now (i : Int) (s : Int) (th, (k : Int)) = some (.inr th) := by
  simp only [f_foghornref23_run.s3, f_foghornref23_run.s3c]
  have hcond : 0 ≤ (s : Int) ∧ (s : Int) < (now.length : Int) := by omega
  rw [if_pos hcond, if_neg (by rw [decide_eq_true_eq]; omega)]
theorem rrun_state (hc : CodeOK n a b) (hL : L.length ≤ 16384) (hco : HC L U V) (hi : i < L.length) (hla : last ≤ 16384) (G : RG n a b L U V last i now e0) {s : Nat} (hs : s < 2 ^ (n - 1))
    (h : RPt n a b L U V i th e (Cs n L.length last i e0 s 0 0)) :
    ∃ th' e', f_foghornref23_run.s2 (n : Int) (a : Int) (b : Int) L (last : Int) (((2 ^ (n - 1) : Nat) : Int), 0) now (i : Int) (th, (s : Int)) = some (.inl (th', ((s + 1 : Nat) : Int))) ∧ RPt n a b L U V i th' e' (Cs n L.length last i e0 (s + 1) 0 0) := by
  obtain ⟨q, p1, _, q1, q2, _⟩ := hc.pq
  have main : ∃ th' e', loop (f_foghornref23_run.s3 (n : Int) (a : Int) (b : Int) L (last : Int) now (i : Int) (s : Int)) (th, 0) = some th' ∧ RPt n a b L U V i th' e' (Cs n L.length last i e0 s 2 0) := by
    have hr := G.row s hs
    have hlen : (gt now (s : Int)).length = 0 ∨ (gt now (s : Int)).length = 1 ∨ (gt now (s : Int)).length = 2 := by
      rcases hr.len with ⟨h1, _⟩ | ⟨w, _, h1, _⟩ | ⟨w, z, _, _, h1, _⟩ <;> rw [h1] <;> simp
    rcases hlen with h0 | h0 | h0
    · have n0 := (hr.sl (k := 0) (by decide)).2 (by omega)
      have n1 := (hr.sl (k := 1) (by decide)).2 (by omega)
      exact ⟨th, e, loop_done (rrun_end (k := 0) G.len hs h0.symm), (h.congr fun m => Cs.skip n0 m).congr fun m => Cs.skip n1 m⟩
    · have n1 := (hr.sl (k := 1) (by decide)).2 (by omega)
      obtain ⟨th1, e1, a1, a2⟩ := rrun_slot hc hL hco hi hla G hs (k := 0) (by decide) (by omega) h
      exact ⟨th1, e1, (loop_step a1).trans (loop_done (rrun_end (k := 1) G.len hs h0.symm)), a2.congr fun m => Cs.skip n1 m⟩
    · obtain ⟨th1, e1, a1, a2⟩ := rrun_slot hc hL hco hi hla G hs (k := 0) (by decide) (by omega) h
      obtain ⟨th2, e2, b1, b2⟩ := rrun_slot hc hL hco hi hla G hs (k := 1) (by decide) (by omega) a2
      exact ⟨th2, e2, (loop_step a1).trans ((loop_step b1).trans (loop_done (rrun_end (k := 2) G.len hs h0.symm))), b2⟩
  obtain ⟨th2, e2, m1, m2⟩ := main
  simp only [f_foghornref23_run.s2, f_foghornref23_run.s2c]
  rw [if_pos (by rw [decide_eq_true_eq]; omega), m1]
  simp only [Option.bind_some]
  rw [w64 (by omega) (by omega)]
  exact ⟨th2, e2, rfl, m2.congr fun m => Cs.row m⟩
/-- what was not put is worse than two that were -/
theorem cs_up (hc : CodeOK n a b) (hb : ∀ s : Nat, s < 2 ^ (n - 1) → Best2 (cst n a b L U V) (Mem n L.length last i s) (e0 s).1 (e0 s).2) {s : Nat} {x1 x2 : Option (List Bool)}
    (B0 : Best2 (cst n a b L U V) (fun m => Cs n L.length last i e0 (2 ^ (n - 1)) 0 0 m ∧ st n m (i + 1) = s) x1 x2) : Best2 (cst n a b L U V) (Mem n L.length last (i + 1) s) x1 x2 := by
  refine B0.up (fun m hm => ?_) (fun m hm => ?_)
  · obtain ⟨⟨s0, k0, c0, l0, h1, h2, h3, h4, h5, _⟩, h7⟩ := hm
    have hM := Best2.sl h2 (hb s0 h1) h3
    subst h4
    exact ⟨hM.1.snoc h5, h7⟩
  · obtain ⟨l, c, rfl, hl⟩ := snoc_of hm.1.1
    obtain ⟨hA, hall⟩ := hm.1.of_snoc
    have hs0 := st_lt hc l i
    have hput : ∀ {k : Nat} {l1 : List Bool}, k < 2 → sle e0 (st n l i) k = some l1 → Cs n L.length last i e0 (2 ^ (n - 1)) 0 0 (l1 ++ [c]) ∧ st n (l1 ++ [c]) (i + 1) = s ∧ l1.length = l.length ∧ st n l1 l1.length = st n l l.length := by
      intro k l1 hk h1
      have hM := Best2.sl hk (hb _ hs0) h1
      have e1 : l1.length = i := hM.1.1
      refine ⟨⟨_, k, c, l1, hs0, hk, h1, rfl, hall, .inl hs0⟩, ?_, by omega, by rw [e1, hl]; exact hM.2⟩
      have q1 := st_snoc (n := n) l1 c
      have q2 := st_snoc (n := n) l c
      rw [e1] at q1; rw [hl] at q2
      rw [q1, hM.2, ← q2]; exact hm.2
    have B := hb _ hs0
    have hMl : Mem n L.length last i (st n l i) l := ⟨hA, rfl⟩
    cases h1 : (e0 (st n l i)).1 with
    | none => rw [h1] at B; exact absurd hMl (B.none1.2 l)
    | some l1 =>
      obtain ⟨c1, c2, c3, c4⟩ := hput (k := 0) (by decide) h1
      cases h2 : (e0 (st n l i)).2 with
      | none =>
        rw [h1, h2] at B
        have : l = l1 := B.2 l hMl
        subst this
        exact .inl ⟨c1, c2⟩
      | some l2 =>
        obtain ⟨d1, d2, d3, d4⟩ := hput (k := 1) (by decide) h2
        rw [h1, h2] at B
        rcases B.2.2.2 l hMl with h | h | h
        · subst h; exact .inl ⟨c1, c2⟩
        · subst h; exact .inl ⟨d1, d2⟩
        · refine .inr ⟨_, _, ⟨c1, c2⟩, ⟨d1, d2⟩, fun h9 => ?_, Lt_snoc c c3 c4 (B.2.2.1.trans h), Lt_snoc c d3 d4 h⟩
          have := List.append_cancel_right h9
          rw [this] at B
          exact B.2.2.1.irrefl
theorem rrun_gen (hc : CodeOK n a b) (hL : L.length ≤ 16384) (hco : HC L U V) (hi : i < L.length) (hla : last ≤ 16384) (G : RG n a b L U V last i now e0) :
    ∃ th' e', f_foghornref23_run.s1 (n : Int) (a : Int) (b : Int) L (last : Int) (((2 ^ (n - 1) : Nat) : Int), 0) (now, (i : Int)) = some (.inl (th', ((i + 1 : Nat) : Int))) ∧ RG n a b L U V last (i + 1) th' e' := by
  obtain ⟨q, p1, _, q1, q2, _⟩ := hc.pq
  have main : ∀ c s : Nat, s + c = 2 ^ (n - 1) → ∀ th1 e1, RPt n a b L U V i th1 e1 (Cs n L.length last i e0 s 0 0) →
      ∃ th' e', loop (f_foghornref23_run.s2 (n : Int) (a : Int) (b : Int) L (last : Int) (((2 ^ (n - 1) : Nat) : Int), 0) now (i : Int)) (th1, (s : Int)) = some th' ∧ RPt n a b L U V i th' e' (Cs n L.length last i e0 (2 ^ (n - 1)) 0 0) := by
    intro c
    induction c with
    | zero =>
      intro s hs th1 e1 h
      have : s = 2 ^ (n - 1) := by omega
      subst this
      refine ⟨th1, e1, loop_done ?_, h⟩
      simp only [f_foghornref23_run.s2, f_foghornref23_run.s2c]
      rw [if_neg (by rw [decide_eq_true_eq]; omega)]
    | succ c ih =>
      intro s hs th1 e1 h
      obtain ⟨th2, e2, a1, a2⟩ := rrun_state hc hL hco hi hla G (by omega) h
      obtain ⟨th3, e3, b1, b2⟩ := ih (s + 1) (by omega) th2 e2 a2
      exact ⟨th3, e3, (loop_step a1).trans b1, b2⟩
  have no : ∀ m, ¬ Cs n L.length last i e0 0 0 0 m := by
    rintro m ⟨s0, k0, c0, l0, _, _, _, _, _, h6⟩; omega
  obtain ⟨th1, e1, a1, a2⟩ := main (2 ^ (n - 1)) 0 (by omega) (List.replicate (2 ^ (n - 1)) []) (fun _ => (none, none)) ⟨by simp, fun s hs => by rw [gt_nat (by simpa using hs)]; simp [RowR], fun s hs m hm => no m hm.1, fun m hm => absurd hm (no m)⟩
  refine ⟨th1, e1, ?_, a2.len, a2.row, fun s hs => cs_up hc G.best (a2.best s hs)⟩
  simp only [f_foghornref23_run.s1, f_foghornref23_run.s1c]
  rw [if_pos (by rw [decide_eq_true_eq]; omega), if_pos (by omega), Int.toNat_natCast]
  have a1' : loop (f_foghornref23_run.s2 (n : Int) (a : Int) (b : Int) L (last : Int) (((2 ^ (n - 1) : Nat) : Int), 0) now (i : Int)) (List.replicate (2 ^ (n - 1)) ([] : List (List Bool × Fl)), 0) = some th1 := a1
  rw [a1']
  simp only [Option.bind_some]
  rw [w64 (by omega) (by omega)]; rfl
theorem rrun_ok (hc : CodeOK n a b) (hm : f_foghornref21_May (n : Int) (a : Int) (b : Int) = some true) (hL : L.length ≤ 16384) (hco : HC L U V) (hla : last ≤ 16384) :
    ∃ now e, f_foghornref23_run (n : Int) (a : Int) (b : Int) L (last : Int) = some now ∧ RG n a b L U V last L.length now e := by
  obtain ⟨q, p1, _, q1, q2, _⟩ := hc.pq
  have main : ∀ c i : Nat, i + c = L.length → ∀ now e, RG n a b L U V last i now e →
      ∃ now' e', loop (f_foghornref23_run.s1 (n : Int) (a : Int) (b : Int) L (last : Int) (((2 ^ (n - 1) : Nat) : Int), 0)) (now, (i : Int)) = some now' ∧ RG n a b L U V last L.length now' e' := by
    intro c
    induction c with
    | zero =>
      intro i hi now e h
      have : i = L.length := by omega
      subst this
      refine ⟨now, e, loop_done ?_, h⟩
      simp only [f_foghornref23_run.s1, f_foghornref23_run.s1c]
      rw [if_neg (by rw [decide_eq_true_eq]; omega)]
    | succ c ih =>
      intro i hi now e h
      obtain ⟨t1, e1, a1, a2⟩ := rrun_gen hc hL hco (by omega) hla h
      obtain ⟨t2, e2, b1, b2⟩ := ih (i + 1) (by omega) t1 e1 a2
      exact ⟨t2, e2, (loop_step a1).trans b1, b2⟩
  obtain ⟨now, e, a1, a2⟩ := main L.length 0 (by omega) ((List.replicate (2 ^ (n - 1)) ([] : List RW)).set 0 [([], Fl.bits 0)]) (fun s => if s = 0 then (some [], none) else (none, none)) ⟨by simp, fun s hs => by
      rw [gt_setG (by simp; omega) (by simpa using hs)]
      by_cases h0 : 0 = s
      · rw [if_pos h0, if_pos h0.symm]
        exact ⟨rfl, zero_val 12⟩
      · rw [if_neg h0, if_neg (Ne.symm h0), gt_nat (by simpa using hs)]
        simp [RowR], fun s hs => by
      by_cases h0 : s = 0
      · subst h0
        simp only [if_true]
        exact ⟨⟨⟨rfl, fun t ht => by omega⟩, rfl⟩, fun l hl => List.length_eq_zero_iff.1 hl.1.1⟩
      · simp only [if_neg h0]
        intro l hl
        exact h0 hl.2.symm⟩
  refine ⟨now, e, ?_, a2⟩
  unfold f_foghornref23_run
  rw [rstates_ok hc hm]
  simp only [Option.bind_some]
  rw [if_pos (by omega), if_pos (by rw [List.length_replicate]; omega), Int.toNat_natCast]
  have a1' : loop (f_foghornref23_run.s1 (n : Int) (a : Int) (b : Int) L (last : Int) (((2 ^ (n - 1) : Nat) : Int), 0)) ((List.replicate (2 ^ (n - 1)) ([] : List (List Bool × Fl))).set ((0 : Int)).toNat [([], Fl.bits 0)], 0) = some now := a1
  rw [a1']; rfl
end
theorem same02 {L : List ((Fl × Fl) × Bool)} {U V : Nat → Int} (h : SR L U V) (hl : L.length ≤ 1048576) : f_foghornref02_Same L L = some true := by
  unfold f_foghornref02_Same
  rw [if_neg (by simp)]
  have : loop (f_foghornref02_Same.s1 L L) 0 = some (.inl ()) := by
    refine loop_for1 L.length (Sum.inl ()) (fun i hi => ?_) ?_
    · simp only [f_foghornref02_Same.s1, f_foghornref02_Same.s1c]
      have hs := h i hi
      have hc : ceq (gt L (i : Int)).1 (gt L (i : Int)).1 = true := by
        unfold ceq
        rw [feq_val hs.re hs.re, feq_val hs.im hs.im]; rfl
      rw [if_pos (by rw [decide_eq_true_eq]; omega), if_pos (by omega), if_pos (by omega), if_neg (by simp), if_pos (by omega), if_pos (by omega), hc]
      simp only [Option.bind_some, Bool.not_true, Bool.false_eq_true, if_false]
      rw [w64 (by omega) (by omega)]; rfl
    · simp only [f_foghornref02_Same.s1, f_foghornref02_Same.s1c]
      rw [if_neg (by simp)]
  rw [this]; rfl
theorem gt_app {α : Type} [Inhabited α] (l : List α) (c : α) : gt (l ++ [c]) (l.length : Int) = c := by
  rw [gt_nat (by simp), List.getElem_append_right (Nat.le_refl _)]; simp
theorem set_loop2 {α : Type} [Inhabited α] {f : List α × Int → Option ((List α × Int) ⊕ List α)} (S D : List α) (hSD : S.length = D.length) (hl : (D.length : Int) < 9223372036854775807)
    (h1 : ∀ (i : Nat) (hi : i < D.length) (T : List α), T.length = D.length → gt T (i : Int) = gt S (i : Int) → f (T, (i : Int)) = some (.inl (T.set i D[i], IntKind.i64.wrap ((i : Int) + 1)))) (h2 : f (D, (D.length : Int)) = some (.inr D)) :
    loop f (S, 0) = some D := by
  have := lst (f := f) D.length (fun i => (D.take i ++ S.drop i, (i : Int))) D (fun i hi => ?_) ?_
  · simpa using this
  · rw [h1 i hi _ (by simp; omega) (by
      rw [gt_nat (by simp; omega), gt_nat (by omega), List.getElem_append_right (by simp; omega)]
      simp only [List.length_take, List.getElem_drop]
      congr 1; omega), w64 (by omega) (by omega)]
    have : (D.take i ++ S.drop i).set i D[i] = D.take (i + 1) ++ S.drop (i + 1) := by
      rw [List.set_append_right _ _ (by simp; omega)]
      have e : i - (D.take i).length = 0 := by simp; omega
      rw [e, List.drop_eq_getElem_cons (by omega), List.set_cons_zero, List.take_succ_eq_append_getElem hi, List.append_assoc]; rfl
    rw [this]; rfl
  · rw [List.take_length, List.drop_eq_nil_of_le (by omega), List.append_nil]; exact h2
/-! ### Decoding, both -/
theorem chk_both {Le o t : Int} (w0 : (Lit.int .i64 Le).wf = true) (w1 : (Lit.int .u32 o).wf = true) (w2 : (Lit.int .u32 t).wf = true) {L : List ((Fl × Fl) × Bool)} {U V : Nat → Int} (h : SR L U V) (hL : L.length ≤ 16384) (least : Int) :
    ∃ e : Int, f_soft_check Le o t L least = some e ∧ f_foghornref23_wrong Le o t L least = some e ∧ (e ≠ 0 ∨ (e = 0 ∧ ¬ (L.length : Int) < least ∧ ∃ n a b : Nat, Le = (n : Int) ∧ o = (a : Int) ∧ t = (b : Int) ∧ CodeOK n a b ∧ f_foghornref21_May Le o t = some true ∧ gal (mf L U V) L.length = true)) := by
  unfold f_soft_check f_foghornref23_wrong
  rcases code_dich w0 w1 w2 with ⟨n, a, b, rfl, rfl, rfl, hc, hm⟩ | ⟨hc, hm⟩
  · rw [check_ok hc, hm]
    simp only [Option.bind_some]
    by_cases hl : (L.length : Int) < least
    · rw [if_pos (by simp [hl]), if_pos (by simp [hl])]
      exact ⟨1, rfl, rfl, .inl (by decide)⟩
    · rw [if_neg (by simp only [bne_self_eq_false, Bool.false_or, Bool.or_eq_true, decide_eq_true_eq]; omega), if_neg (by simp only [Bool.not_true, Bool.false_or, Bool.or_eq_true, decide_eq_true_eq]; omega)]
      obtain ⟨x, hx⟩ := grid_c h hL
      rw [hx, grid_r h hL]
      simp only [Option.bind_some]
      cases ha : gal (mf L U V) L.length
      · exact ⟨7, rfl, rfl, .inl (by decide)⟩
      · exact ⟨0, rfl, rfl, .inr ⟨rfl, hl, n, a, b, rfl, rfl, rfl, hc, by first | rfl | trivial | exact hm, by first | rfl | trivial⟩⟩
  · rw [hc, hm]
    exact ⟨1, rfl, rfl, .inl (by decide)⟩
section
variable {n a b : Nat} {L : List ((Fl × Fl) × Bool)} {U V : Nat → Int}
theorem rdec_ok (hc : CodeOK n a b) (hmay : f_foghornref21_May (n : Int) (a : Int) (b : Int) = some true) (h : SR L U V) (hL : L.length ≤ 16384) (ha : gal (mf L U V) L.length = true) (hw : f_foghornref23_wrong (n : Int) (a : Int) (b : Int) L (IntKind.i64.wrap ((n : Int) - 1)) = some 0) {M : Nat} (hM : M + (n - 1) = L.length) :
    ∃ m x y sm, f_foghornref23_Decode (n : Int) (a : Int) (b : Int) L = some (m, x, y, sm, 0) ∧ m.length = M ∧ Val 12 x (mc n a b L U V m) ∧ (∀ m', m'.length = M → m' = m ∨ MLt n a b L U V m m') ∧
      ((sm = false ∧ ∀ m', m'.length = M → m' = m) ∨
       ∃ m2 x2, sm = true ∧ y = fsub x2 x ∧ m2.length = M ∧ m2 ≠ m ∧ Val 12 x2 (mc n a b L U V m2) ∧ ∀ m', m'.length = M → m' = m ∨ m' = m2 ∨ MLt n a b L U V m2 m') := by
  have n2 := hc.n2; have n7 := hc.n7
  obtain ⟨q, p1, _, q1, q2, _⟩ := hc.pq
  obtain ⟨now, e, r1, G⟩ := rrun_ok (last := n - 1) hc hmay hL (HC_of h ha) (by omega)
  have hn1 : IntKind.i64.wrap ((n : Int) - 1) = ((n - 1 : Nat) : Int) := by rw [w64 (by omega) (by omega)]; omega
  have B := G.best 0 (by omega)
  have R := G.row 0 (by omega)
  have hnl := G.len
  have e2 : IntKind.i64.wrap (IntKind.i64.wrap ((L.length : Int) - (n : Int)) + 1) = (M : Int) := by
    rw [w64 (x := (L.length : Int) - n) (by omega) (by omega), w64 (by omega) (by omega)]; omega
  have hz : (List.replicate M false).length + (n - 1) = L.length := by simp; exact hM
  unfold f_foghornref23_Decode
  rw [hw]
  simp only [Option.bind_some]
  rw [if_neg (by simp), hn1, r1]
  simp only [Option.bind_some]
  have c0 : 0 ≤ (0 : Int) ∧ (0 : Int) < (now.length : Int) := by omega
  rw [if_pos c0, e2]
  have cutm : ∀ l : List Bool, Mem n L.length (n - 1) L.length 0 l → ∃ m, m = ((l.drop 0).take ((M : Int).toNat - 0)) ∧ l = ext n m ∧ m.length = M := fun l hl => by
    obtain ⟨x1, x2⟩ := mem_ext (by omega) hl
    refine ⟨_, rfl, ?_, ?_⟩
    · have e3 : (l.drop 0).take ((M : Int).toNat - 0) = l.take (L.length - (n - 1)) := by simp; congr 1; omega
      rw [e3]; exact x1
    · have := hl.1.1; simp; omega
  rw [show ((0 : Nat) : Int) = 0 from rfl] at R
  rcases R.len with ⟨h1, h2, h3⟩ | ⟨w, l, h1, h2, h3, h4, h5⟩ | ⟨w, z, l, l2, h1, h2, h3, h4, h5, h6, h7⟩
  · rw [h2] at B; exact absurd (ext_mem hc hz) (B.none1.2 _)
  · rw [h2, h3] at B
    obtain ⟨m, m1, m2, m3⟩ := cutm l B.1
    rw [h1]
    have g0 : gt [w] (0 : Int) = w := rfl
    rw [if_pos (by simp), g0, h4, if_pos (by have := B.1.1.1; omega), if_pos (by simp), if_pos (by simp), ← m1]
    refine ⟨m, w.2, Fl.bits 0, false, rfl, m3, ?_, fun m' hm' => ?_, .inl ⟨rfl, fun m' hm' => ?_⟩⟩
    · rw [m2, ext_cst (by omega)] at h5; exact h5
    · left
      have h2 := B.2 _ (ext_mem hc (m := m') (by omega))
      rw [m2] at h2
      exact List.append_cancel_right h2
    · have h2 := B.2 _ (ext_mem hc (m := m') (by omega))
      rw [m2] at h2
      exact List.append_cancel_right h2
  · rw [h2, h3] at B
    obtain ⟨m, m1, m2, m3⟩ := cutm l B.1
    obtain ⟨k, k1, k2, k3⟩ := cutm l2 B.2.1
    rw [h1]
    have g0 : gt [w, z] (0 : Int) = w := rfl
    have g1 : gt [w, z] (1 : Int) = z := rfl
    rw [if_pos (by simp), g0, g1, h4, if_pos (by have := B.1.1.1; omega), if_neg (by simp), if_pos (by simp), if_pos (by simp), if_pos (by simp), ← m1]
    have B3 := B.2.2.1
    rw [m2, k2, MLt_ext (by omega) (by omega)] at B3
    refine ⟨m, w.2, fsub z.2 w.2, true, rfl, m3, ?_, fun m' hm' => ?_, .inr ⟨k, z.2, rfl, rfl, k3, fun e9 => ?_, ?_, fun m' hm' => ?_⟩⟩
    · rw [m2, ext_cst (by omega)] at h5; exact h5
    · rcases B.2.2.2 _ (ext_mem hc (m := m') (by omega)) with h2 | h2 | h2
      · left; rw [m2] at h2; exact List.append_cancel_right h2
      · right; rw [k2] at h2; rw [List.append_cancel_right h2]; exact B3
      · right
        rw [k2, MLt_ext (by omega) (by omega)] at h2
        unfold MLt at *; omega
    · rw [e9] at B3; unfold MLt at B3; omega
    · rw [k2, ext_cst (by omega)] at h7; exact h7
    · rcases B.2.2.2 _ (ext_mem hc (m := m') (by omega)) with h2 | h2 | h2
      · left; rw [m2] at h2; exact List.append_cancel_right h2
      · right; left; rw [k2] at h2; exact List.append_cancel_right h2
      · right; right
        rw [k2, MLt_ext (by omega) (by omega)] at h2
        exact h2
theorem rends_ok (hc : CodeOK n a b) (hmay : f_foghornref21_May (n : Int) (a : Int) (b : Int) = some true) (h : SR L U V) (hL : L.length ≤ 16384) (ha : gal (mf L U V) L.length = true) (hw : f_foghornref23_wrong (n : Int) (a : Int) (b : Int) L 0 = some 0) :
    ∃ E, f_foghornref23_Ends (n : Int) (a : Int) (b : Int) L = some (E, 0) ∧ E.length = 2 ^ (n - 1) ∧ ∀ s : Nat, s < 2 ^ (n - 1) → ∃ o, EV (gt E (s : Int)) o ∧ Min (CS n a b L U V L.length s) o := by
  obtain ⟨q, p1, _, q1, q2, _⟩ := hc.pq
  obtain ⟨now, e, r1, G⟩ := rrun_ok (last := 0) hc hmay hL (HC_of h ha) (by omega)
  have hnl := G.len
  obtain ⟨E, hE⟩ : ∃ E : List Fl, E = now.map fun row => match row with | [] => infF | w :: _ => w.2 := ⟨_, rfl⟩
  have hEl : E.length = 2 ^ (n - 1) := by rw [hE]; simp [hnl]
  have hEg : ∀ s : Nat, s < 2 ^ (n - 1) → gt E (s : Int) = match gt now (s : Int) with | [] => infF | w :: _ => w.2 := fun s hs => by
    rw [gt_nat (by omega), gt_nat (by omega)]; simp [hE]
  refine ⟨E, ?_, hEl, fun s hs => ?_⟩
  · unfold f_foghornref23_Ends
    rw [hw]
    simp only [Option.bind_some]
    rw [if_neg (by simp), show (0 : Int) = ((0 : Nat) : Int) from rfl, r1]
    simp only [Option.bind_some]
    have hloop : loop (f_foghornref23_Ends.s1 now) ([], 0) = some E := by
      refine app_loop E (by omega) (fun i hi T hT => ?_) ?_
      · have hg := hEg i (by omega)
        rw [gt_nat hi] at hg
        rw [hg]
        simp only [f_foghornref23_Ends.s1, f_foghornref23_Ends.s1c]
        have c0 : 0 ≤ (i : Int) ∧ (i : Int) < (now.length : Int) := by omega
        rw [if_pos (by rw [decide_eq_true_eq]; omega), inf_ok]
        simp only [Option.bind_some]
        rw [if_pos c0]
        cases hr : gt now (i : Int) with
        | nil => rw [if_neg (by simp), if_pos (by simp only [List.length_cons, List.length_nil]; omega)]
        | cons w r =>
          have g0 : gt (w :: r) (0 : Int) = w := rfl
          rw [if_pos (by simp only [List.length_cons, decide_eq_true_eq]; omega), if_pos c0, if_pos (by simp only [List.length_cons]; omega), g0, if_pos (by simp only [List.length_cons, List.length_nil]; omega)]
      · simp only [f_foghornref23_Ends.s1, f_foghornref23_Ends.s1c]
        rw [if_neg (by rw [decide_eq_true_eq]; omega)]
    exact bnd_eq hloop rfl
  · have R := G.row s hs
    have B := G.best s hs
    rw [hEg s hs]
    rcases R.len with ⟨h1, h2, h3⟩ | ⟨w, l, h1, h2, h3, h4, h5⟩ | ⟨w, z, l, l2, h1, h2, h3, h4, h5, h6, h7⟩
    · rw [h1]
      rw [h2] at B
      exact ⟨none, rfl, fun k ⟨l, k1, k2, _⟩ => B.none1.2 l (mem0.2 ⟨k1, k2⟩)⟩
    · rw [h1]
      rw [h2] at B
      have B := B.fst
      obtain ⟨k1, k2⟩ := mem0.1 B.1
      refine ⟨some (cst n a b L U V l), h5, ⟨l, k1, k2, rfl⟩, ?_⟩
      rintro k' ⟨l', g1, g2, rfl⟩
      rcases B.2 l' (mem0.2 ⟨g1, g2⟩) with e1 | e1
      · rw [e1]; exact Int.le_refl _
      · unfold Lt at e1; omega
    · rw [h1]
      rw [h2] at B
      have B := B.fst
      obtain ⟨k1, k2⟩ := mem0.1 B.1
      refine ⟨some (cst n a b L U V l), h5, ⟨l, k1, k2, rfl⟩, ?_⟩
      rintro k' ⟨l', g1, g2, rfl⟩
      rcases B.2 l' (mem0.2 ⟨g1, g2⟩) with e1 | e1
      · rw [e1]; exact Int.le_refl _
      · unfold Lt at e1; omega
end
theorem MLt.asymm {n a b : Nat} {L : List ((Fl × Fl) × Bool)} {U V : Nat → Int} {m m' : List Bool} (h : MLt n a b L U V m m') (h' : MLt n a b L U V m' m) : False := by unfold MLt at *; omega
theorem z_ne : fne (Fl.bits 0) (Fl.bits 0) = false := by decide +kernel
theorem dec_both {Le o t : Int} (w0 : (Lit.int .i64 Le).wf = true) (w1 : (Lit.int .u32 o).wf = true) (w2 : (Lit.int .u32 t).wf = true) {L : List ((Fl × Fl) × Bool)} {U V : Nat → Int} (h : SR L U V) (hL : L.length ≤ 16384) :
    ∃ (A : List Bool) (y m c mg : Fl) (g e : Int) (sm : Bool), f_soft_Decode Le o t L = some (A, y, e) ∧ f_foghornref23_Decode Le o t L = some (A, c, mg, sm, e) ∧ f_soft_Margin Le o t L = some (m, g) ∧ fne y c = false ∧ A.length ≤ 16384 ∧
      ((e ≠ 0 ∧ g = e ∧ fne m (Fl.bits 0) = false) ∨ (e = 0 ∧ sm = false ∧ g = 6 ∧ fne m (Fl.bits 0) = false) ∨ (e = 0 ∧ sm = true ∧ g = 0 ∧ fne m mg = false)) := by
  obtain ⟨e, k1, k2, k3⟩ := chk_both w0 w1 w2 h hL (IntKind.i64.wrap (Le - 1))
  rcases k3 with k3 | ⟨rfl, k4, n, a, b, rfl, rfl, rfl, hc, hmay, ha⟩
  · refine ⟨[], Fl.bits 0, Fl.bits 0, Fl.bits 0, Fl.bits 0, e, e, false, ?_, ?_, ?_, z_ne, by simp, .inl ⟨k3, rfl, z_ne⟩⟩
    · unfold f_soft_Decode; rw [k1]; simp only [Option.bind_some]; rw [if_pos (by simpa using k3)]
    · unfold f_foghornref23_Decode; rw [k2]; simp only [Option.bind_some]; rw [if_pos (by simpa using k3)]
    · unfold f_soft_Margin; rw [k1]; simp only [Option.bind_some]; rw [if_pos (by simpa using k3)]
  · have n2 := hc.n2; have n7 := hc.n7
    rw [w64 (x := (n : Int) - 1) (by omega) (by omega)] at k4
    obtain ⟨M, hM⟩ : ∃ M, M + (n - 1) = L.length := ⟨L.length - (n - 1), by omega⟩
    obtain ⟨m, x, d1, d2, d3, d4, d5⟩ := soft_both hc h hL ha hM
    obtain ⟨m', x', y', sm, r1, r2, r3, r4, r5⟩ := rdec_ok hc hmay h hL ha k2 hM
    have hmm : m' = m := by
      rcases d4 m' r2 with e | e
      · exact e
      · rcases r4 m d2 with e' | e'
        · exact e'.symm
        · exact (e.asymm e').elim
    subst hmm
    have hx : fne x x' = false := by rw [fne_dec d3 r3, decide_eq_true rfl]; rfl
    rcases d5 with ⟨e1, e2⟩ | ⟨m2, x2, e1, e2, e3, e4, e5⟩
    · refine ⟨m', x, Fl.bits 0, x', y', 6, 0, sm, d1, r1, e1, hx, by omega, .inr (.inl ⟨rfl, ?_, rfl, z_ne⟩)⟩
      rcases r5 with ⟨s1, _⟩ | ⟨k, _, s1, s2, s3, s4, _⟩
      · exact s1
      · exact absurd (e2 k s3) s4
    · rcases r5 with ⟨s1, s2⟩ | ⟨k, xk, s1, s2, s3, s4, s5, s6⟩
      · exact absurd (s2 m2 e2) e3
      · have hk : k = m2 := by
          rcases e5 k s3 with e | e | e
          · exact absurd e s4
          · exact e
          · rcases s6 m2 e2 with e' | e' | e'
            · exact absurd e' e3
            · exact e'.symm
            · exact (e.asymm e').elim
        subst hk
        obtain ⟨_, _, _, b1⟩ := path_ok hc h hL ha (m := k) (by omega)
        obtain ⟨_, _, _, b2⟩ := path_ok hc h hL ha (m := m') (by omega)
        have hb : (mc n a b L U V k - mc n a b L U V m').natAbs < 9007199254740992 := by omega
        refine ⟨m', x, fsub x2 x, x', y', 0, 0, sm, d1, r1, e1, hx, by omega, .inr (.inr ⟨rfl, s1, rfl, ?_⟩)⟩
        rw [s2, fne_dec (fsub_val e4 d3 (by decide) hb) (fsub_val s5 r3 (by decide) hb), decide_eq_true rfl]; rfl
theorem ends_both {Le o t : Int} (w0 : (Lit.int .i64 Le).wf = true) (w1 : (Lit.int .u32 o).wf = true) (w2 : (Lit.int .u32 t).wf = true) {L : List ((Fl × Fl) × Bool)} {U V : Nat → Int} (h : SR L U V) (hL : L.length ≤ 16384) :
    ∃ (u v : List Fl) (e : Int), f_soft_Ends Le o t L = some (u, e) ∧ f_foghornref23_Ends Le o t L = some (v, e) ∧ u.length = v.length ∧ u.length ≤ 64 ∧ ∀ k : Nat, k < u.length → fne (gt u (k : Int)) (gt v (k : Int)) = false := by
  obtain ⟨e, k1, k2, k3⟩ := chk_both w0 w1 w2 h hL 0
  rcases k3 with k3 | ⟨rfl, k4, n, a, b, rfl, rfl, rfl, hc, hmay, ha⟩
  · refine ⟨[], [], e, ?_, ?_, rfl, by simp, fun k hk => by simp at hk⟩
    · unfold f_soft_Ends; rw [k1]; simp only [Option.bind_some]; rw [if_pos (by simpa using k3)]
    · unfold f_foghornref23_Ends; rw [k2]; simp only [Option.bind_some]; rw [if_pos (by simpa using k3)]
  · obtain ⟨q, p1, _, q1, q2, _⟩ := hc.pq
    obtain ⟨E, e1, e2, e3⟩ := ends_min hc h hL ha
    obtain ⟨R, r1, r2, r3⟩ := rends_ok hc hmay h hL ha k2
    refine ⟨E, R, 0, e1, r1, by omega, by omega, fun k hk => ?_⟩
    obtain ⟨o1, g1, g2⟩ := e3 k (by omega)
    obtain ⟨o2, g3, g4⟩ := r3 k (by omega)
    have := g2.uniq g4
    subst this
    exact fne_ev g1 g3
/-! ### The rounds -/
theorem dec_s2 {u v w : List Fl} {e : Int} (hv : u.length = v.length) (hw : u.length = w.length) (hl : u.length ≤ 64) (h1 : ∀ k : Nat, k < u.length → fne (gt u (k : Int)) (gt v (k : Int)) = false) (h2 : ∀ k : Nat, k < u.length → fne (gt w (k : Int)) (gt v (k : Int)) = false) :
    ∃ x, loop (f_foghornlaw23_SoftDecides.s2 (v, e) (w, e)) (u, 0) = some (.inl x) ∧ x.length = u.length := by
  have key : ∀ r k : Nat, k + r = u.length → ∀ X : List Fl, X.length = u.length → (∀ j : Nat, k ≤ j → j < u.length → gt X (j : Int) = gt u (j : Int)) → ∃ x, loop (f_foghornlaw23_SoftDecides.s2 (v, e) (w, e)) (X, (k : Int)) = some (.inl x) ∧ x.length = u.length := by
    intro r
    induction r with
    | zero =>
      intro k hk X hX _
      refine ⟨X, loop_done ?_, hX⟩
      simp only [f_foghornlaw23_SoftDecides.s2, f_foghornlaw23_SoftDecides.s2c]
      rw [if_neg (by rw [decide_eq_true_eq]; omega)]
    | succ r ih =>
      intro k hk X hX hg
      obtain ⟨x, x1, x2⟩ := ih (k + 1) (by omega) (X.set k (Fl.bits 4632937379169042432)) (by simpa using hX) (fun j hj hj2 => by rw [gt_setG (by omega) (by omega), if_neg (by omega)]; exact hg j (by omega) hj2)
      refine ⟨x, (loop_step ?_).trans x1, x2⟩
      have cx : 0 ≤ (k : Int) ∧ (k : Int) < (X.length : Int) := by omega
      have cv : 0 ≤ (k : Int) ∧ (k : Int) < (v.length : Int) := by omega
      have cw : 0 ≤ (k : Int) ∧ (k : Int) < (w.length : Int) := by omega
      simp only [f_foghornlaw23_SoftDecides.s2, f_foghornlaw23_SoftDecides.s2c]
      rw [if_pos (by rw [decide_eq_true_eq]; omega), if_pos cx, if_pos cv, hg k (Nat.le_refl _) (by omega), h1 k (by omega), if_neg (by decide), if_pos cx, if_pos cw, if_pos cv, h2 k (by omega), if_neg (by decide), w64 (by omega) (by omega), Int.toNat_natCast]; rfl
  exact key u.length 0 (by omega) u rfl (fun _ _ _ => rfl)
theorem dec_s3 (A : List Bool) (hA : A.length ≤ 16384) : ∃ B, loop f_foghornlaw23_SoftDecides.s3 (A, 0) = some B ∧ B.length = A.length := by
  have key : ∀ r k : Nat, k + r = A.length → ∀ X : List Bool, X.length = A.length → ∃ x, loop f_foghornlaw23_SoftDecides.s3 (X, (k : Int)) = some x ∧ x.length = A.length := by
    intro r
    induction r with
    | zero =>
      intro k hk X hX
      refine ⟨X, loop_done ?_, hX⟩
      simp only [f_foghornlaw23_SoftDecides.s3, f_foghornlaw23_SoftDecides.s3c]
      rw [if_neg (by rw [decide_eq_true_eq]; omega)]
    | succ r ih =>
      intro k hk X hX
      obtain ⟨x, x1, x2⟩ := ih (k + 1) (by omega) (X.set k (!(gt X (k : Int)))) (by simpa using hX)
      refine ⟨x, (loop_step ?_).trans x1, x2⟩
      simp only [f_foghornlaw23_SoftDecides.s3, f_foghornlaw23_SoftDecides.s3c]
      rw [if_pos (by rw [decide_eq_true_eq]; omega), if_pos (by omega), if_pos (by omega), w64 (by omega) (by omega), Int.toNat_natCast]; rfl
  exact key A.length 0 (by omega) A rfl
theorem dec_s4 (A : List Bool) (u : List Fl) (hA : A.length ≤ 16384) (hu : u.length ≤ 64) : loop f_foghornlaw23_SoftDecides.s4 (A, u, 0) = some () := by
  have key : ∀ r k : Nat, k + r = 20 → ∀ (X : List Bool) (Y : List Fl), X.length ≤ A.length + k → Y.length ≤ u.length + k → loop f_foghornlaw23_SoftDecides.s4 (X, Y, (k : Int)) = some () := by
    intro r
    induction r with
    | zero =>
      intro k hk X Y _ _
      refine loop_done ?_
      simp only [f_foghornlaw23_SoftDecides.s4, f_foghornlaw23_SoftDecides.s4c]
      rw [if_neg (by rw [decide_eq_true_eq]; omega)]
    | succ r ih =>
      intro k hk X Y hX hY
      refine (loop_step ?_).trans (ih (k + 1) (by omega) (X ++ [true]) (Y ++ [Fl.bits 4634344754052595712]) (by simp; omega) (by simp; omega))
      simp only [f_foghornlaw23_SoftDecides.s4, f_foghornlaw23_SoftDecides.s4c]
      rw [if_pos (by rw [decide_eq_true_eq]; omega), if_pos (by simp only [List.length_cons, List.length_nil]; omega), if_pos (by simp only [List.length_cons, List.length_nil]; omega), w64 (by omega) (by omega)]; rfl
  exact key 20 0 (by omega) A u (by omega) (by omega)
def rotS (s : (Fl × Fl) × Bool) : (Fl × Fl) × Bool := ((s.1.2, fsub (Fl.bits 0) s.1.1), s.2)
theorem dec_s5 (l : List (Int × Int × Bool)) (L : List ((Fl × Fl) × Bool)) (hl : L.length = l.length) (h60 : l.length ≤ 60) : loop (f_foghornlaw23_SoftDecides.s5 l) (L, 0) = some (L.map rotS) := by
  refine set_loop2 _ _ (by simp) (by simp; omega) (fun i hi X hX hg => ?_) ?_
  · rw [List.length_map] at hi hX
    simp only [f_foghornlaw23_SoftDecides.s5, f_foghornlaw23_SoftDecides.s5c]
    rw [if_pos (by rw [decide_eq_true_eq]; omega), if_pos (by omega), if_pos (by omega), if_pos (by omega), hg, Int.toNat_natCast, gt_nat hi]
    simp [rotS]
  · simp only [f_foghornlaw23_SoftDecides.s5, f_foghornlaw23_SoftDecides.s5c]
    rw [if_neg (by simp [hl])]
theorem rot_sr {L : List ((Fl × Fl) × Bool)} {U V : Nat → Int} (h : SR L U V) : SR (L.map rotS) V (fun i => 0 - U i) := fun i hi => by
  rw [List.length_map] at hi
  have hs := h i hi
  have e : gt (L.map rotS) (i : Int) = rotS (gt L (i : Int)) := by rw [gt_nat (by simpa using hi), gt_nat hi]; simp
  rw [e]
  have := hs.u0; have := hs.u1; have := hs.v0; have := hs.v1
  exact ⟨hs.im, fsub_val (zero_val 12) hs.re (by decide) (by omega), by omega, by omega, by show -2147483648 ≤ 0 - U i; omega, by show 0 - U i ≤ 2147483648; omega⟩
theorem dec_j2 {Le o t : Int} (w0 : (Lit.int .i64 Le).wf = true) (w1 : (Lit.int .u32 o).wf = true) (w2 : (Lit.int .u32 t).wf = true) {l : List (Int × Int × Bool)} (ho : Ok32 l) (h60 : l.length ≤ 60) {L : List ((Fl × Fl) × Bool)} {U V : Nat → Int} (h : SR L U V) (hLl : L.length = l.length)
    (round : Nat) (hr : round = 0 ∧ L = smp l ∨ round = 1) (A : List Bool) (hA : A.length ≤ 16384) (c mg y : Fl) (some' : Bool) (e : Int) :
    f_foghornlaw23_SoftDecides.j2 l (smp l, [mark]) Le o t L (round : Int) (A, c, mg, some', e) (A, y, e) (A, y, e) = some (.inl (Le, o, t, L.map rotS, ((round + 1 : Nat) : Int))) := by
  have hcode : f_foghornlaw23_code Le o t = some (Le, o, t) := rfl
  unfold f_foghornlaw23_SoftDecides.j2
  obtain ⟨u, v, e', r1, r2, r3, r4, r5⟩ := ends_both w0 w1 w2 h (by omega)
  rw [r2]
  simp only [Option.bind_some]
  rw [hcode]
  simp only [Option.bind_some]
  rw [r1]
  simp only [Option.bind_some]
  rw [if_neg (by simp [r3])]
  obtain ⟨x, x1, x2⟩ := dec_s2 (u := u) (v := v) (w := u) (e := e') r3 rfl r4 r5 r5
  rw [x1]
  simp only [Option.bind_some, sm]
  obtain ⟨B, b1, b2⟩ := dec_s3 A hA
  rw [b1]
  simp only [Option.bind_some]
  rw [dec_s4 B x (by omega) (by omega)]
  simp only [Option.bind_some]
  rw [same_self A (by omega)]
  simp only [Option.bind_some, Bool.not_true, Bool.false_eq_true, if_false]
  have e5 : IntKind.i64.wrap ((l.length : Int) + 1) = ((l.length + 1 : Nat) : Int) := by rw [w64 (by omega) (by omega)]; omega
  have e6 : (L ++ [mark]).take (l.length + 1) = L ++ [mark] := List.take_of_length_le (by simp; omega)
  have e7 : ceq mark.1 (Fl.bits 4651892959631900672, Fl.bits 0) = true := by decide +kernel
  have e8 : gt (L ++ [mark]) (l.length : Int) = mark := by rw [← hLl]; exact gt_app _ _
  rw [e5, Int.toNat_natCast, e6, if_pos (by simp; omega), if_pos (by simp; omega), e8, e7]
  simp only [Option.bind_some, Bool.not_true, Bool.false_eq_true, if_false]
  have hz : (if ((round : Int) == (0 : Int)) = true then ((f_foghornlaw23_samples l).bind fun q228 => ((f_foghornref02_Same L q228.1).bind fun q232 => (some (!q232)))) else (some false)) = some false := by
    rcases hr with ⟨rfl, hL⟩ | rfl
    · rw [if_pos (by decide), samples_ok ho (by omega)]
      simp only [Option.bind_some]
      rw [← hL, same02 h (by omega)]; rfl
    · rw [if_neg (by decide)]
  rw [hz]
  simp only [Option.bind_some, Bool.false_eq_true, if_false]
  rw [dec_s5 l L hLl h60]
  simp only [Option.bind_some]
  rw [w64 (by omega) (by omega)]; rfl
theorem dec_round {Le o t : Int} (w0 : (Lit.int .i64 Le).wf = true) (w1 : (Lit.int .u32 o).wf = true) (w2 : (Lit.int .u32 t).wf = true) {l : List (Int × Int × Bool)} (ho : Ok32 l) (h60 : l.length ≤ 60) {L : List ((Fl × Fl) × Bool)} {U V : Nat → Int} (h : SR L U V) (hLl : L.length = l.length)
    (round : Nat) (hr : round = 0 ∧ L = smp l ∨ round = 1) :
    f_foghornlaw23_SoftDecides.s1 l (smp l, [mark]) (Le, o, t, L, (round : Int)) = some (.inl (Le, o, t, L.map rotS, ((round + 1 : Nat) : Int))) := by
  have hcode : f_foghornlaw23_code Le o t = some (Le, o, t) := rfl
  obtain ⟨A, y, m, c, mg, g, e, sm, d1, d2, d3, d4, d5, d6⟩ := dec_both w0 w1 w2 h (by omega)
  simp only [f_foghornlaw23_SoftDecides.s1, f_foghornlaw23_SoftDecides.s1c]
  rw [if_pos (by rw [decide_eq_true_eq]; omega), d2]
  simp only [Option.bind_some]
  rw [hcode]
  simp only [Option.bind_some]
  rw [d1]
  simp only [Option.bind_some]
  rw [d4, if_neg (by simp), same_self A (by omega)]
  simp only [Option.bind_some, Bool.not_true, Bool.false_eq_true, if_false]
  rw [d3]
  simp only [Option.bind_some]
  have j := dec_j2 w0 w1 w2 ho h60 h hLl round hr A d5 c mg y sm e
  rcases d6 with ⟨k1, k2, k3⟩ | ⟨k1, k2, k3, k4⟩ | ⟨k1, k2, k3, k4⟩
  · rw [if_pos (by simpa using k1), k2, k3, if_neg (by simp)]; exact j
  · subst k1 k2 k3
    rw [if_neg (by simp), if_pos (by simp), k4, if_neg (by simp)]; exact j
  · subst k1 k2 k3
    rw [if_neg (by simp), if_neg (by simp), k4, if_neg (by simp)]; exact j
theorem dec_j1 {Le o t : Int} (w0 : (Lit.int .i64 Le).wf = true) (w1 : (Lit.int .u32 o).wf = true) (w2 : (Lit.int .u32 t).wf = true) {l : List (Int × Int × Bool)} (ho : Ok32 l) (h60 : l.length ≤ 60) : f_foghornlaw23_SoftDecides.j1 Le o t l = some true := by
  have hL : (smp l).length = l.length := by simp [smp]
  have hSR : SR (smp l) (fun i => (gt l (i : Int)).1) (fun i => (gt l (i : Int)).2.1) := fun i hi => by
    have := smp_sv ho hi
    rw [gt_nat hi]; exact this
  unfold f_foghornlaw23_SoftDecides.j1
  rw [samples_ok ho (by omega)]
  simp only [Option.bind_some]
  have r0 := dec_round w0 w1 w2 ho h60 hSR hL 0 (.inl ⟨rfl, rfl⟩)
  have r1 := dec_round w0 w1 w2 ho h60 (rot_sr hSR) (by simpa using hL) 1 (.inr rfl)
  have e9 : loop (f_foghornlaw23_SoftDecides.s1 l (smp l, [mark])) (Le, o, t, smp l, 0) = some (.inl ()) := (loop_step r0).trans ((loop_step r1).trans (loop_done rfl))
  rw [e9]; rfl
theorem decides_true (Le : Int) (w0 : (Lit.int .i64 Le).wf = true) (o : Int) (w1 : (Lit.int .u32 o).wf = true) (t : Int) (w2 : (Lit.int .u32 t).wf = true)
    (l : List (Int × Int × Bool)) (w4 : ∀ x ∈ l, (Lit.int .i32 x.1).wf = true ∧ (Lit.int .i32 x.2.1).wf = true ∧ True) {k4 : Prop} (r4 : k4) :
    f_foghornlaw23_SoftDecides Le o t l = some true := by
  have ho : Ok32 l := fun x hx => ⟨wf_i32 (w4 x hx).1, wf_i32 (w4 x hx).2.1⟩
  unfold f_foghornlaw23_SoftDecides
  by_cases hl : (60 : Int) < (l.length : Int)
  · rw [if_pos (by rw [decide_eq_true_eq]; exact hl), if_pos (by omega)]
    refine dec_j1 w0 w1 w2 (fun x hx => ho x ?_) (by simp only [List.length_take, List.length_drop]; omega)
    exact List.mem_of_mem_drop (List.mem_of_mem_take hx)
  · rw [if_neg (by rw [decide_eq_true_eq]; exact hl)]
    exact dec_j1 w0 w1 w2 ho (by omega)

end Go.Proofs.Ytcooefnbolobaaa
