/- The plain law of SoftCosts. -/
import Derived.Test.YtcooefnbolobaaaG1
import Derived.Test.YtcooefnbolobaaaGlK
import Derived.Test.YtcooefnbolobaaaGlW
import Derived.Test.YtcooefnbolobaaaGlU
set_option linter.unusedVariables false
set_option linter.unusedSimpArgs false
set_option maxRecDepth 8000
set_option exponentiation.threshold 3000
namespace Go.Proofs.Ytcooefnbolobaaa
open GL Go

/-! ### Codes -/
structure CodeOK (n a b : Nat) : Prop where
  n2 : 2 ≤ n
  n7 : n ≤ 7
  a1 : 1 ≤ a
  b1 : 1 ≤ b
  an : a < 2 ^ n
  bn : b < 2 ^ n
  top : 2 ^ (n - 1) ≤ max a b
theorem CodeOK.pq {n a b : Nat} (h : CodeOK n a b) : ∃ q, 2 ^ (n - 1) = 2 * q ∧ 2 ^ n = 4 * q ∧ 1 ≤ q ∧ q ≤ 32 ∧ q = 2 ^ (n - 2) := by
  have h1 := h.n2
  have h2 := h.n7
  have : n = 2 ∨ n = 3 ∨ n = 4 ∨ n = 5 ∨ n = 6 ∨ n = 7 := by omega
  rcases this with rfl | rfl | rfl | rfl | rfl | rfl <;> exact ⟨_, rfl, rfl, by decide, by decide, rfl⟩
theorem len_tab0 : ∀ n : Nat, n < 8 → ∀ m : Nat, m < 128 → (decide (1 ≤ n ∧ 2 ^ (n - 1) ≤ m ∧ m < 2 ^ n) → (f_math_bits_Len32 (m : Int) == some (n : Int)) = true) := by decide +kernel
theorem len_tab (n : Nat) (hn : n < 8) (m : Nat) (hm : m < 128) (h1 : 1 ≤ n) (h2 : 2 ^ (n - 1) ≤ m) (h3 : m < 2 ^ n) : f_math_bits_Len32 (m : Int) = some (n : Int) :=
  eq_of_beq (len_tab0 n hn m hm (by simp [h1, h2, h3]))
theorem check_ok {n a b : Nat} (h : CodeOK n a b) : f_trellis_Code_Check (n : Int) (a : Int) (b : Int) = some 0 := by
  obtain ⟨q, p1, p2, q1, q2, _⟩ := h.pq
  have h1 := h.n2; have h2 := h.n7; have h3 := h.a1; have h4 := h.b1; have h5 := h.an; have h6 := h.bn; have h7 := h.top
  unfold f_trellis_Code_Check
  rw [imin_nat, imax_nat, if_neg (by simp; omega), len_tab n (by omega) (max a b) (by omega) (by omega) h7 (by omega)]
  simp
/-- parity of seven bits -/
def par (x : Nat) : Bool := (List.range 7).foldl (fun c i => c != x.testBit i) false
def al (n s : Nat) (b : Bool) : Nat := s + if b then 2 ^ (n - 1) else 0
def nx (n s : Nat) (b : Bool) : Nat := al n s b / 2
def ob (n a s : Nat) (b : Bool) : Bool := par (al n s b &&& a)
theorem al_lt {n a b : Nat} (h : CodeOK n a b) {s : Nat} (hs : s < 2 ^ (n - 1)) (c : Bool) : al n s c < 2 ^ n := by
  obtain ⟨q, p1, p2, q1, q2, _⟩ := h.pq
  unfold al; rw [p2]; split <;> omega
theorem nx_lt {n a b : Nat} (h : CodeOK n a b) {s : Nat} (hs : s < 2 ^ (n - 1)) (c : Bool) : nx n s c < 2 ^ (n - 1) := by
  have := al_lt h hs c
  obtain ⟨q, p1, p2, q1, q2, _⟩ := h.pq
  unfold nx; rw [p1]; rw [p2] at this; omega
def bitAt (l : List Bool) (i : Nat) : Bool := if i < l.length then gt l (i : Int) else false
def st (n : Nat) (l : List Bool) : Nat → Nat
  | 0 => 0
  | i + 1 => nx n (st n l i) (bitAt l i)
theorem st_lt {n a b : Nat} (h : CodeOK n a b) (l : List Bool) : ∀ i, st n l i < 2 ^ (n - 1)
  | 0 => by obtain ⟨q, p1, _, q1, _⟩ := h.pq; rw [p1]; simp only [st]; omega
  | i + 1 => nx_lt h (st_lt h l i) _
theorem st_down (n : Nat) (l : List Bool) : ∀ k, st n l (l.length + k) * 2 ^ k ≤ st n l l.length
  | 0 => by simp
  | k + 1 => by
    have ih := st_down n l k
    have : st n l (l.length + (k + 1)) = st n l (l.length + k) / 2 := by
      show nx n (st n l (l.length + k)) (bitAt l (l.length + k)) = _
      have : bitAt l (l.length + k) = false := by unfold bitAt; rw [if_neg (by omega)]
      rw [this]; simp [nx, al]
    rw [this, Nat.pow_succ, Nat.mul_comm (2 ^ k) 2, ← Nat.mul_assoc]
    exact Nat.le_trans (Nat.mul_le_mul_right _ (Nat.div_mul_le_self _ 2)) ih
theorem st_end {n a b : Nat} (h : CodeOK n a b) (l : List Bool) : st n l (l.length + (n - 1)) = 0 := by
  have h1 := st_down n l (n - 1)
  have h2 := st_lt h l l.length
  rcases Nat.eq_zero_or_pos (st n l (l.length + (n - 1))) with h0 | h0
  · exact h0
  · have := Nat.mul_le_mul_right (2 ^ (n - 1)) h0
    simp only [Nat.one_mul, Nat.succ_eq_add_one, Nat.zero_add] at this
    omega
theorem bit_read {l : List Bool} (i : Nat) : (if (decide ((i : Int) < (l.length : Int))) = true then (if 0 ≤ (i : Int) ∧ (i : Int) < (l.length : Int) then (some (gt l (i : Int))) else none) else (some false)) = some (bitAt l i) := by
  unfold bitAt
  by_cases h : i < l.length
  · rw [if_pos (by simpa using h), if_pos (by omega), if_pos h]
  · rw [if_neg (by simpa using h), if_neg h]
theorem bitAt_big {l : List Bool} {i : Nat} (h : l.length ≤ i) : bitAt l i = false := by unfold bitAt; rw [if_neg (by omega)]
theorem bitAt_lt {l : List Bool} {i : Nat} (h : i < l.length) : bitAt l i = gt l (i : Int) := by unfold bitAt; rw [if_pos h]
/-! ### The program's steps -/
theorem oc_tab : ∀ x, x < 128 → (f_trellis_Code_step_1 ((x : Nat) : Int) == some (par x)) = true := by decide +kernel
theorem oc_some {x : Nat} (h : x < 128) : f_trellis_Code_step_1 (x : Int) = some (par x) := eq_of_beq (oc_tab x h)
theorem step_ok {n a b : Nat} (h : CodeOK n a b) {s : Nat} (hs : s < 2 ^ (n - 1)) (c : Bool) :
    f_trellis_Code_step (n : Int) (a : Int) (b : Int) (s : Int) c = some (((nx n s c : Nat) : Int), ob n a s c, ob n b s c) := by
  have hal := al_lt h hs c
  obtain ⟨q, p1, p2, q1, q2, _⟩ := h.pq
  have h1 := h.n2; have h2 := h.n7; have h3 := h.a1; have h4 := h.b1; have h5 := h.an; have h6 := h.bn
  have j : f_trellis_Code_step.j1 (a : Int) (b : Int) ((al n s c : Nat) : Int) = some (((nx n s c : Nat) : Int), ob n a s c, ob n b s c) := by
    have e1 : al n s c &&& a ≤ al n s c := Nat.and_le_left
    have e2 : al n s c &&& b ≤ al n s c := Nat.and_le_left
    have hx : al n s c / 2 = nx n s c := rfl
    unfold f_trellis_Code_step.j1
    rw [iand32 (by omega) (by omega), iand32 (by omega) (by omega), oc_some (by omega), oc_some (by omega)]
    simp only [Option.bind_some]
    rw [show ((1 : Int)) = ((1 : Nat) : Int) from rfl, ishr_nat (by decide), show al n s c / 2 ^ 1 = nx n s c from hx, w64 (by omega) (by omega)]
    rfl
  unfold f_trellis_Code_step
  cases c with
  | false =>
    rw [if_neg (by simp), w32 (by omega) (by omega)]
    exact j
  | true =>
    have e1 : al n s true = s ||| 2 ^ (n - 1) := by
      have := Nat.two_pow_add_eq_or_of_lt hs 1
      simp only [al, if_true]
      rw [Nat.or_comm, Nat.add_comm]; simpa using this
    rw [if_pos rfl, w64 (by omega) (by omega), if_pos (by omega), w32 (by omega) (by omega), show (n : Int) - 1 = ((n - 1 : Nat) : Int) by omega, show ((1 : Int)) = ((1 : Nat) : Int) from rfl, ishl32 (by omega) (by omega), Nat.one_mul, ior32 (by omega) (by omega), ← e1]
    exact j
def enc (n a b : Nat) (l : List Bool) : Nat → List Bool
  | 0 => []
  | i + 1 => enc n a b l i ++ [ob n a (st n l i) (bitAt l i), ob n b (st n l i) (bitAt l i)]
theorem enc_len (n a b : Nat) (l : List Bool) : ∀ i, (enc n a b l i).length = 2 * i
  | 0 => rfl
  | i + 1 => by simp only [enc, List.length_append, enc_len n a b l i, List.length_cons, List.length_nil]; omega
theorem enc_get (n a b : Nat) (l : List Bool) : ∀ i j, j < i → gt (enc n a b l i) ((2 * j : Nat) : Int) = ob n a (st n l j) (bitAt l j) ∧ gt (enc n a b l i) ((2 * j + 1 : Nat) : Int) = ob n b (st n l j) (bitAt l j)
  | 0, j, h => by omega
  | i + 1, j, h => by
    have hl := enc_len n a b l i
    simp only [enc]
    by_cases hj : j < i
    · obtain ⟨h1, h2⟩ := enc_get n a b l i j hj
      constructor
      · rw [← h1, gt_nat (by simp only [List.length_append, hl, List.length_cons, List.length_nil]; omega), gt_nat (by omega), List.getElem_append_left (by omega)]
      · rw [← h2, gt_nat (by simp only [List.length_append, hl, List.length_cons, List.length_nil]; omega), gt_nat (by omega), List.getElem_append_left (by omega)]
    · obtain rfl : j = i := by omega
      rw [gt_nat (by simp only [List.length_append, hl, List.length_cons, List.length_nil]; omega), gt_nat (by simp only [List.length_append, hl, List.length_cons, List.length_nil]; omega), List.getElem_append_right (by omega), List.getElem_append_right (by omega)]
      simp only [hl, Nat.sub_self, show 2 * j + 1 - 2 * j = 1 by omega]
      exact ⟨rfl, rfl⟩
theorem through_enc {n a b : Nat} (h : CodeOK n a b) (l : List Bool) (hl : l.length + n - 1 ≤ 16384) :
    f_trellis_Code_through (n : Int) (a : Int) (b : Int) l (n : Int) (a : Int) (b : Int) [] = some (0, enc n a b l (l.length + n - 1)) := by
  have h1 := h.n2; have h2 := h.n7
  have key : ∀ k i : Nat, i + k = l.length + n - 1 → loop (f_trellis_Code_through.s1 (n : Int) l (n : Int) (a : Int) (b : Int)) (enc n a b l i, ((st n l i : Nat) : Int), (i : Int)) = some (enc n a b l (l.length + n - 1)) := by
    intro k
    induction k with
    | zero =>
      intro i hi
      obtain rfl : i = l.length + n - 1 := by omega
      apply loop_done
      simp only [f_trellis_Code_through.s1, f_trellis_Code_through.s1c]
      rw [w64 (x := (l.length : Int) + (n : Int)) (by omega) (by omega), w64 (by omega) (by omega), if_neg (by simp; omega)]
    | succ k ih =>
      intro i hi
      rw [← ih (i + 1) (by omega)]
      apply loop_step
      simp only [f_trellis_Code_through.s1, f_trellis_Code_through.s1c]
      rw [w64 (x := (l.length : Int) + (n : Int)) (by omega) (by omega), w64 (x := (l.length : Int) + (n : Int) - 1) (by omega) (by omega), if_pos (by simp; omega), bit_read]
      simp only [Option.bind_some]
      rw [step_ok h (st_lt h l i)]
      simp only [Option.bind_some, f_trellis_Code_Encode_1]
      rw [if_pos (by rw [enc_len]; simp; omega), w64 (by omega) (by omega)]
      rfl
  unfold f_trellis_Code_through
  rw [check_ok h]
  simp only [Option.bind_some]
  rw [if_neg (by simp), w64 (x := (l.length : Int) + (n : Int)) (by omega) (by omega), w64 (x := (l.length : Int) + (n : Int) - 1) (by omega) (by omega), if_neg (by simp; omega)]
  have := key (l.length + n - 1) 0 (by omega)
  rw [show enc n a b l 0 = [] from rfl, show ((st n l 0 : Nat) : Int) = 0 from rfl, show ((0 : Nat) : Int) = 0 from rfl] at this
  rw [this]
  rfl
theorem encode_ok {n a b : Nat} (h : CodeOK n a b) (l : List Bool) (hl : l.length + n - 1 ≤ 16384) :
    f_trellis_Code_Encode (n : Int) (a : Int) (b : Int) l = some (enc n a b l (l.length + n - 1), 0) := by
  unfold f_trellis_Code_Encode
  rw [through_enc h l hl]
  rfl
theorem states_ok {n a b : Nat} (h : CodeOK n a b) : f_trellis_Code_States (n : Int) (a : Int) (b : Int) = some (((2 ^ (n - 1) : Nat) : Int), 0) := by
  obtain ⟨q, p1, p2, q1, q2, _⟩ := h.pq
  have h1 := h.n2; have h2 := h.n7
  unfold f_trellis_Code_States
  rw [check_ok h]
  simp only [Option.bind_some]
  rw [if_neg (by simp), w64 (by omega) (by omega), if_pos (by omega), show (n : Int) - 1 = ((n - 1 : Nat) : Int) by omega, show ((1 : Int)) = ((1 : Nat) : Int) from rfl, ishl64 (by omega) (by omega), Nat.one_mul]
theorem state_ok {n a b : Nat} (h : CodeOK n a b) {s : Nat} (hs : s < 2 ^ (n - 1)) : f_trellis_Code_state (n : Int) (a : Int) (b : Int) (s : Int) = some 0 := by
  unfold f_trellis_Code_state
  rw [states_ok h]
  simp only [Option.bind_some]
  generalize 2 ^ (n - 1) = p at *
  rw [if_neg (by simp; omega)]
theorem Step_ok {n a b : Nat} (h : CodeOK n a b) {s : Nat} (hs : s < 2 ^ (n - 1)) (c : Bool) :
    f_trellis_Code_Step (n : Int) (a : Int) (b : Int) (s : Int) c = some (((nx n s c : Nat) : Int), ob n a s c, ob n b s c, 0) := by
  unfold f_trellis_Code_Step
  rw [state_ok h hs]
  simp only [Option.bind_some]
  rw [if_neg (by simp), step_ok h hs]
  rfl

/-! ### The document's steps -/
def pr (x : Nat) : Nat → Bool
  | 0 => false
  | i + 1 => pr x i != x.testBit i
theorem pr_par : ∀ x, x < 128 → (pr x 32 == par x) = true := by decide +kernel
theorem bit_one {x i : Nat} (hx : x < 4294967296) (hi : i < 32) : (iand .u32 (ishr .u32 (x : Int) (i : Int)) (1 : Int) == (1 : Int)) = x.testBit i := by
  have hd : x / 2 ^ i ≤ x := Nat.div_le_self _ _
  rw [ishr_nat (show i ≤ 32 by omega), show (1 : Int) = ((1 : Nat) : Int) from rfl, iand32 (by omega) (by omega), Nat.and_one_is_mod, Nat.testBit_eq_decide_div_mod_eq]
  rw [Bool.eq_iff_iff]
  simp only [beq_iff_eq, decide_eq_true_eq]
  omega
theorem odd_ok {x y : Nat} (hx : x < 128) (hy : y < 128) : f_foghornref21_odd (x : Int) (y : Int) = some (par (x &&& y)) := by
  have key : ∀ k i : Nat, i + k = 32 → loop (f_foghornref21_odd.s1 (x : Int) (y : Int)) (pr (x &&& y) i, (i : Int)) = some (pr (x &&& y) 32) := by
    intro k
    induction k with
    | zero =>
      intro i hi
      obtain rfl : i = 32 := by omega
      apply loop_done
      simp only [f_foghornref21_odd.s1, f_foghornref21_odd.s1c]
      rw [if_neg (by simp)]
    | succ k ih =>
      intro i hi
      rw [← ih (i + 1) (by omega)]
      apply loop_step
      simp only [f_foghornref21_odd.s1, f_foghornref21_odd.s1c]
      have i0 : 0 ≤ (i : Int) := by omega
      rw [if_pos (by rw [decide_eq_true_eq]; omega), if_pos i0, bit_one (x := x) (by omega) (by omega), bit_one (x := y) (by omega) (by omega), w64 (by omega) (by omega), if_pos i0]
      have e : pr (x &&& y) (i + 1) = (pr (x &&& y) i != (x.testBit i && y.testBit i)) := by simp only [pr]; rw [Nat.testBit_and]
      rw [e]
      cases x.testBit i <;> cases y.testBit i <;> simp
  have := key 32 0 (by omega)
  rw [show pr (x &&& y) 0 = false from rfl, show ((0 : Nat) : Int) = 0 from rfl] at this
  have hle : x &&& y ≤ x := Nat.and_le_left
  unfold f_foghornref21_odd
  rw [this, eq_of_beq (pr_par (x &&& y) (by omega))]; rfl
theorem go_ok {n a b : Nat} (h : CodeOK n a b) {s : Nat} (hs : s < 2 ^ (n - 1)) (c : Bool) :
    f_foghornref21_Go (n : Int) (a : Int) (b : Int) (s : Int) c = some (((nx n s c : Nat) : Int), ob n a s c, ob n b s c) := by
  have hal := al_lt h hs c
  obtain ⟨q, p1, p2, q1, q2, _⟩ := h.pq
  have h1 := h.n2; have h2 := h.n7; have h5 := h.an; have h6 := h.bn
  have j : f_foghornref21_Go.j1 (a : Int) (b : Int) ((al n s c : Nat) : Int) = some (((nx n s c : Nat) : Int), ob n a s c, ob n b s c) := by
    unfold f_foghornref21_Go.j1
    rw [odd_ok (by omega) (by omega), odd_ok (by omega) (by omega), show (2 : Int) = ((2 : Nat) : Int) from rfl, tdiv_nat, w32 (by omega) (by omega), w64 (by omega) (by omega)]
    rfl
  unfold f_foghornref21_Go
  cases c with
  | false => rw [if_neg (by simp), w32 (by omega) (by omega)]; exact j
  | true =>
    rw [if_pos rfl, w64 (by omega) (by omega), if_pos (by omega), w32 (x := (s : Int)) (by omega) (by omega), show (n : Int) - 1 = ((n - 1 : Nat) : Int) by omega, show ((1 : Int)) = ((1 : Nat) : Int) from rfl, ishl32 (by omega) (by omega), Nat.one_mul]
    have e : IntKind.u32.wrap ((s : Int) + ((2 ^ (n - 1) : Nat) : Int)) = ((al n s true : Nat) : Int) := by
      rw [w32 (by omega) (by omega)]; simp only [al, if_true]; omega
    rw [e]; exact j
/-! ### Any code -/
theorem j2_tab : ∀ n : Nat, n < 4 → ∀ y : Nat, y < 256 → ((f_math_bits_Len32.j2 (y : Int) ((8 * n : Nat) : Int)).any fun k => decide (((8 * n + (if y = 0 then 0 else if y < 128 then 1 else 8) : Nat) : Int) ≤ k)) = true := by decide +kernel
theorem j2_ge {n y : Nat} (hn : n < 4) (hy : y < 256) : ∃ k : Nat, f_math_bits_Len32.j2 (y : Int) ((8 * n : Nat) : Int) = some (k : Int) ∧ 8 * n + (if y = 0 then 0 else if y < 128 then 1 else 8) ≤ k := by
  have := j2_tab n hn y hy
  cases hh : f_math_bits_Len32.j2 (y : Int) ((8 * n : Nat) : Int) with
  | none => rw [hh] at this; cases this
  | some q =>
    rw [hh] at this
    simp only [Option.any_some, decide_eq_true_eq] at this
    exact ⟨q.toNat, by congr 1; omega, by omega⟩
theorem len_big {m : Nat} (h1 : 128 ≤ m) (h2 : m < 4294967296) : ∃ k : Nat, f_math_bits_Len32 (m : Int) = some (k : Int) ∧ 8 ≤ k := by
  unfold f_math_bits_Len32
  by_cases h3 : 65536 ≤ m
  · rw [if_pos (by rw [decide_eq_true_eq]; omega), show (16 : Int) = ((16 : Nat) : Int) from rfl, ishr_nat (by decide)]
    have hy : m / 2 ^ 16 < 65536 := by rw [show (2 : Nat) ^ 16 = 65536 from rfl]; omega
    have hy1 : 1 ≤ m / 2 ^ 16 := by rw [show (2 : Nat) ^ 16 = 65536 from rfl]; omega
    generalize m / 2 ^ 16 = y at *
    unfold f_math_bits_Len32.j1
    by_cases h4 : 256 ≤ y
    · rw [if_pos (by rw [decide_eq_true_eq]; omega), show (8 : Int) = ((8 : Nat) : Int) from rfl, ishr_nat (by decide), show IntKind.i64.wrap (((16 : Nat) : Int) + ((8 : Nat) : Int)) = ((8 * 3 : Nat) : Int) from by decide]
      have hz : y / 2 ^ 8 < 256 := by rw [show (2 : Nat) ^ 8 = 256 from rfl]; omega
      obtain ⟨k, k1, k2⟩ := j2_ge (n := 3) (by decide) hz
      exact ⟨k, k1, by omega⟩
    · rw [if_neg (by rw [decide_eq_true_eq]; omega), show ((16 : Nat) : Int) = ((8 * 2 : Nat) : Int) from rfl]
      obtain ⟨k, k1, k2⟩ := j2_ge (n := 2) (y := y) (by decide) (by omega)
      exact ⟨k, k1, by omega⟩
  · rw [if_neg (by rw [decide_eq_true_eq]; omega)]
    unfold f_math_bits_Len32.j1
    by_cases h4 : 256 ≤ m
    · rw [if_pos (by rw [decide_eq_true_eq]; omega), show (8 : Int) = ((8 : Nat) : Int) from rfl, ishr_nat (by decide), show IntKind.i64.wrap (0 + ((8 : Nat) : Int)) = ((8 * 1 : Nat) : Int) from by decide]
      have hz : m / 2 ^ 8 < 256 := by rw [show (2 : Nat) ^ 8 = 256 from rfl]; omega
      obtain ⟨k, k1, k2⟩ := j2_ge (n := 1) (by decide) hz
      exact ⟨k, k1, by omega⟩
    · rw [if_neg (by rw [decide_eq_true_eq]; omega), show (0 : Int) = ((8 * 0 : Nat) : Int) from rfl]
      obtain ⟨k, k1, k2⟩ := j2_ge (n := 0) (y := m) (by decide) (by omega)
      exact ⟨k, k1, by rw [if_neg (by omega), if_neg (by omega)] at k2; omega⟩
theorem sh1 {n : Nat} (h7 : n ≤ 7) : ishl .u32 (1 : Int) (n : Int) = ((2 ^ n : Nat) : Int) := by
  have : (2 : Nat) ^ n ≤ 2 ^ 7 := Nat.pow_le_pow_right (by decide) h7
  rw [show ((1 : Int)) = ((1 : Nat) : Int) from rfl, ishl32 (by omega) (by omega), Nat.one_mul]
theorem pow_split {n : Nat} (h2 : 2 ≤ n) (h7 : n ≤ 7) : ∃ q, 2 ^ (n - 1) = 2 * q ∧ 2 ^ n = 4 * q ∧ 1 ≤ q ∧ q ≤ 32 := by
  have : n = 2 ∨ n = 3 ∨ n = 4 ∨ n = 5 ∨ n = 6 ∨ n = 7 := by omega
  refine ⟨2 ^ (n - 2), ?_⟩
  rcases this with h | h | h | h | h | h <;> rw [h] <;> decide
theorem may_val {n a b : Nat} (h2 : 2 ≤ n) (h7 : n ≤ 7) : f_foghornref21_May (n : Int) (a : Int) (b : Int) = some (decide (1 ≤ a ∧ a < 2 ^ n ∧ 1 ≤ b ∧ b < 2 ^ n ∧ (2 ^ (n - 1) ≤ a ∨ 2 ^ (n - 1) ≤ b))) := by
  obtain ⟨q, p1, p2, q1, q2⟩ := pow_split h2 h7
  unfold f_foghornref21_May
  rw [if_neg (by simp; omega), if_pos (by omega), sh1 h7]
  have e : IntKind.u32.wrap (((2 ^ n : Nat) : Int).tdiv 2) = ((2 ^ (n - 1) : Nat) : Int) := by
    rw [show (2 : Int) = ((2 : Nat) : Int) from rfl, tdiv_nat, p1, p2, w32 (by omega) (by omega)]; omega
  rw [e]
  congr 1
  rw [Bool.eq_iff_iff]
  simp only [Bool.and_eq_true, Bool.or_eq_true, decide_eq_true_eq]
  omega
theorem code_dich {L o t : Int} (w0 : (Lit.int .i64 L).wf = true) (w1 : (Lit.int .u32 o).wf = true) (w2 : (Lit.int .u32 t).wf = true) :
    (∃ n a b : Nat, L = (n : Int) ∧ o = (a : Int) ∧ t = (b : Int) ∧ CodeOK n a b ∧ f_foghornref21_May L o t = some true) ∨ (f_trellis_Code_Check L o t = some 1 ∧ f_foghornref21_May L o t = some false) := by
  have b1 := wf_u32 w1
  have b2 := wf_u32 w2
  by_cases hL : L < 2 ∨ 7 < L
  · right
    constructor
    · unfold f_trellis_Code_Check
      rw [if_pos (by simp; omega)]; rfl
    · unfold f_foghornref21_May
      rw [if_pos (by simp; omega)]
  obtain ⟨n, hn⟩ : ∃ m : Nat, L = (m : Int) := ⟨L.toNat, by omega⟩
  obtain ⟨a, ha⟩ : ∃ m : Nat, o = (m : Int) := ⟨o.toNat, by omega⟩
  obtain ⟨b, hb⟩ : ∃ m : Nat, t = (m : Int) := ⟨t.toNat, by omega⟩
  subst hn ha hb
  have h2 : 2 ≤ n := by omega
  have h7 : n ≤ 7 := by omega
  obtain ⟨q, p1, p2, q1, q2⟩ := pow_split h2 h7
  rw [may_val h2 h7]
  by_cases hv : 1 ≤ a ∧ a < 2 ^ n ∧ 1 ≤ b ∧ b < 2 ^ n ∧ (2 ^ (n - 1) ≤ a ∨ 2 ^ (n - 1) ≤ b)
  · left
    exact ⟨n, a, b, rfl, rfl, rfl, ⟨h2, h7, hv.1, hv.2.2.1, hv.2.1, hv.2.2.2.1, by omega⟩, by rw [decide_eq_true hv]⟩
  · right
    refine ⟨?_, by rw [decide_eq_false hv]⟩
    unfold f_trellis_Code_Check
    rw [imin_nat, imax_nat]
    by_cases hm : min a b < 1
    · rw [if_pos (by simp; omega)]; rfl
    · rw [if_neg (by simp; omega)]
      obtain ⟨m, hmm⟩ : ∃ m, m = max a b := ⟨_, rfl⟩
      rw [← hmm]
      have hk : ∃ k : Nat, f_math_bits_Len32 (m : Int) = some (k : Int) ∧ k ≠ n := by
        by_cases h128 : 128 ≤ m
        · obtain ⟨k, k1, k2⟩ := len_big h128 (by omega)
          exact ⟨k, k1, by omega⟩
        · have hm0 : m ≠ 0 := by omega
          have l1 := Nat.log2_self_le hm0
          have l2 : m < 2 ^ (m.log2 + 1) := Nat.lt_log2_self
          have l3 : m.log2 < 7 := (Nat.log2_lt hm0).2 (by omega)
          refine ⟨m.log2 + 1, len_tab (m.log2 + 1) (by omega) m (by omega) (by omega) (by simpa using l1) l2, fun he => ?_⟩
          rw [he] at l2
          have l4 : m.log2 = n - 1 := by omega
          rw [l4] at l1
          exact hv (by omega)
      obtain ⟨k, k1, k2⟩ := hk
      rw [k1]
      simp only [Option.bind_some]
      rw [if_pos (by simp; omega)]
theorem whole_ok {n a b : Nat} (h : CodeOK n a b) (l : List Bool) (hl : l.length < 140737488351233) : f_foghornref21_whole (n : Int) (a : Int) (b : Int) l = some (if l.length + n - 1 ≤ 16384 then (l ++ List.replicate (n - 1) false, true) else ([], false)) := by
  have h1 := h.n2; have h2 := h.n7
  unfold f_foghornref21_whole
  rw [w64 (x := (l.length : Int) + (n : Int)) (by omega) (by omega), w64 (x := (l.length : Int) + (n : Int) - 1) (by omega) (by omega), w64 (by omega) (by omega)]
  by_cases hs : l.length + n - 1 ≤ 16384
  · rw [if_pos hs, if_neg (by simp only [Bool.or_eq_true, decide_eq_true_eq]; omega), if_pos (by simp only [List.length_nil]; omega), List.nil_append]
    have key : ∀ k i : Nat, i + k = n - 1 → loop (f_foghornref21_whole.s1 (n : Int)) (l ++ List.replicate i false, ((i + 1 : Nat) : Int)) = some (l ++ List.replicate (n - 1) false) := by
      intro k
      induction k with
      | zero =>
        intro i hi
        obtain rfl : i = n - 1 := by omega
        apply loop_done
        simp only [f_foghornref21_whole.s1, f_foghornref21_whole.s1c]
        rw [if_neg (by rw [decide_eq_true_eq]; omega)]
      | succ k ih =>
        intro i hi
        rw [← ih (i + 1) (by omega)]
        apply loop_step
        simp only [f_foghornref21_whole.s1, f_foghornref21_whole.s1c]
        rw [if_pos (by rw [decide_eq_true_eq]; omega), if_pos (by simp only [List.length_append, List.length_replicate, List.length_cons, List.length_nil]; omega), w64 (by omega) (by omega), List.replicate_succ', List.append_assoc]
        rfl
    have := key (n - 1) 0 (by omega)
    rw [List.replicate_zero, List.append_nil, show ((0 + 1 : Nat) : Int) = 1 from rfl] at this
    rw [this]; rfl
  · rw [if_neg hs, if_pos (by simp only [Bool.or_eq_true, decide_eq_true_eq]; omega)]
theorem whole_gt {n : Nat} (l : List Bool) {i : Nat} (hi : i < l.length + (n - 1)) : gt (l ++ List.replicate (n - 1) false) (i : Int) = bitAt l i := by
  rw [gt_nat (by simp; omega)]
  unfold bitAt
  by_cases h : i < l.length
  · rw [if_pos h, gt_nat h, List.getElem_append_left h]
  · rw [if_neg h, List.getElem_append_right (by omega), List.getElem_replicate]
theorem rencode_ok {n a b : Nat} (h : CodeOK n a b) (hm : f_foghornref21_May (n : Int) (a : Int) (b : Int) = some true) (l : List Bool) (hl : l.length < 140737488351233) :
    f_foghornref21_Encode (n : Int) (a : Int) (b : Int) l = some (if l.length + n - 1 ≤ 16384 then (enc n a b l (l.length + n - 1), 0) else ([], 1)) := by
  have h1 := h.n2; have h2 := h.n7
  unfold f_foghornref21_Encode
  rw [hm]
  simp only [Option.bind_some, Bool.not_true, Bool.false_eq_true, if_false]
  rw [whole_ok h l hl]
  simp only [Option.bind_some]
  by_cases hs : l.length + n - 1 ≤ 16384
  · rw [if_pos hs, if_pos hs]
    simp only [Bool.not_true, Bool.false_eq_true, if_false]
    have hwl : (l ++ List.replicate (n - 1) false).length = l.length + (n - 1) := by simp
    have key : ∀ k i : Nat, i + k = l.length + (n - 1) → loop (f_foghornref21_Encode.s1 (n : Int) (a : Int) (b : Int) (l ++ List.replicate (n - 1) false, true)) (enc n a b l i, ((st n l i : Nat) : Int), (i : Int)) = some (enc n a b l (l.length + n - 1)) := by
      intro k
      induction k with
      | zero =>
        intro i hi
        obtain rfl : i = l.length + (n - 1) := by omega
        apply loop_done
        simp only [f_foghornref21_Encode.s1, f_foghornref21_Encode.s1c]
        rw [hwl, if_neg (by rw [decide_eq_true_eq]; omega), show l.length + (n - 1) = l.length + n - 1 by omega]
      | succ k ih =>
        intro i hi
        rw [← ih (i + 1) (by omega)]
        apply loop_step
        simp only [f_foghornref21_Encode.s1, f_foghornref21_Encode.s1c]
        rw [hwl, if_pos (by rw [decide_eq_true_eq]; omega), if_pos (by omega), whole_gt l (by omega), go_ok h (st_lt h l i)]
        simp only [Option.bind_some]
        rw [if_pos (by rw [enc_len]; simp only [List.length_cons, List.length_nil]; omega), w64 (by omega) (by omega)]
        rfl
    have := key (l.length + (n - 1)) 0 (by omega)
    rw [show enc n a b l 0 = [] from rfl, show ((st n l 0 : Nat) : Int) = 0 from rfl, show ((0 : Nat) : Int) = 0 from rfl] at this
    rw [this]; rfl
  · rw [if_neg hs, if_neg hs]; rfl
theorem encode_long {n a b : Nat} (h : CodeOK n a b) (l : List Bool) (hl : l.length < 140737488351233) (hs : ¬ l.length + n - 1 ≤ 16384) : f_trellis_Code_Encode (n : Int) (a : Int) (b : Int) l = some ([], 1) := by
  have h1 := h.n2; have h2 := h.n7
  unfold f_trellis_Code_Encode f_trellis_Code_through
  rw [check_ok h]
  simp only [Option.bind_some]
  rw [if_neg (by simp), w64 (x := (l.length : Int) + (n : Int)) (by omega) (by omega), w64 (x := (l.length : Int) + (n : Int) - 1) (by omega) (by omega), if_pos (by rw [decide_eq_true_eq]; omega)]
  rfl
theorem same_self (l : List Bool) (hl : l.length < 9223372036854775807) : f_foghornref21_Same l l = some true := by
  unfold f_foghornref21_Same
  rw [if_neg (by simp)]
  have := loop_for1 (f := f_foghornref21_Same.s1 l l) l.length (.inl ()) (fun i hi => ?_) ?_
  · rw [this]; rfl
  · simp only [f_foghornref21_Same.s1, f_foghornref21_Same.s1c]
    rw [if_pos (by simpa using hi), if_pos (by omega), if_pos (by omega), if_neg (by simp), w64 (by omega) (by omega)]
    rfl
  · simp only [f_foghornref21_Same.s1, f_foghornref21_Same.s1c]
    rw [if_neg (by simp)]
/-! ### What a float stands for -/
theorem log2_mul_pow {m : Nat} (hm : m ≠ 0) (a : Nat) : (m * 2 ^ a).log2 = m.log2 + a := by
  have h0 : m * 2 ^ a ≠ 0 := Nat.mul_ne_zero hm (Nat.ne_of_gt (Nat.two_pow_pos a))
  rw [Nat.log2_eq_iff h0]
  have l1 := Nat.log2_self_le hm
  have l2 : m < 2 ^ (m.log2 + 1) := Nat.lt_log2_self
  constructor
  · rw [Nat.pow_add]; exact Nat.mul_le_mul_right _ l1
  · rw [show m.log2 + a + 1 = m.log2 + 1 + a by omega, Nat.pow_add _ _ a]; exact Nat.mul_lt_mul_of_pos_right l2 (Nat.two_pow_pos a)
theorem cut_exact (neg : Bool) {m : Nat} (hm : m ≠ 0) (d : Nat) : Ieee.Toward.even.cut neg (m * 2 ^ d) d = m := by
  unfold Ieee.Toward.cut
  rw [log2_mul_pow hm, Nat.min_eq_left (by omega)]
  have hp := Nat.two_pow_pos d
  simp only [Nat.one_shiftLeft, Nat.mul_div_cancel _ hp, Nat.mul_mod_left]
  have e1 : decide (2 ^ d < 2 * 0) = false := by rw [decide_eq_false_iff_not]; omega
  have e2 : (2 ^ d == 2 * 0) = false := by rw [beq_eq_false_iff_ne]; omega
  rw [e1, e2]; simp
theorem nearest_eq (neg : Bool) {mag : Nat} (place : Int) (h : mag ≠ 0) : Ieee.double.nearest neg mag place = Ieee.double.word neg (min ((max (place + mag.log2 - 52) (-1074) - (-1074)).toNat * 4503599627370496 + Ieee.Toward.even.cut neg (mag <<< (place - max (place + mag.log2 - 52) (-1074)).toNat) (max (place + mag.log2 - 52) (-1074) - place).toNat) 9218868437227405312) := by
  unfold Ieee.Format.nearest
  rw [if_neg h]
  have e1 : (Ieee.double.fractionBits : Nat) = 52 := rfl
  have e2 : Ieee.double.leastPlace = -1074 := by decide
  have e3 : Ieee.double.binade = 4503599627370496 := by decide
  have e4 : Ieee.double.infRung = 9218868437227405312 := by decide
  simp only [e1, e2, e3, e4]
  rfl
theorem read_eq (w : Nat) : Ieee.double.read w = (if w % 9223372036854775808 < 4503599627370496 then .number (w / 9223372036854775808 % 2 == 1) (w % 9223372036854775808) (-1074)
    else if w % 9223372036854775808 < 9218868437227405312 then .number (w / 9223372036854775808 % 2 == 1) (4503599627370496 + w % 9223372036854775808 % 4503599627370496) (-1074 + ((w % 9223372036854775808 / 4503599627370496 - 1 : Nat) : Int))
    else if w % 9223372036854775808 = 9218868437227405312 then .infinity (w / 9223372036854775808 % 2 == 1) else .nan (w / 9223372036854775808 % 2 == 1) (w % 9223372036854775808 - 9218868437227405312)) := by
  have e1 : Ieee.double.signWeight = 9223372036854775808 := by decide
  have e2 : Ieee.double.leastPlace = -1074 := by decide
  have e3 : Ieee.double.binade = 4503599627370496 := by decide
  have e4 : Ieee.double.infRung = 9218868437227405312 := by decide
  simp only [Ieee.Format.read, e1, e2, e3, e4]
theorem word_eq (neg : Bool) (r : Nat) : Ieee.double.word neg r = if neg then 9223372036854775808 + r else r := by
  have e1 : Ieee.double.signWeight = 9223372036854775808 := by decide
  simp only [Ieee.Format.word, e1]
theorem read_word (neg : Bool) {t kept : Nat} (h : kept < 9007199254740992) (h2 : t = 0 ∨ 4503599627370496 ≤ kept) (ht : t < 2000) :
    ∃ m e, Ieee.double.read (Ieee.double.word neg (min (t * 4503599627370496 + kept) 9218868437227405312)) = .number neg m e ∧ -1074 ≤ e ∧ m * 2 ^ (e + 1074).toNat = kept * 2 ^ t := by
  rw [Nat.min_eq_left (by omega), word_eq, read_eq]
  generalize hr : t * 4503599627370496 + kept = r
  have hlt : r < 9218868437227405312 := by omega
  generalize hw : (if neg then 9223372036854775808 + r else r) = w
  have w1 : w % 9223372036854775808 = r := by
    cases neg
    · simp at hw; omega
    · simp at hw; omega
  have w2 : (w / 9223372036854775808 % 2 == 1) = neg := by
    cases neg
    · simp only [Bool.false_eq_true, if_false] at hw
      rw [beq_eq_false_iff_ne]; omega
    · simp only [if_true] at hw
      rw [beq_iff_eq]; omega
  rw [w1, w2]
  by_cases hc : r < 4503599627370496
  · rw [if_pos hc]
    have : t = 0 := by omega
    subst this
    refine ⟨_, _, rfl, by omega, ?_⟩
    have : r = kept := by omega
    subst this
    rfl
  · rw [if_neg hc, if_pos hlt]
    refine ⟨_, _, rfl, by omega, ?_⟩
    have e1 : 4503599627370496 + r % 4503599627370496 = kept := by omega
    have e2 : (-1074 + ((r / 4503599627370496 - 1 : Nat) : Int) + 1074).toNat = t := by omega
    rw [e1, e2]
/-- a number that the format has is written as it is -/
theorem near (neg : Bool) {z p K mag : Nat} {place : Int} (hm : mag ≠ 0) (hK : K < 9007199254740992) (hp : p ≤ 800) (hz : p ≤ z) (hpl : 0 ≤ place + z) (h : mag * 2 ^ (place + z).toNat = K * 2 ^ (z - p)) :
    ∃ m e, Ieee.double.read (Ieee.double.nearest neg mag place) = .number neg m e ∧ -1074 ≤ e ∧ m * 2 ^ (e + 1074).toNat = K * 2 ^ (1074 - p) := by
  have hK0 : K ≠ 0 := by
    intro e
    subst e
    rw [Nat.zero_mul] at h
    exact Nat.mul_ne_zero hm (Nat.ne_of_gt (Nat.two_pow_pos _)) h
  have hL : K.log2 ≤ 52 := by
    have := (Nat.log2_lt hK0 (k := 53)).2 (by simpa using hK)
    omega
  have hlog : place + (mag.log2 : Int) = K.log2 - p := by
    have a1 := log2_mul_pow hm (place + z).toNat
    have a2 := log2_mul_pow hK0 (z - p)
    rw [h] at a1
    omega
  rw [nearest_eq neg place hm]
  have hlast : max (place + mag.log2 - 52) (-1074) = max ((K.log2 : Int) - p - 52) (-1074) := by rw [hlog]
  rw [hlast]
  generalize hl : max ((K.log2 : Int) - p - 52) (-1074) = last
  -- the digits that are kept
  have hlp : last ≤ -p := by omega
  have key : mag * 2 ^ (place - last).toNat = (K * 2 ^ (-p - last).toNat) * 2 ^ (last - place).toNat := by
    have hP := Nat.two_pow_pos (place + z).toNat
    apply Nat.eq_of_mul_eq_mul_right hP
    have s1 : mag * 2 ^ (place - last).toNat * 2 ^ (place + z).toNat = (mag * 2 ^ (place + z).toNat) * 2 ^ (place - last).toNat := by
      rw [Nat.mul_assoc, Nat.mul_comm (2 ^ (place - last).toNat), ← Nat.mul_assoc]
    rw [s1, h, Nat.mul_assoc, ← Nat.pow_add, Nat.mul_assoc K, ← Nat.pow_add, Nat.mul_assoc K, ← Nat.pow_add]
    congr 2
    omega
  have hk0 : K * 2 ^ (-p - last).toNat ≠ 0 := Nat.mul_ne_zero hK0 (Nat.ne_of_gt (Nat.two_pow_pos _))
  rw [Nat.shiftLeft_eq, key, cut_exact neg hk0]
  have hkl := log2_mul_pow hK0 (-p - last).toNat
  have hk53 : K * 2 ^ (-p - last).toNat < 9007199254740992 := by
    have l2 : K * 2 ^ (-p - last).toNat < 2 ^ ((K * 2 ^ (-p - last).toNat).log2 + 1) := Nat.lt_log2_self
    have l3 : 2 ^ ((K * 2 ^ (-p - last).toNat).log2 + 1) ≤ 2 ^ 53 := Nat.pow_le_pow_right (by decide) (by omega)
    have l4 : (2 : Nat) ^ 53 = 9007199254740992 := by decide
    omega
  have hk52 : (last - (-1074)).toNat = 0 ∨ 4503599627370496 ≤ K * 2 ^ (-p - last).toNat := by
    by_cases hc : last = -1074
    · left; omega
    · right
      have l1 := Nat.log2_self_le hk0
      have l3 : 2 ^ 52 ≤ 2 ^ (K * 2 ^ (-p - last).toNat).log2 := Nat.pow_le_pow_right (by decide) (by omega)
      have l4 : (2 : Nat) ^ 52 = 4503599627370496 := by decide
      omega
  obtain ⟨m, e, r1, r2, r3⟩ := read_word neg hk53 hk52 (by omega)
  refine ⟨m, e, r1, r2, r3.trans ?_⟩
  rw [Nat.mul_assoc, ← Nat.pow_add]
  congr 2
  omega
def sg (s : Bool) (m : Nat) : Int := if s then -(m : Int) else (m : Int)
theorem sg_mul (s : Bool) (m n : Nat) : sg s (m * n) = sg s m * (n : Int) := by
  cases s <;> simp [sg, Int.neg_mul]
theorem signed_eq (s : Bool) (m u : Nat) : Ieee.signed s m u = sg s (m * 2 ^ u) := by
  unfold Ieee.signed sg
  rw [Nat.shiftLeft_eq]
/-- 'x' stands for 'k / 2 ^ p' -/
def Val (p : Nat) (x : Fl) (k : Int) : Prop := ∃ b s m e, x = .bits b ∧ Ieee.double.read b = .number s m e ∧ -1074 ≤ e ∧ sg s (m * 2 ^ (e + 1074).toNat) = k * ((2 ^ (1074 - p) : Nat) : Int)
theorem pow_pos_i (a : Nat) : (0 : Int) < ((2 ^ a : Nat) : Int) := by have := Nat.two_pow_pos a; omega
theorem val_near (neg : Bool) {z p : Nat} {k total : Int} {place : Int} (hp : p ≤ 800) (hz : p ≤ z) (hpl : 0 ≤ place + z) (hk : k.natAbs < 9007199254740992)
    (h : total * ((2 ^ (place + z).toNat : Nat) : Int) = k * ((2 ^ (z - p) : Nat) : Int)) (hs : total ≠ 0 → neg = decide (total < 0)) : Val p (.bits (Ieee.double.nearest neg total.natAbs place)) k := by
  have p1 := pow_pos_i (place + z).toNat
  have p2 := pow_pos_i (z - p)
  by_cases h0 : total = 0
  · subst h0
    rw [Int.zero_mul] at h
    have hk0 : k = 0 := by
      rcases Int.mul_eq_zero.1 h.symm with h | h
      · exact h
      · omega
    subst hk0
    refine ⟨_, neg, 0, -1074, rfl, ?_, by decide, ?_⟩
    · have : Ieee.double.nearest neg (0 : Int).natAbs place = Ieee.double.word neg 0 := rfl
      rw [this]
      cases neg <;> decide
    · rw [Nat.zero_mul, Int.zero_mul]; cases neg <;> rfl
  · obtain ⟨m, e, r1, r2, r3⟩ := near neg (mag := total.natAbs) (K := k.natAbs) (place := place) (z := z) (p := p) (by omega) hk hp hz hpl (by
      have := congrArg Int.natAbs h
      rw [Int.natAbs_mul, Int.natAbs_mul, Int.natAbs_natCast, Int.natAbs_natCast] at this
      exact this)
    refine ⟨_, neg, m, e, rfl, r1, r2, ?_⟩
    rw [r3, sg_mul, hs h0]
    congr 1
    by_cases ht : total < 0
    · have : k < 0 := by
        apply Int.not_le.mp
        intro hk
        have a1 : 0 ≤ k * ((2 ^ (z - p) : Nat) : Int) := Int.mul_nonneg hk (by omega)
        have a2 : total * ((2 ^ (place + z).toNat : Nat) : Int) < 0 := Int.mul_neg_of_neg_of_pos ht p1
        omega
      rw [decide_eq_true ht]; simp only [sg, if_true]; omega
    · have : 0 ≤ k := by
        apply Int.not_lt.mp
        intro hk
        have a1 : k * ((2 ^ (z - p) : Nat) : Int) < 0 := Int.mul_neg_of_neg_of_pos hk p2
        have a2 : 0 ≤ total * ((2 ^ (place + z).toNat : Nat) : Int) := Int.mul_nonneg (by omega) (by omega)
        omega
      rw [decide_eq_false ht]; simp only [sg, Bool.false_eq_true, if_false]; omega
theorem fofi_val {k : Int} (hk : k.natAbs < 9007199254740992) : Val 0 (fofi k) k := by
  have := val_near (decide (k < 0)) (z := 0) (p := 0) (k := k) (total := k) (place := 0) (by decide) (by decide) (by decide) hk rfl (fun _ => rfl)
  exact this
theorem zero_val (p : Nat) : Val p (.bits 0) 0 := by
  refine ⟨0, false, 0, -1074, rfl, by decide, by decide, ?_⟩
  rw [Nat.zero_mul, Int.zero_mul]; rfl
theorem sum_read {a b : Nat} {s t : Bool} {m n : Nat} {i j : Int} {p : Nat} {k l : Int} (hp : p ≤ 800) (hi : -1074 ≤ i) (hj : -1074 ≤ j)
    (h1 : sg s (m * 2 ^ (i + 1074).toNat) = k * ((2 ^ (1074 - p) : Nat) : Int)) (h2 : sg t (n * 2 ^ (j + 1074).toNat) = l * ((2 ^ (1074 - p) : Nat) : Int)) (hk : (k + l).natAbs < 9007199254740992) :
    ∃ d, (Ieee.Datum.number s m i).sum (.number t n j) = some d ∧ Val p (.bits (Ieee.double.write d)) (k + l) := by
  refine ⟨_, rfl, ?_⟩
  refine val_near (z := 1074) (p := p) (k := k + l) _ hp (by omega) (by omega) hk ?_ (fun h => by rw [if_neg h])
  rw [signed_eq, signed_eq, Int.add_mul, Int.add_mul, ← h1, ← h2, ← sg_mul, ← sg_mul, Nat.mul_assoc, ← Nat.pow_add, Nat.mul_assoc, ← Nat.pow_add]
  congr 4 <;> omega
theorem fadd_val {p : Nat} {x y : Fl} {k l : Int} (h1 : Val p x k) (h2 : Val p y l) (hp : p ≤ 800) (hk : (k + l).natAbs < 9007199254740992) : Val p (fadd x y) (k + l) := by
  obtain ⟨a, s, m, i, rfl, r1, hi, v1⟩ := h1
  obtain ⟨b, t, n, j, rfl, r2, hj, v2⟩ := h2
  obtain ⟨d, e1, e2⟩ := sum_read (a := a) (b := b) hp hi hj v1 v2 hk
  have : fadd (.bits a) (.bits b) = .bits (Ieee.double.write d) := by
    show farith .add _ _ = _
    have : floatBits .add .f64 a b = some (Ieee.double.write d) := by
      show Ieee.double.add a b = _
      unfold Ieee.Format.add
      rw [r1, r2, e1]; rfl
    simp only [farith, this]
  rw [this]; exact e2
theorem sg_not (s : Bool) (m : Nat) : sg (!s) m = - sg s m := by cases s <;> simp [sg]
theorem fsub_val {p : Nat} {x y : Fl} {k l : Int} (h1 : Val p x k) (h2 : Val p y l) (hp : p ≤ 800) (hk : (k - l).natAbs < 9007199254740992) : Val p (fsub x y) (k - l) := by
  obtain ⟨a, s, m, i, rfl, r1, hi, v1⟩ := h1
  obtain ⟨b, t, n, j, rfl, r2, hj, v2⟩ := h2
  obtain ⟨d, e1, e2⟩ := sum_read (a := a) (b := b) (t := !t) (n := n) (l := -l) hp hi hj v1 (by rw [sg_not, v2, Int.neg_mul]) (by rw [← Int.sub_eq_add_neg]; exact hk)
  have : fsub (.bits a) (.bits b) = .bits (Ieee.double.write d) := by
    show farith .sub _ _ = _
    have : floatBits .sub .f64 a b = some (Ieee.double.write d) := by
      show Ieee.double.sub a b = _
      unfold Ieee.Format.sub
      rw [r1, r2]
      show (Ieee.Datum.sum _ (Ieee.Datum.number (!t) n j)).map _ = _
      rw [e1]; rfl
    simp only [farith, this]
  rw [this, Int.sub_eq_add_neg]; exact e2
theorem sg_prod (s t : Bool) (m n : Nat) : sg (s ^^ t) (m * n) = sg s m * sg t n := by
  cases s <;> cases t <;> simp [sg, Int.neg_mul, Int.mul_neg]
theorem fmul_val {p q : Nat} {x y : Fl} {k l : Int} (h1 : Val p x k) (h2 : Val q y l) (hp : p + q ≤ 800) (hk : (k * l).natAbs < 9007199254740992) : Val (p + q) (fmul x y) (k * l) := by
  obtain ⟨a, s, m, i, rfl, r1, hi, v1⟩ := h1
  obtain ⟨b, t, n, j, rfl, r2, hj, v2⟩ := h2
  have hw : floatBits .mul .f64 a b = some (Ieee.double.nearest (s ^^ t) (m * n) (i + j)) := by
    show Ieee.double.mul a b = _
    unfold Ieee.Format.mul
    rw [r1, r2]; rfl
  have hf : fmul (.bits a) (.bits b) = .bits (Ieee.double.nearest (s ^^ t) (m * n) (i + j)) := by
    show farith .mul _ _ = _
    simp only [farith, hw]
  rw [hf]
  have hab : (sg (s ^^ t) (m * n)).natAbs = m * n := by unfold sg; split <;> omega
  rw [← hab]
  refine val_near (z := 2148) (p := p + q) (k := k * l) (total := sg (s ^^ t) (m * n)) _ hp (by omega) (by omega) hk ?_ (fun h => ?_)
  · rw [← sg_mul]
    have e : m * n * 2 ^ (i + j + ((2148 : Nat) : Int)).toNat = (m * 2 ^ (i + 1074).toNat) * (n * 2 ^ (j + 1074).toNat) := by
      rw [show (i + j + ((2148 : Nat) : Int)).toNat = (i + 1074).toNat + (j + 1074).toNat by omega, Nat.pow_add]
      rw [Nat.mul_assoc, Nat.mul_assoc]
      congr 1
      rw [← Nat.mul_assoc, ← Nat.mul_assoc, Nat.mul_comm n]
    rw [e, sg_prod, v1, v2, show 2148 - (p + q) = (1074 - p) + (1074 - q) by omega, Nat.pow_add, Int.natCast_mul]
    generalize ((2 ^ (1074 - p) : Nat) : Int) = P
    generalize ((2 ^ (1074 - q) : Nat) : Int) = Q
    grind
  · unfold sg at h ⊢
    cases hst : (s ^^ t)
    · rw [hst] at h
      simp only [Bool.false_eq_true, if_false] at h ⊢
      symm; rw [decide_eq_false_iff_not]; omega
    · rw [hst] at h
      simp only [if_true] at h ⊢
      symm; rw [decide_eq_true_eq]; omega
theorem feq_val {p : Nat} {x y : Fl} {k : Int} (h1 : Val p x k) (h2 : Val p y k) : feq x y = true := by
  obtain ⟨a, s, m, i, rfl, r1, hi, v1⟩ := h1
  obtain ⟨b, t, n, j, rfl, r2, hj, v2⟩ := h2
  have : fcmp (.bits a) (.bits b) = some .eq := by
    show (Ieee.double.read a).order (Ieee.double.read b) = _
    rw [r1, r2]
    unfold Ieee.Datum.order
    simp only [signed_eq]
    have hP := pow_pos_i (min i j + 1074).toNat
    have e : sg s (m * 2 ^ (i - min i j).toNat) = sg t (n * 2 ^ (j - min i j).toNat) := by
      apply Int.eq_of_mul_eq_mul_right (a := ((2 ^ (min i j + 1074).toNat : Nat) : Int)) (by omega)
      rw [← sg_mul, ← sg_mul, Nat.mul_assoc, ← Nat.pow_add, Nat.mul_assoc, ← Nat.pow_add, show (i - min i j).toNat + (min i j + 1074).toNat = (i + 1074).toNat by omega, show (j - min i j).toNat + (min i j + 1074).toNat = (j + 1074).toNat by omega, v1, v2]
    rw [e]
    congr 1
    simp
  unfold feq
  rw [this]; rfl
theorem fneg_val {p : Nat} {x : Fl} {k : Int} (h : Val p x k) : Val p (fneg x) (-k) := by
  obtain ⟨a, s, m, i, rfl, r1, hi, v1⟩ := h
  have hr := rung_neg a
  have hs : ((a ^^^ 2 ^ 63) / 9223372036854775808 % 2 == 1) = !(a / 9223372036854775808 % 2 == 1) := by
    have t1 : (a ^^^ 2 ^ 63).testBit 63 = !a.testBit 63 := by rw [Nat.testBit_xor, Nat.testBit_two_pow]; simp
    rw [Nat.testBit_eq_decide_div_mod_eq, Nat.testBit_eq_decide_div_mod_eq] at t1
    exact t1
  rw [show (2 : Nat) ^ 63 = 9223372036854775808 from rfl] at hr hs
  have rd : Ieee.double.read (a ^^^ 9223372036854775808) = (Ieee.double.read a).opposite := by
    rw [read_eq, read_eq, hr, hs]
    split
    · rfl
    · split
      · rfl
      · split <;> rfl
  refine ⟨a ^^^ 9223372036854775808, !s, m, i, rfl, by rw [rd, r1]; rfl, hi, ?_⟩
  rw [sg_not, v1, Int.neg_mul]
/-! ### Order, scale, quotients by 4096 -/
theorem fcmp_val {p : Nat} {x y : Fl} {k l : Int} (h1 : Val p x k) (h2 : Val p y l) : fcmp x y = some (compare k l) := by
  obtain ⟨a, s, m, i, rfl, r1, hi, v1⟩ := h1
  obtain ⟨b, t, n, j, rfl, r2, hj, v2⟩ := h2
  show (Ieee.double.read a).order (Ieee.double.read b) = _
  rw [r1, r2]
  unfold Ieee.Datum.order
  simp only [signed_eq]
  have hP := pow_pos_i (min i j + 1074).toNat
  have hQ := pow_pos_i (1074 - p)
  have e1 : sg s (m * 2 ^ (i - min i j).toNat) * ((2 ^ (min i j + 1074).toNat : Nat) : Int) = k * ((2 ^ (1074 - p) : Nat) : Int) := by
    rw [← sg_mul, Nat.mul_assoc, ← Nat.pow_add, show (i - min i j).toNat + (min i j + 1074).toNat = (i + 1074).toNat by omega, v1]
  have e2 : sg t (n * 2 ^ (j - min i j).toNat) * ((2 ^ (min i j + 1074).toNat : Nat) : Int) = l * ((2 ^ (1074 - p) : Nat) : Int) := by
    rw [← sg_mul, Nat.mul_assoc, ← Nat.pow_add, show (j - min i j).toNat + (min i j + 1074).toNat = (j + 1074).toNat by omega, v2]
  generalize sg s (m * 2 ^ (i - min i j).toNat) = A at *
  generalize sg t (n * 2 ^ (j - min i j).toNat) = B at *
  generalize ((2 ^ (min i j + 1074).toNat : Nat) : Int) = P at *
  generalize ((2 ^ (1074 - p) : Nat) : Int) = K at *
  congr 1
  have lt1 : A < B ↔ k < l := by
    rw [← Int.mul_lt_mul_right hP, e1, e2, Int.mul_lt_mul_right hQ]
  have eq1 : A = B ↔ k = l := by
    constructor
    · intro h
      subst h
      exact Int.eq_of_mul_eq_mul_right (by omega) (e1.symm.trans e2)
    · intro h
      subst h
      exact Int.eq_of_mul_eq_mul_right (by omega) (e1.trans e2.symm)
  show compareOfLessAndEq A B = compareOfLessAndEq k l
  unfold compareOfLessAndEq
  simp only [lt1, eq1]
theorem fgt_val {p : Nat} {x y : Fl} {k l : Int} (h1 : Val p x k) (h2 : Val p y l) : fgt x y = decide (l < k) := by
  unfold fgt
  rw [fcmp_val h1 h2]
  show (some (compareOfLessAndEq k l) == some Ordering.gt) = _
  unfold compareOfLessAndEq
  by_cases h : k < l
  · rw [if_pos h, decide_eq_false (by omega)]; rfl
  · rw [if_neg h]
    by_cases h' : k = l
    · rw [if_pos h', decide_eq_false (by omega)]; rfl
    · rw [if_neg h', decide_eq_true (by omega)]; rfl
theorem feq_ne {p : Nat} {x y : Fl} {k l : Int} (h1 : Val p x k) (h2 : Val p y l) (h : k ≠ l) : feq x y = false := by
  unfold feq
  rw [fcmp_val h1 h2]
  show (some (compareOfLessAndEq k l) == some Ordering.eq) = _
  unfold compareOfLessAndEq
  by_cases h' : k < l
  · rw [if_pos h']; rfl
  · rw [if_neg h', if_neg h]; rfl
theorem val_scale {p d : Nat} {x : Fl} {k : Int} (h : Val p x k) (hd : p + d ≤ 1074) : Val (p + d) x (k * ((2 ^ d : Nat) : Int)) := by
  obtain ⟨b, s, m, e, rfl, r, he, v⟩ := h
  refine ⟨b, s, m, e, rfl, r, he, v.trans ?_⟩
  rw [Int.mul_assoc, ← Int.natCast_mul, ← Nat.pow_add]
  congr 4
  omega
theorem read_lt {b : Nat} {s : Bool} {m : Nat} {e : Int} (h : Ieee.double.read b = .number s m e) : m < 9007199254740992 := by
  rw [read_eq] at h
  split at h
  · cases h; omega
  · split at h
    · cases h; omega
    · split at h <;> cases h
theorem fadd_s {p : Nat} {x y : Fl} {k l : Int} (h1 : Val p x k) (h2 : Val p y l) (hp : p ≤ 800) (hk : (k + l).natAbs < 9007199254740992) : ∃ r, farithS .add x y = some r ∧ Val p r (k + l) := by
  obtain ⟨a, s, m, i, rfl, r1, hi, v1⟩ := h1
  obtain ⟨b, t, n, j, rfl, r2, hj, v2⟩ := h2
  obtain ⟨d, e1, e2⟩ := sum_read (a := a) (b := b) hp hi hj v1 v2 hk
  refine ⟨_, ?_, e2⟩
  have : floatBits .add .f64 a b = some (Ieee.double.write d) := by
    show Ieee.double.add a b = _
    unfold Ieee.Format.add
    rw [r1, r2, e1]; rfl
  simp only [farithS, this]; rfl
theorem quo_s {x : Fl} {k : Int} (h : Val 0 x k) (hk : k.natAbs < 9007199254740992) : ∃ r, farithS .quo x (Fl.bits 4661225614328463360) = some r ∧ Val 12 r k := by
  obtain ⟨a, s, m, i, rfl, r1, hi, v1⟩ := h
  have hm := read_lt r1
  have r2 : Ieee.double.read 4661225614328463360 = .number false 4503599627370496 (-40) := by decide
  have hl : m.log2 ≤ 52 := by
    by_cases h0 : m = 0
    · subst h0; decide
    · have := (Nat.log2_lt h0 (k := 53)).2 (by simpa using hm); omega
  have l52 : (4503599627370496 : Nat).log2 = 52 := by decide
  generalize hmo : 106 - m.log2 = more
  have hq : (m <<< more) / 4503599627370496 = m * 2 ^ (more - 52) := by
    rw [Nat.shiftLeft_eq, show more = (more - 52) + 52 by omega, Nat.pow_add, ← Nat.mul_assoc, show (4503599627370496 : Nat) = 2 ^ 52 by decide, Nat.mul_div_cancel _ (by decide)]
    congr 1
  have hr : (m <<< more) % 4503599627370496 = 0 := by
    rw [Nat.shiftLeft_eq, show more = (more - 52) + 52 by omega, Nat.pow_add, ← Nat.mul_assoc, show (4503599627370496 : Nat) = 2 ^ 52 by decide, Nat.mul_mod_left]
  have hw : floatBits .quo .f64 a 4661225614328463360 = some (Ieee.double.nearest s (2 * (m * 2 ^ (more - 52))) (i + 40 - more - 1)) := by
    show Ieee.double.div a 4661225614328463360 = _
    unfold Ieee.Format.div
    rw [r1, r2]
    unfold Ieee.Datum.quotient
    simp only [l52]
    rw [if_neg (by decide)]
    have e54 : Ieee.double.fractionBits + 2 + 52 - m.log2 = more := by
      show 52 + 2 + 52 - m.log2 = more
      omega
    rw [e54, hq, hr]
    show some (Ieee.double.nearest (s ^^ false) (2 * (m * 2 ^ (more - 52)) + 0) (i - -40 - more - 1)) = _
    rw [Bool.xor_false, Nat.add_zero, Int.sub_neg]
  refine ⟨_, by simp only [farithS, hw]; rfl, ?_⟩
  have hab : (sg s (2 * (m * 2 ^ (more - 52)))).natAbs = 2 * (m * 2 ^ (more - 52)) := by unfold sg; split <;> omega
  rw [← hab]
  refine val_near (z := 1374) (p := 12) (k := k) (total := sg s (2 * (m * 2 ^ (more - 52)))) s (by decide) (by decide) (by omega) hk ?_ (fun h => ?_)
  · rw [← sg_mul]
    have e : 2 * (m * 2 ^ (more - 52)) * 2 ^ (i + 40 - more - 1 + ((1374 : Nat) : Int)).toNat = m * 2 ^ (i + 1074).toNat * 2 ^ (1374 - 12 - 1074) := by
      rw [show 2 * (m * 2 ^ (more - 52)) = m * 2 ^ (more - 51) by rw [show more - 51 = more - 52 + 1 by omega, Nat.pow_succ]; generalize 2 ^ (more - 52) = X; rw [Nat.mul_comm X 2, ← Nat.mul_assoc, ← Nat.mul_assoc, Nat.mul_comm 2 m]]
      rw [Nat.mul_assoc, ← Nat.pow_add, Nat.mul_assoc, ← Nat.pow_add]
      congr 2
      omega
    rw [e, sg_mul, v1, Int.mul_assoc, ← Int.natCast_mul, ← Nat.pow_add]
  · unfold sg at h ⊢
    cases s
    · simp only [Bool.false_eq_true, if_false] at h ⊢
      symm; rw [decide_eq_false_iff_not]; omega
    · simp only [if_true] at h ⊢
      symm; rw [decide_eq_true_eq]; omega
/-! ### Floats made whole -/
theorem cut_zero (s : Bool) (n drop : Nat) : Ieee.Toward.zero.cut s n drop = n / 2 ^ drop := by
  unfold Ieee.Toward.cut
  simp only [Nat.one_shiftLeft, Bool.toNat_false, Nat.add_zero]
  by_cases h : drop ≤ n.log2 + 2
  · rw [Nat.min_eq_left h]
  · rw [Nat.min_eq_right (by omega)]
    have h1 : n < 2 ^ (n.log2 + 1) := Nat.lt_log2_self
    have h2 : 2 ^ (n.log2 + 1) ≤ 2 ^ (n.log2 + 2) := Nat.pow_le_pow_right (by decide) (by omega)
    have h3 : 2 ^ (n.log2 + 1) ≤ 2 ^ drop := Nat.pow_le_pow_right (by decide) (by omega)
    rw [Nat.div_eq_of_lt (by omega), Nat.div_eq_of_lt (by omega)]
theorem cut_down (s : Bool) (n drop : Nat) : Ieee.Toward.down.cut s n drop = n / 2 ^ drop + (if s = true ∧ n % 2 ^ drop ≠ 0 then 1 else 0) := by
  unfold Ieee.Toward.cut
  simp only [Nat.one_shiftLeft]
  have key : ∀ r : Nat, (s && r != 0).toNat = if s = true ∧ r ≠ 0 then 1 else 0 := by
    intro r
    cases s
    · simp
    · by_cases h : r = 0
      · subst h; rfl
      · rw [if_pos ⟨rfl, h⟩, bne_iff_ne.2 h]; rfl
  rw [key]
  by_cases h : drop ≤ n.log2 + 2
  · rw [Nat.min_eq_left h]
  · rw [Nat.min_eq_right (by omega)]
    have h1 : n < 2 ^ (n.log2 + 1) := Nat.lt_log2_self
    have h2 : 2 ^ (n.log2 + 1) ≤ 2 ^ (n.log2 + 2) := Nat.pow_le_pow_right (by decide) (by omega)
    have h3 : 2 ^ (n.log2 + 1) ≤ 2 ^ drop := Nat.pow_le_pow_right (by decide) (by omega)
    rw [Nat.div_eq_of_lt (by omega), Nat.div_eq_of_lt (by omega), Nat.mod_eq_of_lt (by omega), Nat.mod_eq_of_lt (by omega)]
theorem sg_natAbs (s : Bool) (m : Nat) : (sg s m).natAbs = m := by unfold sg; split <;> omega
theorem whole_val (s : Bool) {K : Nat} (hK : K < 9007199254740992) : Val 0 (.bits (Ieee.double.nearest s K 0)) (sg s K) := by
  have := val_near s (z := 0) (p := 0) (k := sg s K) (total := sg s K) (place := 0) (by decide) (by decide) (by decide) (by rw [sg_natAbs]; exact hK) rfl (fun h => by
    unfold sg at h ⊢
    cases s
    · simp only [Bool.false_eq_true, if_false] at h ⊢
      symm; rw [decide_eq_false_iff_not]; omega
    · simp only [if_true] at h ⊢
      symm; rw [decide_eq_true_eq]; omega)
  rw [sg_natAbs] at this
  exact this
theorem fint_num (way : Ieee.Toward) {a : Nat} {s : Bool} {m : Nat} {e : Int} (h : Ieee.double.read a = .number s m e) : fint way (.bits a) = .bits (Ieee.double.nearest s (way.cut s (m * 2 ^ e.toNat) (-e).toNat) 0) := by
  have h' : FloatKind.f64.decode a = .number s m e := h
  simp only [fint, h']
  show Fl.bits (Ieee.double.nearest s (way.cut s (m <<< e.toNat) (-e).toNat) 0) = _
  rw [Nat.shiftLeft_eq]
theorem feq_dec {p : Nat} {x y : Fl} {k l : Int} (h1 : Val p x k) (h2 : Val p y l) : feq x y = decide (k = l) := by
  by_cases h : k = l
  · subst h; rw [feq_val h1 h2, decide_eq_true rfl]
  · rw [feq_ne h1 h2 h, decide_eq_false h]
theorem fle_dec {p : Nat} {x y : Fl} {k l : Int} (h1 : Val p x k) (h2 : Val p y l) : fle x y = decide (k ≤ l) := by
  unfold fle
  rw [fcmp_val h1 h2]
  show (some (compareOfLessAndEq k l) == some Ordering.lt || some (compareOfLessAndEq k l) == some Ordering.eq) = _
  unfold compareOfLessAndEq
  by_cases h : k < l
  · rw [if_pos h, decide_eq_true (by omega)]; rfl
  · rw [if_neg h]
    by_cases h' : k = l
    · rw [if_pos h', decide_eq_true (by omega)]; rfl
    · rw [if_neg h', decide_eq_false (by omega)]; rfl
theorem fge_dec {p : Nat} {x y : Fl} {k l : Int} (h1 : Val p x k) (h2 : Val p y l) : fge x y = decide (l ≤ k) := by
  unfold fge
  rw [fcmp_val h1 h2]
  show (some (compareOfLessAndEq k l) == some Ordering.gt || some (compareOfLessAndEq k l) == some Ordering.eq) = _
  unfold compareOfLessAndEq
  by_cases h : k < l
  · rw [if_pos h, decide_eq_false (by omega)]; rfl
  · rw [if_neg h]
    by_cases h' : k = l
    · rw [if_pos h', decide_eq_true (by omega)]; rfl
    · rw [if_neg h', decide_eq_true (by omega)]; rfl
/-! ### Whole numbers among the floats -/
theorem farithS_val {op : BinOp} {x y : Fl} {p : Nat} {k : Int} (hx : ∃ a, x = .bits a) (hy : ∃ b, y = .bits b) (h : Val p (farith op x y) k) : farithS op x y = some (farith op x y) := by
  obtain ⟨a, rfl⟩ := hx
  obtain ⟨b, rfl⟩ := hy
  obtain ⟨c, _, _, _, hc, _⟩ := h
  simp only [farith, farithS] at hc ⊢
  cases hf : floatBits op .f64 a b with
  | none => rw [hf] at hc; cases hc
  | some r => rfl
theorem Val.bits {p : Nat} {x : Fl} {k : Int} (h : Val p x k) : ∃ a, x = .bits a := by
  obtain ⟨a, _, _, _, h, _⟩ := h
  exact ⟨a, h⟩
theorem whole_of {y : Fl} {u : Int} (h : Val 12 y (u * 4096)) : ∃ a s m e n drop, y = .bits a ∧ Ieee.double.read a = .number s m e ∧ m * 2 ^ e.toNat = n ∧ (-e).toNat = drop ∧ n = u.natAbs * 2 ^ drop ∧ sg s u.natAbs = u := by
  obtain ⟨a, s, m, e, rfl, hr, he, hv⟩ := h
  refine ⟨a, s, m, e, _, _, rfl, hr, rfl, rfl, ?_, ?_⟩
  · have h1 : m * 2 ^ (e + 1074).toNat = u.natAbs * 4096 * 2 ^ (1074 - 12) := by
      have := congrArg Int.natAbs hv
      rw [sg_natAbs, Int.natAbs_mul, Int.natAbs_mul, Int.natAbs_natCast] at this
      exact this
    have hP := Nat.two_pow_pos (1074 - (-e).toNat)
    apply Nat.eq_of_mul_eq_mul_right hP
    rw [Nat.mul_assoc, ← Nat.pow_add, Nat.mul_assoc, ← Nat.pow_add, show e.toNat + (1074 - (-e).toNat) = (e + 1074).toNat by omega, h1, show (4096 : Nat) = 2 ^ 12 by decide, Nat.mul_assoc, ← Nat.pow_add]
    congr 2
    omega
  · have hP := pow_pos_i (1074 - 12)
    by_cases h0 : u = 0
    · subst h0; cases s <;> rfl
    · have hu : 0 ≤ u * 4096 * ((2 ^ (1074 - 12) : Nat) : Int) ↔ 0 ≤ u := by
        constructor
        · intro h
          apply Int.not_lt.mp
          intro hu
          have : u * 4096 * ((2 ^ (1074 - 12) : Nat) : Int) < 0 := Int.mul_neg_of_neg_of_pos (by omega) hP
          omega
        · intro h; exact Int.mul_nonneg (by omega) (by omega)
      have hnz : u * 4096 * ((2 ^ (1074 - 12) : Nat) : Int) ≠ 0 := by
        intro h
        rcases Int.mul_eq_zero.1 h with h | h <;> omega
      rw [← hv] at hu hnz
      generalize m * 2 ^ (e + 1074).toNat = M at *
      cases s
      · simp only [sg, Bool.false_eq_true, if_false] at hu hnz ⊢
        omega
      · simp only [sg, if_true] at hu hnz ⊢
        omega
theorem ftoi_whole {y : Fl} {u : Int} (h : Val 12 y (u * 4096)) (hu : -4611686018427387904 ≤ u ∧ u ≤ 4611686018427387904) : ftoi .i64 y = some u := by
  obtain ⟨a, s, m, e, n, drop, rfl, hr, hn, hd, hnu, hs⟩ := whole_of h
  show floatToIntVal .f64 a .i64 = _
  unfold floatToIntVal
  have h' : FloatKind.f64.decode a = .number s m e := hr
  rw [h']
  have : (Ieee.Datum.number s m e).toInt .zero = some u := by
    show some (Ieee.signed s (Ieee.Toward.zero.cut s (m <<< e.toNat) (-e).toNat) 0) = _
    rw [Nat.shiftLeft_eq, cut_zero, hn, hd, hnu, Nat.mul_div_cancel _ (Nat.two_pow_pos drop), signed_eq, Nat.pow_zero, Nat.mul_one, hs]
  rw [this]
  simp only
  have e1 : IntKind.i64.min = -9223372036854775808 := by decide
  have e2 : IntKind.i64.max = 9223372036854775807 := by decide
  rw [if_pos (by rw [e1, e2]; omega)]
theorem floor_whole {y : Fl} {u : Int} (h : Val 12 y (u * 4096)) (hu : u.natAbs < 9007199254740992) : feq (fint Ieee.Toward.down y) y = true := by
  have h0 := h
  obtain ⟨a, s, m, e, n, drop, rfl, hr, hn, hd, hnu, hs⟩ := whole_of h
  have hm : n % 2 ^ drop = 0 := by rw [hnu]; exact Nat.mul_mod_left _ _
  rw [fint_num _ hr, hn, hd, cut_down, hm, if_neg (by simp), Nat.add_zero, hnu, Nat.mul_div_cancel _ (Nat.two_pow_pos drop)]
  have w := val_scale (d := 12) (whole_val s hu) (by decide)
  rw [hs, Nat.zero_add] at w
  exact feq_val w h0
/-! ### Samples -/
theorem wf_i32 {x : Int} (h : (Lit.int .i32 x).wf = true) : -2147483648 ≤ x ∧ x < 2147483648 := by
  simp [Lit.wf, IntKind.min, IntKind.max, IntKind.bits, IntKind.signed] at h
  omega
def qv (k : Int) : Fl := (farithS .quo (fofi k) (Fl.bits 4661225614328463360)).getD .nan
theorem qv_ok {k : Int} (h : -2147483648 ≤ k ∧ k < 2147483648) : farithS .quo (fofi k) (Fl.bits 4661225614328463360) = some (qv k) ∧ Val 12 (qv k) k := by
  obtain ⟨r, h1, h2⟩ := quo_s (fofi_val (k := k) (by omega)) (by omega)
  unfold qv
  rw [h1]
  exact ⟨rfl, h2⟩
def smp (l : List (Int × Int × Bool)) : List ((Fl × Fl) × Bool) := l.map fun x => ((qv x.1, qv x.2.1), x.2.2)
def Ok32 (l : List (Int × Int × Bool)) : Prop := ∀ x ∈ l, (-2147483648 ≤ x.1 ∧ x.1 < 2147483648) ∧ (-2147483648 ≤ x.2.1 ∧ x.2.1 < 2147483648)
theorem lst {σ R : Type} {f : σ → Option (σ ⊕ R)} (n : Nat) (g : Nat → σ) (r : R)
    (h1 : ∀ i : Nat, i < n → f (g i) = some (.inl (g (i + 1)))) (h2 : f (g n) = some (.inr r)) : loop f (g 0) = some r := by
  have : ∀ k i : Nat, i + k = n → loop f (g i) = some r := by
    intro k
    induction k with
    | zero => intro i hi; obtain rfl : i = n := by omega
              exact loop_done h2
    | succ k ih => intro i hi; rw [loop_step (h1 i (by omega))]; exact ih (i + 1) (by omega)
  exact this n 0 (by omega)
theorem app_loop {α : Type} {f : List α × Int → Option ((List α × Int) ⊕ List α)} (D : List α) (hl : (D.length : Int) < 9223372036854775807)
    (h1 : ∀ (i : Nat) (hi : i < D.length) (T : List α), T.length = i → f (T, (i : Int)) = some (.inl (T ++ [D[i]], IntKind.i64.wrap ((i : Int) + 1)))) (h2 : f (D, (D.length : Int)) = some (.inr D)) :
    loop f ([], 0) = some D := by
  have := lst (f := f) D.length (fun i => (D.take i, (i : Int))) D (fun i hi => ?_) ?_
  · simpa using this
  · rw [h1 i hi _ (by simp; omega), w64 (by omega) (by omega), List.take_succ_eq_append_getElem hi]; rfl
  · simpa using h2
def mark : (Fl × Fl) × Bool := ((Fl.bits 4651892959631900672, Fl.bits 0), false)
theorem samples_ok {l : List (Int × Int × Bool)} (ho : Ok32 l) (hl : l.length ≤ 1048576) : f_foghornlaw23_samples l = some (smp l, [mark]) := by
  unfold f_foghornlaw23_samples
  have hL : (smp l).length = l.length := by simp [smp]
  have := app_loop (f := f_foghornlaw23_samples.s1 l) (smp l) (by omega) (fun i hi T hT => by
    have hi' : i < l.length := by omega
    simp only [f_foghornlaw23_samples.s1, f_foghornlaw23_samples.s1c]
    obtain ⟨o1, o2⟩ := ho _ (List.getElem_mem hi')
    rw [if_pos (by rw [decide_eq_true_eq]; omega), if_pos (by omega), gt_nat hi', (qv_ok o1).1]
    simp only [Option.bind_some]
    rw [if_pos (by omega), (qv_ok o2).1]
    simp only [Option.bind_some]
    rw [if_pos (by omega), if_pos (by simp only [List.length_cons, List.length_nil]; omega)]
    simp [smp]) (by
    simp only [f_foghornlaw23_samples.s1, f_foghornlaw23_samples.s1c]
    rw [if_neg (by rw [hL]; simp)])
  rw [this]
  simp only [Option.bind_some]
  rw [if_pos (by simp only [List.length_cons, List.length_nil]; omega), if_pos (by simp; omega)]
  simp [mark]
/-- what a sample stands for -/
structure SV (s : (Fl × Fl) × Bool) (u v : Int) : Prop where
  re : Val 12 s.1.1 u
  im : Val 12 s.1.2 v
  u0 : -2147483648 ≤ u
  u1 : u < 2147483648
  v0 : -2147483648 ≤ v
  v1 : v < 2147483648
theorem smp_sv {l : List (Int × Int × Bool)} (ho : Ok32 l) {i : Nat} (hi : i < (smp l).length) : SV (smp l)[i] (gt l (i : Int)).1 (gt l (i : Int)).2.1 := by
  have hi' : i < l.length := by simpa [smp] using hi
  obtain ⟨o1, o2⟩ := ho _ (List.getElem_mem hi')
  rw [gt_nat hi']
  have e : (smp l)[i] = ((qv l[i].1, qv l[i].2.1), l[i].2.2) := by simp [smp]
  rw [e]
  exact ⟨(qv_ok o1).2, (qv_ok o2).2, o1.1, o1.2, o2.1, o2.2⟩
/-! ### The grid -/
def onb (u : Int) : Bool := decide (-4194304 ≤ u ∧ u ≤ 4194304)
theorem k1024 : Val 12 (Fl.bits 4652218415073722368) 4194304 := ⟨_, false, 4503599627370496, -42, rfl, by decide, by decide, by decide +kernel⟩
theorem m1024 : Val 12 (Fl.bits 13875590451928498176) (-4194304) := ⟨_, true, 4503599627370496, -42, rfl, by decide, by decide, by decide +kernel⟩
theorem c4096 : Val 0 (Fl.bits 4661225614328463360) 4096 := ⟨_, false, 4503599627370496, -40, rfl, by decide, by decide, by decide +kernel⟩
theorem within_dec {x : Fl} {u : Int} (h : Val 12 x u) : ((fge x (Fl.bits 13875590451928498176)) && (fle x (Fl.bits 4652218415073722368))) = onb u := by
  rw [fge_dec h m1024, fle_dec h k1024]
  unfold onb
  by_cases h1 : -4194304 ≤ u <;> by_cases h2 : u ≤ 4194304 <;> simp [h1, h2]
theorem on_r {x : Fl} {u : Int} (h : Val 12 x u) : f_foghornref02_On x = some (onb u) := by
  unfold f_foghornref02_On
  rw [within_dec h]
  cases ho : onb u
  · rfl
  · unfold onb at ho
    rw [decide_eq_true_eq] at ho
    have hm := fmul_val h c4096 (by decide) (by omega)
    rw [Nat.add_zero] at hm
    rw [if_neg (by decide), ftoi_whole hm (by omega)]
    simp only [Option.bind_some]
    have hf := val_scale (d := 12) (fofi_val (k := u) (by omega)) (by decide)
    rw [Nat.zero_add] at hf
    rw [feq_val hf hm]
theorem on_c {x : Fl} {u : Int} (h : Val 12 x u) : f_grid_On x = some (onb u) := by
  unfold f_grid_On f_grid_within f_math_Floor
  simp only [Option.bind_some]
  rw [within_dec h]
  cases ho : onb u
  · rfl
  · unfold onb at ho
    rw [decide_eq_true_eq] at ho
    have hm := fmul_val h c4096 (by decide) (by omega)
    rw [Nat.add_zero] at hm
    rw [if_pos rfl, floor_whole hm (by omega)]; rfl
def mayb (s : (Fl × Fl) × Bool) (u v : Int) : Bool := if s.2 = true then ceq s.1 (Fl.bits 0, Fl.bits 0) else onb u && onb v
theorem may_r {s : (Fl × Fl) × Bool} {u v : Int} (h : SV s u v) : f_foghornref02_May s.1 s.2 = some (mayb s u v) := by
  unfold f_foghornref02_May mayb
  by_cases hs : s.2 = true
  · rw [if_pos hs, if_pos hs]; rfl
  · rw [if_neg hs, if_neg hs, on_r h.re, on_r h.im]
    simp only [Option.bind_some]
    cases onb u <;> rfl
theorem may_c {s : (Fl × Fl) × Bool} {u v : Int} (h : SV s u v) : f_grid_may s.1 s.2 = some (mayb s u v) := by
  unfold f_grid_may mayb
  by_cases hs : s.2 = true
  · rw [if_pos hs, if_pos hs]
  · rw [if_neg hs, if_neg hs, on_c h.re, on_c h.im]
    simp only [Option.bind_some]
    cases onb u <;> rfl
/-! ### Costs -/
def sgn (b : Bool) : Int := if b then 1 else -1
def sgf (b : Bool) : Fl := if b then Fl.bits 4607182418800017408 else Fl.bits 13830554455654793216
theorem sgf_val (b : Bool) : Val 0 (sgf b) (sgn b) := by
  cases b
  · exact ⟨_, true, 4503599627370496, -52, rfl, by decide, by decide, by decide +kernel⟩
  · exact ⟨_, false, 4503599627370496, -52, rfl, by decide, by decide, by decide +kernel⟩
theorem sgn_mul (b : Bool) (u : Int) : sgn b * u = u ∨ sgn b * u = -u := by cases b <;> simp [sgn]
theorem two_val : Val 0 (Fl.bits 4611686018427387904) 2 := ⟨_, false, 4503599627370496, -51, rfl, by decide, by decide, by decide +kernel⟩
theorem cost_eq (one two : Bool) (v : Fl × Fl) (lost : Bool) : f_foghornref23_cost one two v lost = f_soft_cost one two v lost := rfl
def costV (one two : Bool) (s : (Fl × Fl) × Bool) (u v : Int) : Int := if s.2 = true then 0 else 8192 - 2 * (sgn one * u + sgn two * v)
theorem cost_ok (one two : Bool) {s : (Fl × Fl) × Bool} {u v : Int} (h : SV s u v) (hm : mayb s u v = true) : ∃ c, f_soft_cost one two s.1 s.2 = some c ∧ Val 12 c (costV one two s u v) ∧ (costV one two s u v).natAbs ≤ 33554432 := by
  unfold f_soft_cost costV
  by_cases hs : s.2 = true
  · rw [if_pos hs, if_pos hs]
    exact ⟨_, rfl, zero_val 12, by decide⟩
  · rw [if_neg hs, if_neg hs]
    unfold mayb at hm
    rw [if_neg hs] at hm
    simp only [onb, Bool.and_eq_true, decide_eq_true_eq] at hm
    have b1 := sgn_mul one u
    have b2 := sgn_mul two v
    have e1 : f_soft_sign one = some (sgf one) := by cases one <;> rfl
    have e2 : f_soft_sign two = some (sgf two) := by cases two <;> rfl
    rw [e1, e2]
    simp only [Option.bind_some]
    have m1 := fmul_val (sgf_val one) h.re (by decide) (by omega)
    have m2 := fmul_val (sgf_val two) h.im (by decide) (by omega)
    have m3 := fadd_val m1 m2 (by decide) (by omega)
    have m4 := fmul_val two_val m3 (by decide) (by omega)
    have s2 := val_scale (d := 12) two_val (by decide)
    have m5 := fsub_val s2 m4 (by decide) (by omega)
    rw [farithS_val (sgf_val one).bits h.re.bits m1]
    simp only [Option.bind_some]
    rw [farithS_val (sgf_val two).bits h.im.bits m2]
    simp only [Option.bind_some]
    rw [farithS_val m1.bits m2.bits m3]
    simp only [Option.bind_some]
    rw [farithS_val two_val.bits m3.bits m4]
    simp only [Option.bind_some]
    rw [farithS_val two_val.bits m4.bits m5]
    refine ⟨_, rfl, ?_, by omega⟩
    have : (2 : Int) * ((2 ^ 12 : Nat) : Int) - 2 * (sgn one * u + sgn two * v) = 8192 - 2 * (sgn one * u + sgn two * v) := by rw [show ((2 ^ 12 : Nat) : Int) = 4096 by decide]; omega
    rw [← this]
    exact m5
theorem Cost_both (one two : Bool) {s : (Fl × Fl) × Bool} {u v : Int} (h : SV s u v) : ∃ c e, f_foghornref23_Cost one two s.1 s.2 = some (c, e) ∧ f_soft_Cost one two s.1 s.2 = some (c, e) ∧ feq c c = true := by
  unfold f_foghornref23_Cost f_soft_Cost
  have hg : f_grid_Check [(s.1, s.2)] = some (0, if mayb s u v = true then 0 else 7) := by
    unfold f_grid_Check
    rw [if_neg (by simp)]
    have h0 : f_grid_Check.s1 [(s.1, s.2)] 0 = (f_grid_may s.1 s.2).bind fun q10 => (if (!q10) = true then (some (Sum.inr (Sum.inr (0, (7 : Int))))) else (some (Sum.inl (IntKind.i64.wrap (0 + 1))))) := rfl
    rw [may_c h] at h0
    simp only [Option.bind_some] at h0
    cases hm : mayb s u v
    · rw [hm] at h0
      rw [loop_done h0]; rfl
    · rw [hm] at h0
      rw [loop_step h0, loop_done (r := .inl ()) (by rfl)]; rfl
  rw [may_r h, hg]
  simp only [Option.bind_some]
  cases hm : mayb s u v
  · exact ⟨Fl.bits 0, 7, rfl, rfl, by decide +kernel⟩
  · obtain ⟨c, e1, e2, _⟩ := cost_ok one two h hm
    rw [cost_eq, e1]
    exact ⟨c, 0, rfl, rfl, feq_val e2 e2⟩
/-! ### A row against the grid -/
def gal (f : Nat → Bool) : Nat → Bool
  | 0 => true
  | i + 1 => gal f i && f i
theorem gal_false {f : Nat → Bool} : ∀ {i j : Nat}, i ≤ j → gal f i = false → gal f j = false := by
  intro i j h h0
  induction j with
  | zero => obtain rfl : i = 0 := by omega
            exact h0
  | succ j ih =>
    by_cases e : i = j + 1
    · subst e; exact h0
    · simp only [gal]; rw [ih (by omega)]; rfl
theorem gal_at {f : Nat → Bool} : ∀ {i j : Nat}, gal f j = true → i < j → f i = true := by
  intro i j h hi
  induction j with
  | zero => omega
  | succ j ih =>
    simp only [gal, Bool.and_eq_true] at h
    by_cases e : i = j
    · subst e; exact h.2
    · exact ih h.1 (by omega)
def SR (L : List ((Fl × Fl) × Bool)) (U V : Nat → Int) : Prop := ∀ i, i < L.length → SV (gt L (i : Int)) (U i) (V i)
def mf (L : List ((Fl × Fl) × Bool)) (U V : Nat → Int) (i : Nat) : Bool := mayb (gt L (i : Int)) (U i) (V i)
theorem grid_c {L : List ((Fl × Fl) × Bool)} {U V : Nat → Int} (h : SR L U V) (hl : L.length ≤ 16384) : ∃ x, f_grid_Check L = some (x, if gal (mf L U V) L.length = true then 0 else 7) := by
  have key : ∀ k i : Nat, i + k = L.length → gal (mf L U V) i = true → ∃ x, loop (f_grid_Check.s1 L) (i : Int) = some (if gal (mf L U V) L.length = true then .inl () else .inr (x, 7)) := by
    intro k
    induction k with
    | zero =>
      intro i hi h0
      obtain rfl : i = L.length := by omega
      refine ⟨0, ?_⟩
      rw [if_pos h0]
      apply loop_done
      simp only [f_grid_Check.s1, f_grid_Check.s1c]
      rw [if_neg (by simp)]
    | succ k ih =>
      intro i hi h0
      have hs : f_grid_Check.s1 L (i : Int) = some (if mf L U V i = true then .inl ((i + 1 : Nat) : Int) else .inr (.inr ((i : Int), 7))) := by
        simp only [f_grid_Check.s1, f_grid_Check.s1c]
        rw [if_pos (by rw [decide_eq_true_eq]; omega), if_pos (by omega), may_c (h i (by omega))]
        simp only [Option.bind_some]
        rw [show mayb (gt L (i : Int)) (U i) (V i) = mf L U V i from rfl, w64 (by omega) (by omega)]
        cases mf L U V i <;> rfl
      by_cases hm : mf L U V i = true
      · rw [if_pos hm] at hs
        rw [loop_step hs]
        exact ih (i + 1) (by omega) (by simp only [gal]; rw [h0, hm]; rfl)
      · rw [if_neg hm] at hs
        refine ⟨(i : Int), ?_⟩
        rw [loop_done hs, if_neg]
        rw [gal_false (i := i + 1) (by omega) (by simp only [gal]; rw [h0]; cases h' : mf L U V i <;> simp_all)]
        decide
  obtain ⟨x, hx⟩ := key L.length 0 (by omega) rfl
  rw [show ((0 : Nat) : Int) = 0 from rfl] at hx
  unfold f_grid_Check
  rw [if_neg (by rw [decide_eq_true_eq]; omega), hx]
  by_cases ha : gal (mf L U V) L.length = true
  · rw [if_pos ha, if_pos ha]; exact ⟨0, rfl⟩
  · rw [if_neg ha, if_neg ha]; exact ⟨x, rfl⟩
theorem grid_r {L : List ((Fl × Fl) × Bool)} {U V : Nat → Int} (h : SR L U V) (hl : L.length ≤ 16384) : f_foghornref23_grid L = some (gal (mf L U V) L.length) := by
  have key : ∀ k i : Nat, i + k = L.length → gal (mf L U V) i = true → loop (f_foghornref23_grid.s1 L) (i : Int) = some (if gal (mf L U V) L.length = true then .inl () else .inr false) := by
    intro k
    induction k with
    | zero =>
      intro i hi h0
      obtain rfl : i = L.length := by omega
      rw [if_pos h0]
      apply loop_done
      simp only [f_foghornref23_grid.s1, f_foghornref23_grid.s1c]
      rw [if_neg (by simp)]
    | succ k ih =>
      intro i hi h0
      have hs : f_foghornref23_grid.s1 L (i : Int) = some (if mf L U V i = true then .inl ((i + 1 : Nat) : Int) else .inr (.inr false)) := by
        simp only [f_foghornref23_grid.s1, f_foghornref23_grid.s1c]
        rw [if_pos (by rw [decide_eq_true_eq]; omega), if_pos (by omega), may_r (h i (by omega))]
        simp only [Option.bind_some]
        rw [show mayb (gt L (i : Int)) (U i) (V i) = mf L U V i from rfl, w64 (by omega) (by omega)]
        cases mf L U V i <;> rfl
      by_cases hm : mf L U V i = true
      · rw [if_pos hm] at hs
        rw [loop_step hs]
        exact ih (i + 1) (by omega) (by simp only [gal]; rw [h0, hm]; rfl)
      · rw [if_neg hm] at hs
        rw [loop_done hs, if_neg]
        rw [gal_false (i := i + 1) (by omega) (by simp only [gal]; rw [h0]; cases h' : mf L U V i <;> simp_all)]
        decide
  have hx := key L.length 0 (by omega) rfl
  rw [show ((0 : Nat) : Int) = 0 from rfl] at hx
  unfold f_foghornref23_grid
  rw [hx]
  by_cases ha : gal (mf L U V) L.length = true
  · rw [if_pos ha, ha]; rfl
  · rw [if_neg ha]
    have : gal (mf L U V) L.length = false := by cases h' : gal (mf L U V) L.length <;> simp_all
    rw [this]; rfl
/-! ### The cost of a row -/
def pc (n a b : Nat) (bits : List Bool) (L : List ((Fl × Fl) × Bool)) (U V : Nat → Int) : Nat → Int
  | 0 => 0
  | i + 1 => pc n a b bits L U V i + costV (ob n a (st n bits i) (bitAt bits i)) (ob n b (st n bits i) (bitAt bits i)) (gt L (i : Int)) (U i) (V i)
theorem path_loops {n a b : Nat} (hc : CodeOK n a b) (bits : List Bool) {L : List ((Fl × Fl) × Bool)} {U V : Nat → Int} (h : SR L U V) (hl : L.length ≤ 16384) (ha : gal (mf L U V) L.length = true) :
    ∃ x, loop (f_soft_Path.s1 (n : Int) (a : Int) (b : Int) bits L) (Fl.bits 0, 0, 0) = some x ∧ loop (f_foghornref23_Path.s1 (n : Int) (a : Int) (b : Int) bits L) (Fl.bits 0, 0, 0) = some x ∧ Val 12 x (pc n a b bits L U V L.length) ∧ (pc n a b bits L U V L.length).natAbs ≤ L.length * 33554432 := by
  have key : ∀ k i : Nat, i + k = L.length → ∀ x : Fl, Val 12 x (pc n a b bits L U V i) → (pc n a b bits L U V i).natAbs ≤ i * 33554432 →
      ∃ y, loop (f_soft_Path.s1 (n : Int) (a : Int) (b : Int) bits L) (x, ((st n bits i : Nat) : Int), (i : Int)) = some y ∧ loop (f_foghornref23_Path.s1 (n : Int) (a : Int) (b : Int) bits L) (x, ((st n bits i : Nat) : Int), (i : Int)) = some y ∧ Val 12 y (pc n a b bits L U V L.length) ∧ (pc n a b bits L U V L.length).natAbs ≤ L.length * 33554432 := by
    intro k
    induction k with
    | zero =>
      intro i hi x hx hb
      obtain rfl : i = L.length := by omega
      refine ⟨x, loop_done ?_, loop_done ?_, hx, hb⟩
      · simp only [f_soft_Path.s1, f_soft_Path.s1c]
        rw [if_neg (by simp)]
      · simp only [f_foghornref23_Path.s1, f_foghornref23_Path.s1c]
        rw [if_neg (by simp)]
    | succ k ih =>
      intro i hi x hx hb
      have hs := st_lt hc bits i
      obtain ⟨c, c1, c2, c3⟩ := cost_ok (ob n a (st n bits i) (bitAt bits i)) (ob n b (st n bits i) (bitAt bits i)) (h i (by omega)) (gal_at ha (show i < L.length by omega))
      have hb2 : (pc n a b bits L U V (i + 1)).natAbs ≤ (i + 1) * 33554432 := by
        simp only [pc]
        omega
      have hx2 : Val 12 (fadd x c) (pc n a b bits L U V (i + 1)) := fadd_val hx c2 (by decide) (by simp only [pc] at hb2; omega)
      obtain ⟨y, y1, y2, y3⟩ := ih (i + 1) (by omega) (fadd x c) hx2 hb2
      refine ⟨y, (loop_step ?_).trans y1, (loop_step ?_).trans y2, y3⟩
      · simp only [f_soft_Path.s1, f_soft_Path.s1c]
        rw [if_pos (by rw [decide_eq_true_eq]; omega), if_pos (by omega), bit_read]
        simp only [Option.bind_some]
        rw [Step_ok hc hs]
        simp only [Option.bind_some]
        rw [c1]
        simp only [Option.bind_some]
        rw [w64 (by omega) (by omega)]; rfl
      · simp only [f_foghornref23_Path.s1, f_foghornref23_Path.s1c]
        rw [if_pos (by rw [decide_eq_true_eq]; omega), bit_read]
        simp only [Option.bind_some]
        rw [go_ok hc hs]
        simp only [Option.bind_some]
        rw [if_pos (by omega), cost_eq, c1]
        simp only [Option.bind_some]
        rw [w64 (by omega) (by omega)]; rfl
  exact key L.length 0 (by omega) (Fl.bits 0) (zero_val 12) (by simp [pc])
theorem Path_both {Le o t : Int} (w0 : (Lit.int .i64 Le).wf = true) (w1 : (Lit.int .u32 o).wf = true) (w2 : (Lit.int .u32 t).wf = true) (bits : List Bool) {L : List ((Fl × Fl) × Bool)} {U V : Nat → Int} (h : SR L U V) :
    ∃ c e, f_soft_Path Le o t bits L = some (c, e) ∧ f_foghornref23_Path Le o t bits L = some (c, e) ∧ feq c c = true := by
  have z : feq (Fl.bits 0) (Fl.bits 0) = true := by decide +kernel
  unfold f_soft_Path f_foghornref23_Path
  rcases code_dich w0 w1 w2 with ⟨n, a, b, rfl, rfl, rfl, hc, hm⟩ | ⟨hc, hm⟩
  · rw [check_ok hc, hm]
    simp only [Option.bind_some]
    by_cases hd : ((decide ((16384 : Int) < (L.length : Int))) || ((IntKind.i64.wrap ((IntKind.i64.wrap ((bits.length : Int) + (n : Int))) - (1 : Int))) != (L.length : Int))) = true
    · rw [if_pos (by rw [Bool.or_assoc, hd]; rfl), if_pos (by rw [Bool.or_assoc, hd]; rfl)]
      exact ⟨_, _, rfl, rfl, z⟩
    · have hd' : ((decide ((16384 : Int) < (L.length : Int))) || ((IntKind.i64.wrap ((IntKind.i64.wrap ((bits.length : Int) + (n : Int))) - (1 : Int))) != (L.length : Int))) = false := by
        cases hh : ((decide ((16384 : Int) < (L.length : Int))) || ((IntKind.i64.wrap ((IntKind.i64.wrap ((bits.length : Int) + (n : Int))) - (1 : Int))) != (L.length : Int))) <;> simp_all
      rw [if_neg (by rw [Bool.or_assoc, hd']; decide), if_neg (by rw [Bool.or_assoc, hd']; decide)]
      simp only [Bool.or_eq_false_iff, decide_eq_false_iff_not] at hd'
      obtain ⟨x, hx⟩ := grid_c h (by omega)
      rw [hx, grid_r h (by omega)]
      simp only [Option.bind_some]
      by_cases ha : gal (mf L U V) L.length = true
      · obtain ⟨y, y1, y2, y3, _⟩ := path_loops hc bits h (by omega) ha
        rw [if_pos ha, if_neg (by decide), y1, ha, if_neg (by decide), y2]
        exact ⟨_, _, rfl, rfl, feq_val y3 y3⟩
      · have ha' : gal (mf L U V) L.length = false := by cases h' : gal (mf L U V) L.length <;> simp_all
        rw [if_neg ha, if_pos (by decide), ha', if_pos (by decide)]
        exact ⟨_, _, rfl, rfl, z⟩
  · rw [hc, hm]
    exact ⟨_, _, rfl, rfl, z⟩
/-! ### A message sent -/
theorem sign_c (b : Bool) : f_soft_sign b = some (sgf b) := by cases b <;> rfl
theorem sign_r (b : Bool) : f_foghornref23_sign b = some (sgf b) := by cases b <;> rfl
theorem Point_c (x y : Bool) : f_soft_Point x y = some (sgf x, sgf y) := by unfold f_soft_Point; rw [sign_c, sign_c]; rfl
theorem Point_r (x y : Bool) : f_foghornref23_Point x y = some (sgf x, sgf y) := by unfold f_foghornref23_Point; rw [sign_r, sign_r]; rfl
theorem pt_self (x y : Bool) : ceq (sgf x, sgf y) (sgf x, sgf y) = true := by
  unfold ceq
  rw [feq_val (sgf_val x) (sgf_val x), feq_val (sgf_val y) (sgf_val y)]; rfl
def ptE (E : List Bool) (j : Nat) : Fl × Fl := (sgf (gt E ((2 * j : Nat) : Int)), sgf (gt E ((2 * j + 1 : Nat) : Int)))
def ptsE (E : List Bool) (T : Nat) : List (Fl × Fl) := (List.range T).map (ptE E)
theorem ptsE_len (E : List Bool) (T : Nat) : (ptsE E T).length = T := by simp [ptsE]
theorem ptsE_succ (E : List Bool) (T : Nat) : ptsE E (T + 1) = ptsE E T ++ [ptE E T] := by simp [ptsE, List.range_succ]
theorem Send_both {Le o t : Int} (w0 : (Lit.int .i64 Le).wf = true) (w1 : (Lit.int .u32 o).wf = true) (w2 : (Lit.int .u32 t).wf = true) (bits : List Bool) (hl : bits.length ≤ 1048576) :
    ∃ E T e, f_soft_Send Le o t bits = some (ptsE E T, e) ∧ f_foghornref23_Send Le o t bits = some (ptsE E T, e) ∧ T ≤ 16384 := by
  have both : ∃ E T e, f_trellis_Code_Encode Le o t bits = some (E, e) ∧ f_foghornref21_Encode Le o t bits = some (E, e) ∧ E.length = 2 * T ∧ T ≤ 16384 ∧ (e = 0 ∨ e = 1) := by
    rcases code_dich w0 w1 w2 with ⟨n, a, b, rfl, rfl, rfl, h, hm⟩ | ⟨h, hm⟩
    · by_cases hs : bits.length + n - 1 ≤ 16384
      · exact ⟨_, bits.length + n - 1, 0, encode_ok h bits hs, by rw [rencode_ok h hm bits (by omega), if_pos hs], by rw [enc_len], hs, .inl rfl⟩
      · exact ⟨[], 0, 1, encode_long h bits (by omega) hs, by rw [rencode_ok h hm bits (by omega), if_neg hs], rfl, by decide, .inr rfl⟩
    · refine ⟨[], 0, 1, ?_, ?_, rfl, by decide, .inr rfl⟩
      · unfold f_trellis_Code_Encode f_trellis_Code_through
        rw [h]; rfl
      · unfold f_foghornref21_Encode
        rw [hm]; rfl
  obtain ⟨E, T, e, e1, e2, e3, e4, e5⟩ := both
  unfold f_soft_Send f_foghornref23_Send
  rw [e1, e2]
  simp only [Option.bind_some]
  rcases e5 with rfl | rfl
  · have l1 := lst (f := f_soft_Send.s1 (E, 0)) T (fun j => (ptsE E j, ((2 * j : Nat) : Int))) (ptsE E T) (fun j hj => by
      simp only [f_soft_Send.s1, f_soft_Send.s1c]
      rw [w64 (x := ((2 * j : Nat) : Int) + 1) (by omega) (by omega), if_pos (by rw [decide_eq_true_eq]; omega), if_pos (by omega), if_pos (by omega), Point_c]
      simp only [Option.bind_some]
      rw [if_pos (by rw [ptsE_len]; simp only [List.length_cons, List.length_nil]; omega), w64 (by omega) (by omega), ptsE_succ]
      have ew : ((2 * j : Nat) : Int) + 2 = ((2 * (j + 1) : Nat) : Int) := by omega
      rw [ew]; rfl) (by
      simp only [f_soft_Send.s1, f_soft_Send.s1c]
      rw [if_neg (by rw [decide_eq_true_eq]; omega)])
    have l2 := lst (f := f_foghornref23_Send.s1 (E, 0)) T (fun j => (ptsE E j, ((2 * j : Nat) : Int))) (ptsE E T) (fun j hj => by
      simp only [f_foghornref23_Send.s1, f_foghornref23_Send.s1c]
      rw [w64 (x := ((2 * j : Nat) : Int) + 1) (by omega) (by omega), if_pos (by rw [decide_eq_true_eq]; omega), if_pos (by omega), if_pos (by omega), Point_r]
      simp only [Option.bind_some]
      rw [if_pos (by rw [ptsE_len]; simp only [List.length_cons, List.length_nil]; omega), w64 (by omega) (by omega), ptsE_succ]
      have ew : ((2 * j : Nat) : Int) + 2 = ((2 * (j + 1) : Nat) : Int) := by omega
      rw [ew]; rfl) (by
      simp only [f_foghornref23_Send.s1, f_foghornref23_Send.s1c]
      rw [w64 (x := ((2 * T : Nat) : Int) + 1) (by omega) (by omega), if_neg (by rw [decide_eq_true_eq]; omega)])
    have l1' : loop (f_soft_Send.s1 (E, 0)) ([], 0) = some (ptsE E T) := l1
    have l2' : loop (f_foghornref23_Send.s1 (E, 0)) ([], 0) = some (ptsE E T) := l2
    have hd : ((E.length : Int)).tdiv 2 = (T : Int) := by rw [Int.tdiv_eq_ediv_of_nonneg (by omega)]; omega
    refine ⟨E, T, 0, ?_, ?_, e4⟩
    · rw [if_neg (by decide), hd, w64 (by omega) (by omega), if_pos (by omega), show List.replicate ((0 : Int)).toNat ((Fl.bits 0, Fl.bits 0) : Fl × Fl) = [] from rfl, l1']; rfl
    · rw [if_neg (by decide), l2']; rfl
  · refine ⟨[], 0, 1, ?_, ?_, by decide⟩
    · rw [if_pos (by decide)]; rfl
    · rw [if_pos (by decide)]; rfl
/-! ### The law -/
theorem gt_app {α : Type} [Inhabited α] (l : List α) (c : α) : gt (l ++ [c]) (l.length : Int) = c := by
  rw [gt_nat (by simp), List.getElem_append_right (Nat.le_refl _)]; simp
theorem sc_s1 (E : List Bool) {T : Nat} (hT : T ≤ 16384) (e e' : Int) : ∀ k i : Nat, i + k = T → ∀ P : List (Fl × Fl), P.length = T → (∀ j : Nat, i ≤ j → j < T → gt P (j : Int) = ptE E j) → loop (f_foghornlaw23_SoftCosts.s1 (ptsE E T, e) (ptsE E T, e')) (P, (i : Int)) = some (.inl ()) := by
  have hg : ∀ j : Nat, j < T → gt (ptsE E T) (j : Int) = ptE E j := by
    intro j hj
    rw [gt_nat (by rw [ptsE_len]; exact hj)]; simp [ptsE]
  have hL := ptsE_len E T
  intro k
  induction k with
  | zero =>
    intro i hi P hP _
    apply loop_done
    simp only [f_foghornlaw23_SoftCosts.s1, f_foghornlaw23_SoftCosts.s1c]
    rw [if_neg (by rw [decide_eq_true_eq]; omega)]
  | succ k ih =>
    intro i hi P hP hh
    rw [← ih (i + 1) (by omega) (P.set i (Fl.bits 4632937379169042432, Fl.bits 0)) (by simpa using hP) (fun j hj hj2 => by
      rw [gt_nat (by simp; omega), List.getElem_set_ne (by omega), ← gt_nat (by omega), hh j (by omega) hj2])]
    apply loop_step
    simp only [f_foghornlaw23_SoftCosts.s1, f_foghornlaw23_SoftCosts.s1c]
    have hp : ceq (ptE E i) (ptE E i) = true := pt_self _ _
    rw [if_pos (by rw [decide_eq_true_eq]; omega), if_pos (by omega), if_pos (by omega), hh i (Nat.le_refl _) (by omega), hg i (by omega), hp, if_neg (by decide), if_pos (by omega), if_pos (by omega), if_pos (by omega), if_neg (by decide), w64 (by omega) (by omega), Int.toNat_natCast]; rfl
theorem same02 {L : List ((Fl × Fl) × Bool)} {U V : Nat → Int} (h : SR L U V) (hl : L.length ≤ 1048576) : f_foghornref02_Same L L = some true := by
  unfold f_foghornref02_Same
  rw [if_neg (by simp)]
  have : loop (f_foghornref02_Same.s1 L L) 0 = some (.inl ()) := by
    refine loop_for1 L.length (Sum.inl ()) (fun i hi => ?_) ?_
    · simp only [f_foghornref02_Same.s1, f_foghornref02_Same.s1c]
      have hs := h i hi
      have hc : ceq (gt L (i : Int)).1 (gt L (i : Int)).1 = true := by
        unfold ceq
        rw [feq_val hs.re hs.re, feq_val hs.im hs.im]; rfl
      rw [if_pos (by rw [decide_eq_true_eq]; omega), if_pos (by omega), if_pos (by omega), if_neg (by simp), if_pos (by omega), if_pos (by omega), hc]
      simp only [Option.bind_some, Bool.not_true, Bool.false_eq_true, if_false]
      rw [w64 (by omega) (by omega)]; rfl
    · simp only [f_foghornref02_Same.s1, f_foghornref02_Same.s1c]
      rw [if_neg (by simp)]
  rw [this]; rfl
theorem costs_true (Le : Int) (w0 : (Lit.int .i64 Le).wf = true) (o : Int) (w1 : (Lit.int .u32 o).wf = true) (t : Int) (w2 : (Lit.int .u32 t).wf = true) (one two : Bool) (bits : List Bool) {g3 : Prop} (w3 : g3) (r3 : bits.length ≤ 1048576)
    (l : List (Int × Int × Bool)) (w4 : ∀ x ∈ l, (Lit.int .i32 x.1).wf = true ∧ (Lit.int .i32 x.2.1).wf = true ∧ True) (r4 : l.length ≤ 1048576) :
    f_foghornlaw23_SoftCosts Le o t one two bits l = some true := by
  have ho : Ok32 l := fun x hx => ⟨wf_i32 (w4 x hx).1, wf_i32 (w4 x hx).2.1⟩
  have hL : (smp l).length = l.length := by simp [smp]
  have hSR : SR (smp l) (fun i => (gt l (i : Int)).1) (fun i => (gt l (i : Int)).2.1) := fun i hi => by
    have := smp_sv ho hi
    rw [gt_nat hi]; exact this
  have hj : f_foghornlaw23_SoftCosts.j1 Le o t one two bits l (smp l, [mark]) = some true := by
    unfold f_foghornlaw23_SoftCosts.j1
    have hcode : f_foghornlaw23_code Le o t = some (Le, o, t) := rfl
    obtain ⟨E, T, e, e1, e2, e3⟩ := Send_both w0 w1 w2 bits r3
    obtain ⟨c, f, p1, p2, p3⟩ := Path_both w0 w1 w2 bits hSR
    have hcut : (((([] : List Bool) ++ bits) ++ [true]).drop 0).take (((bits.length : Int)).toNat - 0) = bits := by simp
    rw [e2]
    simp only [Option.bind_some]
    rw [hcode]
    simp only [Option.bind_some]
    rw [if_pos (by simp; omega), hcut, e1]
    simp only [Option.bind_some]
    rw [if_pos (by simp; omega)]
    rw [if_neg (by simp), Point_c, Point_r]
    simp only [Option.bind_some]
    rw [pt_self]
    simp only [Bool.not_true, Bool.false_eq_true, if_false]
    have hs := sc_s1 E e3 e e T 0 (by omega) (ptsE E T) (ptsE_len E T) (fun j _ hj => by rw [gt_nat (by rw [ptsE_len]; exact hj)]; simp [ptsE])
    rw [show ((0 : Nat) : Int) = 0 from rfl] at hs
    rw [hs]
    simp only [Option.bind_some, sm]
    rw [p2]
    simp only [Option.bind_some]
    rw [if_pos (by simp; omega), p1]
    simp only [Option.bind_some]
    rw [p3]
    simp only [Bool.true_and, beq_self_eq_true, if_true]
    rw [if_pos (by simp; omega), same_self bits (by omega)]
    simp only [Option.bind_some, if_true]
    rw [if_pos (by simp; omega), List.nil_append, gt_app]
    simp only [Option.bind_some, if_true]
    rw [samples_ok ho r4]
    simp only [Option.bind_some]
    rw [same02 hSR (by omega)]
    simp only [Option.bind_some, if_true]
    have e5 : IntKind.i64.wrap ((l.length : Int) + 1) = ((l.length + 1 : Nat) : Int) := by rw [w64 (by omega) (by omega)]; omega
    have e6 : (smp l ++ [mark]).take (l.length + 1) = smp l ++ [mark] := List.take_of_length_le (by simp; omega)
    have e7 : ceq mark.1 (Fl.bits 4651892959631900672, Fl.bits 0) = true := by decide +kernel
    have e8 : gt (smp l ++ [mark]) (l.length : Int) = mark := by rw [← hL]; exact gt_app _ _
    rw [e5, Int.toNat_natCast, e6, if_pos (by simp; omega), if_pos (by simp; omega), e8, e7]; rfl
  unfold f_foghornlaw23_SoftCosts
  rw [samples_ok ho r4]
  simp only [Option.bind_some]
  rw [if_pos (by simp; omega), if_pos (by simp; omega)]
  by_cases h0 : (0 : Int) < (l.length : Int)
  · rw [if_pos (by rw [decide_eq_true_eq]; exact h0), if_pos (by omega)]
    have hs0 := hSR 0 (by omega)
    obtain ⟨c, e, c1, c2, c3⟩ := Cost_both one two hs0
    rw [show ((0 : Nat) : Int) = 0 from rfl] at c1 c2
    rw [c1]
    simp only [Option.bind_some]
    rw [if_pos (by omega), c2]
    simp only [Option.bind_some]
    have hn : fne c c = false := by
      have : fne c c = !feq c c := rfl
      rw [this, c3]; rfl
    rw [hn, if_neg (by simp)]
    exact hj
  · rw [if_neg (by rw [decide_eq_true_eq]; exact h0)]
    exact hj

end Go.Proofs.Ytcooefnbolobaaa
