/- TrellisWalks: the plain law. -/
import Derived.Test.YtilodendgbjelaaG4
import Derived.Test.YtilodendgbjelaaGlW
set_option linter.unusedVariables false
set_option linter.unusedSimpArgs false
set_option maxRecDepth 8000
namespace Go.Proofs.Ytilodendgbjelaa
open GL

/-! ### Codes -/
structure CodeOK (n a b : Nat) : Prop where
  n2 : 2 ≤ n
  n7 : n ≤ 7
  a1 : 1 ≤ a
  b1 : 1 ≤ b
  an : a < 2 ^ n
  bn : b < 2 ^ n
  top : 2 ^ (n - 1) ≤ max a b
theorem CodeOK.pq {n a b : Nat} (h : CodeOK n a b) : ∃ q, 2 ^ (n - 1) = 2 * q ∧ 2 ^ n = 4 * q ∧ 1 ≤ q ∧ q ≤ 32 ∧ q = 2 ^ (n - 2) := by
  have h1 := h.n2
  have h2 := h.n7
  have : n = 2 ∨ n = 3 ∨ n = 4 ∨ n = 5 ∨ n = 6 ∨ n = 7 := by omega
  rcases this with rfl | rfl | rfl | rfl | rfl | rfl <;> exact ⟨_, rfl, rfl, by decide, by decide, rfl⟩
theorem len_tab0 : ∀ n : Nat, n < 8 → ∀ m : Nat, m < 128 → (decide (1 ≤ n ∧ 2 ^ (n - 1) ≤ m ∧ m < 2 ^ n) → (f_math_bits_Len32 (m : Int) == some (n : Int)) = true) := by decide +kernel
theorem len_tab (n : Nat) (hn : n < 8) (m : Nat) (hm : m < 128) (h1 : 1 ≤ n) (h2 : 2 ^ (n - 1) ≤ m) (h3 : m < 2 ^ n) : f_math_bits_Len32 (m : Int) = some (n : Int) :=
  eq_of_beq (len_tab0 n hn m hm (by simp [h1, h2, h3]))
theorem check_ok {n a b : Nat} (h : CodeOK n a b) : f_trellis_Code_Check (n : Int) (a : Int) (b : Int) = some 0 := by
  obtain ⟨q, p1, p2, q1, q2, _⟩ := h.pq
  have h1 := h.n2; have h2 := h.n7; have h3 := h.a1; have h4 := h.b1; have h5 := h.an; have h6 := h.bn; have h7 := h.top
  unfold f_trellis_Code_Check
  rw [imin_nat, imax_nat, if_neg (by simp; omega), len_tab n (by omega) (max a b) (by omega) (by omega) h7 (by omega)]
  simp
noncomputable def oc (x : Nat) : Bool := (f_trellis_Code_step_1 (x : Int)).getD false
theorem oc_tab : ∀ x, x < 128 → (f_trellis_Code_step_1 ((x : Nat) : Int)).isSome = true := by decide +kernel
theorem oc_some {x : Nat} (h : x < 128) : f_trellis_Code_step_1 (x : Int) = some (oc x) := by
  have := oc_tab x h
  unfold oc
  cases hh : f_trellis_Code_step_1 (x : Int) with
  | none => rw [hh] at this; cases this
  | some y => rfl
/-- the register behind a bit; the next state; what is coded -/
def al (n s : Nat) (b : Bool) : Nat := s + if b then 2 ^ (n - 1) else 0
def nx (n s : Nat) (b : Bool) : Nat := al n s b / 2
noncomputable def ob (n a s : Nat) (b : Bool) : Bool := oc (al n s b &&& a)
theorem al_lt {n a b : Nat} (h : CodeOK n a b) {s : Nat} (hs : s < 2 ^ (n - 1)) (c : Bool) : al n s c < 2 ^ n := by
  obtain ⟨q, p1, p2, q1, q2, _⟩ := h.pq
  unfold al; rw [p2]; split <;> omega
theorem nx_lt {n a b : Nat} (h : CodeOK n a b) {s : Nat} (hs : s < 2 ^ (n - 1)) (c : Bool) : nx n s c < 2 ^ (n - 1) := by
  have := al_lt h hs c
  obtain ⟨q, p1, p2, q1, q2, _⟩ := h.pq
  unfold nx; rw [p1]; rw [p2] at this; omega
theorem step_ok {n a b : Nat} (h : CodeOK n a b) {s : Nat} (hs : s < 2 ^ (n - 1)) (c : Bool) :
    f_trellis_Code_step (n : Int) (a : Int) (b : Int) (s : Int) c = some (((nx n s c : Nat) : Int), ob n a s c, ob n b s c) := by
  have hal := al_lt h hs c
  obtain ⟨q, p1, p2, q1, q2, _⟩ := h.pq
  have h1 := h.n2; have h2 := h.n7; have h3 := h.a1; have h4 := h.b1; have h5 := h.an; have h6 := h.bn
  have j : f_trellis_Code_step.j1 (a : Int) (b : Int) ((al n s c : Nat) : Int) = some (((nx n s c : Nat) : Int), ob n a s c, ob n b s c) := by
    have e1 : al n s c &&& a ≤ al n s c := Nat.and_le_left
    have e2 : al n s c &&& b ≤ al n s c := Nat.and_le_left
    have hx : al n s c / 2 = nx n s c := rfl
    unfold f_trellis_Code_step.j1
    rw [iand32 (by omega) (by omega), iand32 (by omega) (by omega), oc_some (by omega), oc_some (by omega)]
    simp only [Option.bind_some]
    rw [show ((1 : Int)) = ((1 : Nat) : Int) from rfl, ishr_nat (by decide), show al n s c / 2 ^ 1 = nx n s c from hx, w64 (by omega) (by omega)]
    rfl
  unfold f_trellis_Code_step
  cases c with
  | false =>
    rw [if_neg (by simp), w32 (by omega) (by omega)]
    exact j
  | true =>
    have e1 : al n s true = s ||| 2 ^ (n - 1) := by
      have := Nat.two_pow_add_eq_or_of_lt hs 1
      simp only [al, if_true]
      rw [Nat.or_comm, Nat.add_comm]; simpa using this
    rw [if_pos rfl, w64 (by omega) (by omega), if_pos (by omega), w32 (by omega) (by omega), show (n : Int) - 1 = ((n - 1 : Nat) : Int) by omega, show ((1 : Int)) = ((1 : Nat) : Int) from rfl, ishl32 (by omega) (by omega), Nat.one_mul, ior32 (by omega) (by omega), ← e1]
    exact j
theorem states_ok {n a b : Nat} (h : CodeOK n a b) : f_trellis_Code_States (n : Int) (a : Int) (b : Int) = some (((2 ^ (n - 1) : Nat) : Int), 0) := by
  obtain ⟨q, p1, p2, q1, q2, _⟩ := h.pq
  have h1 := h.n2; have h2 := h.n7
  unfold f_trellis_Code_States
  rw [check_ok h]
  simp only [Option.bind_some]
  rw [if_neg (by simp), w64 (by omega) (by omega), if_pos (by omega), show (n : Int) - 1 = ((n - 1 : Nat) : Int) by omega, show ((1 : Int)) = ((1 : Nat) : Int) from rfl, ishl64 (by omega) (by omega), Nat.one_mul]
theorem state_ok {n a b : Nat} (h : CodeOK n a b) {s : Nat} (hs : s < 2 ^ (n - 1)) : f_trellis_Code_state (n : Int) (a : Int) (b : Int) (s : Int) = some 0 := by
  unfold f_trellis_Code_state
  rw [states_ok h]
  simp only [Option.bind_some]
  generalize 2 ^ (n - 1) = p at *
  rw [if_neg (by simp; omega)]
theorem Step_ok {n a b : Nat} (h : CodeOK n a b) {s : Nat} (hs : s < 2 ^ (n - 1)) (c : Bool) :
    f_trellis_Code_Step (n : Int) (a : Int) (b : Int) (s : Int) c = some (((nx n s c : Nat) : Int), ob n a s c, ob n b s c, 0) := by
  unfold f_trellis_Code_Step
  rw [state_ok h hs]
  simp only [Option.bind_some]
  rw [if_neg (by simp), step_ok h hs]
  rfl

/-! ### The way of a message -/
def bitAt (l : List Bool) (i : Nat) : Bool := if i < l.length then gt l (i : Int) else false
def st (n : Nat) (l : List Bool) : Nat → Nat
  | 0 => 0
  | i + 1 => nx n (st n l i) (bitAt l i)
noncomputable def enc (n a b : Nat) (l : List Bool) : Nat → List Bool
  | 0 => []
  | i + 1 => enc n a b l i ++ [ob n a (st n l i) (bitAt l i), ob n b (st n l i) (bitAt l i)]
def wk (n : Nat) (l : List Bool) (i : Nat) : List Int := (List.range (i + 1)).map fun j => ((st n l j : Nat) : Int)
theorem st_lt {n a b : Nat} (h : CodeOK n a b) (l : List Bool) : ∀ i, st n l i < 2 ^ (n - 1)
  | 0 => by obtain ⟨q, p1, _, q1, _⟩ := h.pq; rw [p1]; simp only [st]; omega
  | i + 1 => nx_lt h (st_lt h l i) _
theorem enc_len (n a b : Nat) (l : List Bool) : ∀ i, (enc n a b l i).length = 2 * i
  | 0 => rfl
  | i + 1 => by simp only [enc, List.length_append, enc_len n a b l i, List.length_cons, List.length_nil]; omega
theorem enc_get (n a b : Nat) (l : List Bool) : ∀ i j, j < i → gt (enc n a b l i) ((2 * j : Nat) : Int) = ob n a (st n l j) (bitAt l j) ∧ gt (enc n a b l i) ((2 * j + 1 : Nat) : Int) = ob n b (st n l j) (bitAt l j)
  | 0, j, h => by omega
  | i + 1, j, h => by
    have hl := enc_len n a b l i
    simp only [enc]
    by_cases hj : j < i
    · obtain ⟨h1, h2⟩ := enc_get n a b l i j hj
      constructor
      · rw [← h1, gt_nat (by simp only [List.length_append, hl, List.length_cons, List.length_nil]; omega), gt_nat (by omega), List.getElem_append_left (by omega)]
      · rw [← h2, gt_nat (by simp only [List.length_append, hl, List.length_cons, List.length_nil]; omega), gt_nat (by omega), List.getElem_append_left (by omega)]
    · obtain rfl : j = i := by omega
      rw [gt_nat (by simp only [List.length_append, hl, List.length_cons, List.length_nil]; omega), gt_nat (by simp only [List.length_append, hl, List.length_cons, List.length_nil]; omega), List.getElem_append_right (by omega), List.getElem_append_right (by omega)]
      simp only [hl, Nat.sub_self, show 2 * j + 1 - 2 * j = 1 by omega]
      exact ⟨rfl, rfl⟩
theorem wk_len (n : Nat) (l : List Bool) (i : Nat) : (wk n l i).length = i + 1 := by simp [wk]
theorem wk_get (n : Nat) (l : List Bool) {i j : Nat} (h : j ≤ i) : gt (wk n l i) (j : Int) = ((st n l j : Nat) : Int) := by
  rw [gt_nat (by rw [wk_len]; omega)]; simp [wk]
theorem wk_succ (n : Nat) (l : List Bool) (i : Nat) : wk n l (i + 1) = wk n l i ++ [((st n l (i + 1) : Nat) : Int)] := by
  simp only [wk]; rw [List.range_succ, List.map_append]; rfl
/-- it ends in 0 -/
theorem st_down (n : Nat) (l : List Bool) : ∀ k, st n l (l.length + k) * 2 ^ k ≤ st n l l.length
  | 0 => by simp
  | k + 1 => by
    have ih := st_down n l k
    have : st n l (l.length + (k + 1)) = st n l (l.length + k) / 2 := by
      show nx n (st n l (l.length + k)) (bitAt l (l.length + k)) = _
      have : bitAt l (l.length + k) = false := by unfold bitAt; rw [if_neg (by omega)]
      rw [this]; simp [nx, al]
    rw [this, Nat.pow_succ, Nat.mul_comm (2 ^ k) 2, ← Nat.mul_assoc]
    exact Nat.le_trans (Nat.mul_le_mul_right _ (Nat.div_mul_le_self _ 2)) ih
theorem st_end {n a b : Nat} (h : CodeOK n a b) (l : List Bool) : st n l (l.length + (n - 1)) = 0 := by
  have h1 := st_down n l (n - 1)
  have h2 := st_lt h l l.length
  rcases Nat.eq_zero_or_pos (st n l (l.length + (n - 1))) with h0 | h0
  · exact h0
  · have := Nat.mul_le_mul_right (2 ^ (n - 1)) h0
    simp only [Nat.one_mul, Nat.succ_eq_add_one, Nat.zero_add] at this
    omega
theorem bit_read {l : List Bool} (i : Nat) : (if (decide ((i : Int) < (l.length : Int))) = true then (if 0 ≤ (i : Int) ∧ (i : Int) < (l.length : Int) then (some (gt l (i : Int))) else none) else (some false)) = some (bitAt l i) := by
  unfold bitAt
  by_cases h : i < l.length
  · rw [if_pos (by simpa using h), if_pos (by omega), if_pos h]
  · rw [if_neg (by simpa using h), if_neg h]
theorem through_enc {n a b : Nat} (h : CodeOK n a b) (l : List Bool) (hl : l.length + n - 1 ≤ 16384) :
    f_trellis_Code_through (n : Int) (a : Int) (b : Int) l (n : Int) (a : Int) (b : Int) [] = some (0, enc n a b l (l.length + n - 1)) := by
  have h1 := h.n2; have h2 := h.n7
  have key : ∀ k i : Nat, i + k = l.length + n - 1 → loop (f_trellis_Code_through.s1 (n : Int) l (n : Int) (a : Int) (b : Int)) (enc n a b l i, ((st n l i : Nat) : Int), (i : Int)) = some (enc n a b l (l.length + n - 1)) := by
    intro k
    induction k with
    | zero =>
      intro i hi
      obtain rfl : i = l.length + n - 1 := by omega
      apply loop_done
      simp only [f_trellis_Code_through.s1, f_trellis_Code_through.s1c]
      rw [w64 (x := (l.length : Int) + (n : Int)) (by omega) (by omega), w64 (by omega) (by omega), if_neg (by simp; omega)]
    | succ k ih =>
      intro i hi
      rw [← ih (i + 1) (by omega)]
      apply loop_step
      simp only [f_trellis_Code_through.s1, f_trellis_Code_through.s1c]
      rw [w64 (x := (l.length : Int) + (n : Int)) (by omega) (by omega), w64 (x := (l.length : Int) + (n : Int) - 1) (by omega) (by omega), if_pos (by simp; omega), bit_read]
      simp only [Option.bind_some]
      rw [step_ok h (st_lt h l i)]
      simp only [Option.bind_some, f_trellis_Code_Encode_1]
      rw [if_pos (by rw [enc_len]; simp; omega), w64 (by omega) (by omega)]
      rfl
  unfold f_trellis_Code_through
  rw [check_ok h]
  simp only [Option.bind_some]
  rw [if_neg (by simp), w64 (x := (l.length : Int) + (n : Int)) (by omega) (by omega), w64 (x := (l.length : Int) + (n : Int) - 1) (by omega) (by omega), if_neg (by simp; omega)]
  have := key (l.length + n - 1) 0 (by omega)
  rw [show enc n a b l 0 = [] from rfl, show ((st n l 0 : Nat) : Int) = 0 from rfl, show ((0 : Nat) : Int) = 0 from rfl] at this
  rw [this]
  rfl
theorem encode_ok {n a b : Nat} (h : CodeOK n a b) (l : List Bool) (hl : l.length + n - 1 ≤ 16384) :
    f_trellis_Code_Encode (n : Int) (a : Int) (b : Int) l = some (enc n a b l (l.length + n - 1), 0) := by
  unfold f_trellis_Code_Encode
  rw [through_enc h l hl]
  rfl
/-! ### awake -/
theorem same_self (l : List Bool) (hl : l.length < 9223372036854775807) : f_foghornref21_Same l l = some true := by
  unfold f_foghornref21_Same
  rw [if_neg (by simp)]
  have := loop_for1 (f := f_foghornref21_Same.s1 l l) l.length (.inl ()) (fun i hi => ?_) ?_
  · rw [this]; rfl
  · simp only [f_foghornref21_Same.s1, f_foghornref21_Same.s1c]
    rw [if_pos (by simpa using hi), if_pos (by omega), if_pos (by omega), if_neg (by simp), w64 (by omega) (by omega)]
    rfl
  · simp only [f_foghornref21_Same.s1, f_foghornref21_Same.s1c]
    rw [if_neg (by simp)]
theorem awake_true : f_foghornlaw21_awake = some true := by
  unfold f_foghornlaw21_awake
  have hc : CodeOK 3 7 5 := ⟨by decide, by decide, by decide, by decide, by decide, by decide, by decide⟩
  have h1 := encode_ok hc [true] (by decide)
  rw [show ((3 : Nat) : Int) = 3 from rfl, show ((7 : Nat) : Int) = 7 from rfl, show ((5 : Nat) : Int) = 5 from rfl] at h1
  have h2 : enc 3 7 5 [true] ([true].length + 3 - 1) = [true, true, true, false, true, true] := by decide +kernel
  rw [h1, h2]
  simp only [Option.bind_some, beq_self_eq_true, if_true]
  rw [same_self _ (by decide)]
  rfl
/-! ### The code that a law picks -/
theorem code_ok {length one two : Int} {second : Bool} (w0 : (Lit.int .u8 length).wf = true) (w1 : (Lit.int .u32 one).wf = true) (w2 : (Lit.int .u32 two).wf = true) :
    ∃ n a b : Nat, CodeOK n a b ∧ f_foghornlaw21_code length one two second = some ((n : Int), (a : Int), (b : Int)) := by
  have b0 := wf_u8 w0
  have b1 := wf_u32 w1
  have b2 := wf_u32 w2
  obtain ⟨m, hm⟩ : ∃ m : Nat, length = (m : Int) := ⟨length.toNat, by omega⟩
  obtain ⟨x, hx⟩ : ∃ m : Nat, one = (m : Int) := ⟨one.toNat, by omega⟩
  obtain ⟨y, hy⟩ : ∃ m : Nat, two = (m : Int) := ⟨two.toNat, by omega⟩
  subst hm hx hy
  have en : IntKind.i64.wrap ((IntKind.i64.wrap (m : Int)).tmod 6 + 2) = ((m % 6 + 2 : Nat) : Int) := by
    rw [w64 (x := (m : Int)) (by omega) (by omega), show (6 : Int) = ((6 : Nat) : Int) from rfl, tmod_nat, w64 (by omega) (by omega)]; omega
  obtain ⟨n, hn⟩ : ∃ n, n = m % 6 + 2 := ⟨_, rfl⟩
  have h2 : 2 ≤ n := by omega
  have h7 : n ≤ 7 := by omega
  obtain ⟨q, p1, p2, q1, q2⟩ : ∃ q, 2 ^ (n - 1) = 2 * q ∧ 2 ^ n = 4 * q ∧ 1 ≤ q ∧ q ≤ 32 := by
    have : n = 2 ∨ n = 3 ∨ n = 4 ∨ n = 5 ∨ n = 6 ∨ n = 7 := by omega
    refine ⟨2 ^ (n - 2), ?_⟩
    rcases this with h | h | h | h | h | h <;> rw [h] <;> decide
  have et : ishl .u32 (1 : Int) ((n : Nat) : Int) = ((4 * q : Nat) : Int) := by
    rw [show ((1 : Int)) = ((1 : Nat) : Int) from rfl, ishl32 (by omega) (by omega), Nat.one_mul, p2]
  have e2 : IntKind.u32.wrap ((((4 * q : Nat) : Int)).tdiv 2) = ((2 * q : Nat) : Int) := by
    rw [show (2 : Int) = ((2 : Nat) : Int) from rfl, tdiv_nat, w32 (by omega) (by omega)]; omega
  have e3 : IntKind.u32.wrap (((4 * q : Nat) : Int) - 1) = ((4 * q - 1 : Nat) : Int) := by
    rw [w32 (by omega) (by omega)]; omega
  have m1 := Nat.mod_lt x (show 0 < 2 * q by omega)
  have m2 := Nat.mod_lt y (show 0 < 4 * q - 1 by omega)
  have e4 : IntKind.u32.wrap (((x : Int)).tmod ((2 * q : Nat) : Int) + ((2 * q : Nat) : Int)) = ((x % (2 * q) + 2 * q : Nat) : Int) := by
    rw [tmod_nat]
    generalize x % (2 * q) = z at *
    rw [w32 (by omega) (by omega)]; omega
  have e5 : IntKind.u32.wrap (((y : Int)).tmod ((4 * q - 1 : Nat) : Int) + 1) = ((y % (4 * q - 1) + 1 : Nat) : Int) := by
    rw [tmod_nat]
    generalize y % (4 * q - 1) = z at *
    rw [w32 (by omega) (by omega)]; omega
  unfold f_foghornlaw21_code
  rw [en, ← hn, et, e2, e3, e4, e5, if_pos (by omega), if_pos (by omega), if_pos (by omega)]
  generalize x % (2 * q) = u at *
  generalize y % (4 * q - 1) = z at *
  cases second with
  | false => exact ⟨n, u + 2 * q, z + 1, ⟨h2, h7, by omega, by omega, by rw [p2]; omega, by rw [p2]; omega, by rw [p1]; omega⟩, by rw [if_neg (by simp)]⟩
  | true => exact ⟨n, z + 1, u + 2 * q, ⟨h2, h7, by omega, by omega, by rw [p2]; omega, by rw [p2]; omega, by rw [p1]; omega⟩, by rw [if_pos rfl]⟩
/-! ### Walks -/
theorem through_walk {n a b : Nat} (h : CodeOK n a b) (l : List Bool) (hl : l.length + n - 1 ≤ 16384) :
    f_trellis_Code_through_36 (n : Int) (a : Int) (b : Int) l (n : Int) (a : Int) (b : Int) [0] = some (0, wk n l (l.length + n - 1)) := by
  have h1 := h.n2; have h2 := h.n7
  have key : ∀ k i : Nat, i + k = l.length + n - 1 → loop (f_trellis_Code_through_36.s1 (n : Int) l (n : Int) (a : Int) (b : Int)) (wk n l i, ((st n l i : Nat) : Int), (i : Int)) = some (wk n l (l.length + n - 1)) := by
    intro k
    induction k with
    | zero =>
      intro i hi
      obtain rfl : i = l.length + n - 1 := by omega
      apply loop_done
      simp only [f_trellis_Code_through_36.s1, f_trellis_Code_through_36.s1c]
      rw [w64 (x := (l.length : Int) + (n : Int)) (by omega) (by omega), w64 (by omega) (by omega), if_neg (by simp; omega)]
    | succ k ih =>
      intro i hi
      rw [← ih (i + 1) (by omega)]
      apply loop_step
      simp only [f_trellis_Code_through_36.s1, f_trellis_Code_through_36.s1c]
      rw [w64 (x := (l.length : Int) + (n : Int)) (by omega) (by omega), w64 (x := (l.length : Int) + (n : Int) - 1) (by omega) (by omega), if_pos (by simp; omega), bit_read]
      simp only [Option.bind_some]
      rw [step_ok h (st_lt h l i)]
      simp only [Option.bind_some, f_trellis_Code_Walk_1]
      rw [if_pos (by rw [wk_len]; simp; omega), w64 (by omega) (by omega), wk_succ]
      rfl
  unfold f_trellis_Code_through_36
  rw [check_ok h]
  simp only [Option.bind_some]
  rw [if_neg (by simp), w64 (x := (l.length : Int) + (n : Int)) (by omega) (by omega), w64 (x := (l.length : Int) + (n : Int) - 1) (by omega) (by omega), if_neg (by simp; omega)]
  have := key (l.length + n - 1) 0 (by omega)
  rw [show wk n l 0 = [0] from rfl, show ((st n l 0 : Nat) : Int) = 0 from rfl, show ((0 : Nat) : Int) = 0 from rfl] at this
  rw [this]
  rfl
theorem walk_ok {n a b : Nat} (h : CodeOK n a b) (l : List Bool) (hl : l.length + n - 1 ≤ 16384) :
    f_trellis_Code_Walk (n : Int) (a : Int) (b : Int) l = some (wk n l (l.length + n - 1), 0) := by
  unfold f_trellis_Code_Walk
  rw [through_walk h l hl]
  rfl
theorem from_ok {n a b q s : Nat} (h : CodeOK n a b) (hs : s < 2 ^ (n - 1)) (hq : 2 ^ (n - 1) = 2 * q) : f_trellis_Code_From (n : Int) (a : Int) (b : Int) (s : Int) = some ((((2 * (s % q) : Nat) : Int), ((2 * (s % q) + 1 : Nat) : Int)), 0) := by
  obtain ⟨q', p1, p2, q1, q2, hq'⟩ := h.pq
  obtain rfl : q = q' := by omega
  have h1 := h.n2; have h2 := h.n7
  unfold f_trellis_Code_From
  rw [state_ok h hs]
  simp only [Option.bind_some]
  rw [if_neg (by simp), w64 (x := (n : Int) - 1) (by omega) (by omega), if_pos (by omega), show (n : Int) - 1 = ((n - 1 : Nat) : Int) by omega, show ((1 : Int)) = ((1 : Nat) : Int) from rfl, ishl64 (by omega) (by omega), ishl64 (by omega) (by omega), Nat.one_mul]
  have hm : s * 2 ^ 1 % 2 ^ (n - 1) = 2 * (s % q) := by
    rw [p1, Nat.pow_one, Nat.mul_comm s 2, Nat.mul_mod_mul_left]
  have hml := Nat.mod_lt s (show 0 < q by omega)
  have e1 : s * 2 ^ 1 &&& (2 ^ (n - 1) - 1) = 2 * (s % q) := by rw [Nat.and_two_pow_sub_one_eq_mod, hm]
  generalize s % q = z at *
  rw [w64 (x := ((2 ^ (n - 1) : Nat) : Int) - ((1 : Nat) : Int)) (by omega) (by omega), show ((2 ^ (n - 1) : Nat) : Int) - ((1 : Nat) : Int) = ((2 ^ (n - 1) - 1 : Nat) : Int) by omega, iand64 (by omega) (by omega), e1, w64 (by omega) (by omega)]
  rfl
theorem inner_ok {n a b q : Nat} (h : CodeOK n a b) (hq : 2 ^ (n - 1) = 2 * q) (w : List Int) (i s : Nat) (hs : s < 2 ^ (n - 1)) (hi : i + 1 < w.length) (hw2 : w.length < 9223372036854775807) (hw : gt w ((i + 1 : Nat) : Int) = (s : Int)) :
    loop (f_foghornlaw21_TrellisWalks.s2 (((2 ^ (n - 1) : Nat) : Int), 0) (n : Int) (a : Int) (b : Int) w (i : Int) ((((2 * (s % q) : Nat) : Int), ((2 * (s % q) + 1 : Nat) : Int)), 0)) 0 = some (.inl ()) := by
  obtain ⟨q', p1, p2, q1, q2, hq'⟩ := h.pq
  obtain rfl : q = q' := by omega
  have hml := Nat.mod_lt s (show 0 < q by omega)
  have hdm : s % q = s ∨ s % q + q = s := by
    by_cases hlt : s < q
    · exact .inl (Nat.mod_eq_of_lt hlt)
    · right
      have : s % q = (s - q) % q := by rw [← Nat.mod_eq_sub_mod (by omega)]
      rw [this, Nat.mod_eq_of_lt (by omega)]; omega
  generalize s % q = z at *
  refine loop_for1 2 (Sum.inl ()) (fun k hk => ?_) ?_
  · have hz : gt [((2 * z : Nat) : Int), ((2 * z + 1 : Nat) : Int)] (k : Int) = ((2 * z + k : Nat) : Int) := by
      rcases (show k = 0 ∨ k = 1 by omega) with rfl | rfl <;> rfl
    have e0 : nx n (2 * z + k) false = z := by simp only [nx, al]; simp; omega
    have e1 : nx n (2 * z + k) true = z + q := by simp only [nx, al]; simp; omega
    have hwi : IntKind.i64.wrap ((i : Int) + 1) = ((i + 1 : Nat) : Int) := by rw [w64 (by omega) (by omega)]; rfl
    simp only [f_foghornlaw21_TrellisWalks.s2, f_foghornlaw21_TrellisWalks.s2c]
    rw [if_pos (by simp; omega), if_pos (by omega), hz, Step_ok h (by omega), e0]
    simp only [Option.bind_some]
    rw [if_pos (by omega), Step_ok h (by omega), e1]
    simp only [Option.bind_some]
    rw [hwi, hw, if_neg (by simp), if_pos (by omega), p1]
    have ek : IntKind.i64.wrap ((k : Int) + 1) = ((k + 1 : Nat) : Int) := by rw [w64 (by omega) (by omega)]; rfl
    rw [ek]
    rcases hdm with h0 | h0
    · rw [if_neg (by simp; omega)]
      simp only [Option.bind_some]
      rw [if_neg (by simp; omega)]
    · rw [if_pos (by simp; omega), if_pos (by omega)]
      simp only [Option.bind_some]
      rw [if_neg (by simp; omega)]
  · simp only [f_foghornlaw21_TrellisWalks.s2, f_foghornlaw21_TrellisWalks.s2c]
    rw [if_neg (by simp)]

theorem walks_true (length : Int) (w0 : (Lit.int .u8 length).wf = true) (one : Int) (w1 : (Lit.int .u32 one).wf = true) (two : Int) (w2 : (Lit.int .u32 two).wf = true) (second : Bool)
    (A : List Bool) (_ : ∀ x ∈ A, True) (B : List Bool) (_ : ∀ x ∈ B, True) (at' : Int) (w6 : (Lit.int .u16 at').wf = true) : f_foghornlaw21_TrellisWalks length one two second A B at' = some true := by
  obtain ⟨n, a, b, h, hc⟩ := code_ok (second := second) w0 w1 w2
  obtain ⟨q, p1, p2, q1, q2, hq⟩ := h.pq
  have h1 := h.n2; have h2 := h.n7
  unfold f_foghornlaw21_TrellisWalks
  rw [hc]
  simp only [Option.bind_some]
  have e60 : imin (A.length : Int) 60 = ((min A.length 60 : Nat) : Int) := imin_nat A.length 60
  obtain ⟨l, hl⟩ : ∃ l, l = (A.drop 0).take ((imin (A.length : Int) 60).toNat - 0) := ⟨_, rfl⟩
  have hll : l.length ≤ 60 := by rw [hl, e60]; simp; omega
  rw [if_pos (by rw [e60]; omega), ← hl, encode_ok h l (by omega)]
  simp only [Option.bind_some]
  rw [walk_ok h l (by omega), states_ok h]
  simp only [Option.bind_some]
  obtain ⟨T, hT⟩ : ∃ T, T = l.length + n - 1 := ⟨_, rfl⟩
  rw [← hT]
  have hwl := wk_len n l T
  have hel := enc_len n a b l T
  have hst0 : gt (wk n l T) (0 : Int) = 0 := by have := wk_get n l (show 0 ≤ T by omega); simpa [st] using this
  have hstT : gt (wk n l T) ((T : Nat) : Int) = 0 := by
    rw [wk_get n l (Nat.le_refl T), hT, show l.length + n - 1 = l.length + (n - 1) by omega, st_end h l]; rfl
  have e2 : IntKind.i64.wrap (IntKind.i64.wrap ((((2 * T : Nat) : Int)).tdiv 2) + 1) = ((T + 1 : Nat) : Int) := by
    rw [show (2 : Int) = ((2 : Nat) : Int) from rfl, tdiv_nat, w64 (x := ((2 * T / 2 : Nat) : Int)) (by omega) (by omega), w64 (by omega) (by omega)]; omega
  have e3 : IntKind.i64.wrap (((T + 1 : Nat) : Int) - 1) = (T : Int) := by rw [w64 (by omega) (by omega)]; omega
  rw [hwl, hel, e2, e3, if_neg (by simp), if_pos (by omega), hst0]
  simp only [Option.bind_some]
  rw [if_neg (by simp), if_pos (by omega), hstT]
  simp only [Option.bind_some]
  rw [if_neg (by simp)]
  have key : ∀ k i : Nat, i + k = T → loop (f_foghornlaw21_TrellisWalks.s1 A (((2 ^ (n - 1) : Nat) : Int), 0)) ((n : Int), (a : Int), (b : Int), enc n a b l T, wk n l T, (i : Int)) = some (.inl ()) := by
    intro k
    induction k with
    | zero =>
      intro i hi
      obtain rfl : i = T := by omega
      apply loop_done
      simp only [f_foghornlaw21_TrellisWalks.s1, f_foghornlaw21_TrellisWalks.s1c]
      rw [w64 (x := (i : Int) + 1) (by omega) (by omega), hwl, if_neg (by simp)]
    | succ k ih =>
      intro i hi
      rw [← ih (i + 1) (by omega)]
      apply loop_step
      simp only [f_foghornlaw21_TrellisWalks.s1, f_foghornlaw21_TrellisWalks.s1c]
      obtain ⟨g1, g2⟩ := enc_get n a b l T i (by omega)
      have hwi : IntKind.i64.wrap ((i : Int) + 1) = ((i + 1 : Nat) : Int) := by rw [w64 (by omega) (by omega)]; rfl
      have h2i : IntKind.i64.wrap (2 * (i : Int)) = ((2 * i : Nat) : Int) := by rw [w64 (by omega) (by omega)]; omega
      have h2i1 : IntKind.i64.wrap (((2 * i : Nat) : Int) + 1) = ((2 * i + 1 : Nat) : Int) := by rw [w64 (by omega) (by omega)]; rfl
      have hs := st_lt h l i
      have hs' := st_lt h l (i + 1)
      rw [hwi, h2i, h2i1, hwl, hel, if_pos (by simp; omega), if_pos (by omega), ← hl, bit_read]
      simp only [Option.bind_some]
      rw [wk_get n l (show i ≤ T by omega), wk_get n l (show i + 1 ≤ T by omega), g1, g2, Step_ok h hs]
      simp only [Option.bind_some]
      rw [if_pos (by omega), from_ok h hs' p1]
      simp only [Option.bind_some]
      have hnx : nx n (st n l i) (bitAt l i) = st n l (i + 1) := rfl
      rw [hnx, if_neg (by simp), if_pos (by omega)]
      simp only [Option.bind_some, bne_self_eq_false, Bool.false_eq_true, if_false]
      rw [if_pos (by omega)]
      simp only [Option.bind_some, bne_self_eq_false, Bool.false_eq_true, if_false]
      rw [if_pos (by omega)]
      simp only [Option.bind_some, bne_self_eq_false, Bool.false_or]
      have hin := inner_ok h p1 (wk n l T) i (st n l (i + 1)) hs' (by omega) (by omega) (wk_get n l (show i + 1 ≤ T by omega))
      have hdm : st n l i = 2 * (st n l (i + 1) % q) ∨ st n l i = 2 * (st n l (i + 1) % q) + 1 := by
        have e : st n l (i + 1) % q = st n l i / 2 := by
          rw [← hnx]
          simp only [nx, al]
          rw [p1]
          rw [p1] at hs
          cases bitAt l i with
          | false => simp only [Bool.false_eq_true, if_false, Nat.add_zero]; exact Nat.mod_eq_of_lt (by omega)
          | true =>
            simp only [if_true]
            rw [show (st n l i + 2 * q) / 2 = st n l i / 2 + q by omega, Nat.add_mod_right, Nat.mod_eq_of_lt (by omega)]
        rw [e]; omega
      rw [hin]
      generalize st n l (i + 1) % q = z at *
      rw [if_neg (by simp; omega), if_pos (by omega)]
      rcases hdm with h0 | h0
      · rw [if_neg (by simp; omega)]
        simp only [Option.bind_some, sm, Bool.false_eq_true, if_false]
      · rw [if_pos (by simp; omega), if_pos (by omega)]
        simp only [Option.bind_some, sm]
        rw [if_neg (by simp; omega)]
  have := key T 0 (by omega)
  rw [show ((0 : Nat) : Int) = 0 from rfl] at this
  rw [this]
  simp only [Option.bind_some, sm]
  rw [awake_true]
  rfl

end Go.Proofs.Ytilodendgbjelaa
