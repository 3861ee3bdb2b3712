/- TrellisWays: the plain law. -/
import Derived.Test.YtilodendgbjelaaG5
import Derived.Test.YtilodendgbjelaaGlW
set_option linter.unusedVariables false
set_option linter.unusedSimpArgs false
set_option maxRecDepth 8000
namespace Go.Proofs.Ytilodendgbjelaa
open GL

/-! ### Codes -/
structure CodeOK (n a b : Nat) : Prop where
  n2 : 2 ≤ n
  n7 : n ≤ 7
  a1 : 1 ≤ a
  b1 : 1 ≤ b
  an : a < 2 ^ n
  bn : b < 2 ^ n
  top : 2 ^ (n - 1) ≤ max a b
theorem CodeOK.pq {n a b : Nat} (h : CodeOK n a b) : ∃ q, 2 ^ (n - 1) = 2 * q ∧ 2 ^ n = 4 * q ∧ 1 ≤ q ∧ q ≤ 32 ∧ q = 2 ^ (n - 2) := by
  have h1 := h.n2
  have h2 := h.n7
  have : n = 2 ∨ n = 3 ∨ n = 4 ∨ n = 5 ∨ n = 6 ∨ n = 7 := by omega
  rcases this with rfl | rfl | rfl | rfl | rfl | rfl <;> exact ⟨_, rfl, rfl, by decide, by decide, rfl⟩
theorem len_tab0 : ∀ n : Nat, n < 8 → ∀ m : Nat, m < 128 → (decide (1 ≤ n ∧ 2 ^ (n - 1) ≤ m ∧ m < 2 ^ n) → (f_math_bits_Len32 (m : Int) == some (n : Int)) = true) := by decide +kernel
theorem len_tab (n : Nat) (hn : n < 8) (m : Nat) (hm : m < 128) (h1 : 1 ≤ n) (h2 : 2 ^ (n - 1) ≤ m) (h3 : m < 2 ^ n) : f_math_bits_Len32 (m : Int) = some (n : Int) :=
  eq_of_beq (len_tab0 n hn m hm (by simp [h1, h2, h3]))
theorem check_ok {n a b : Nat} (h : CodeOK n a b) : f_trellis_Code_Check (n : Int) (a : Int) (b : Int) = some 0 := by
  obtain ⟨q, p1, p2, q1, q2, _⟩ := h.pq
  have h1 := h.n2; have h2 := h.n7; have h3 := h.a1; have h4 := h.b1; have h5 := h.an; have h6 := h.bn; have h7 := h.top
  unfold f_trellis_Code_Check
  rw [imin_nat, imax_nat, if_neg (by simp; omega), len_tab n (by omega) (max a b) (by omega) (by omega) h7 (by omega)]
  simp
/-- parity of seven bits -/
def par (x : Nat) : Bool := (List.range 7).foldl (fun c i => c != x.testBit i) false
def al (n s : Nat) (b : Bool) : Nat := s + if b then 2 ^ (n - 1) else 0
def nx (n s : Nat) (b : Bool) : Nat := al n s b / 2
def ob (n a s : Nat) (b : Bool) : Bool := par (al n s b &&& a)
theorem al_lt {n a b : Nat} (h : CodeOK n a b) {s : Nat} (hs : s < 2 ^ (n - 1)) (c : Bool) : al n s c < 2 ^ n := by
  obtain ⟨q, p1, p2, q1, q2, _⟩ := h.pq
  unfold al; rw [p2]; split <;> omega
theorem nx_lt {n a b : Nat} (h : CodeOK n a b) {s : Nat} (hs : s < 2 ^ (n - 1)) (c : Bool) : nx n s c < 2 ^ (n - 1) := by
  have := al_lt h hs c
  obtain ⟨q, p1, p2, q1, q2, _⟩ := h.pq
  unfold nx; rw [p1]; rw [p2] at this; omega
def bitAt (l : List Bool) (i : Nat) : Bool := if i < l.length then gt l (i : Int) else false
def st (n : Nat) (l : List Bool) : Nat → Nat
  | 0 => 0
  | i + 1 => nx n (st n l i) (bitAt l i)
theorem st_lt {n a b : Nat} (h : CodeOK n a b) (l : List Bool) : ∀ i, st n l i < 2 ^ (n - 1)
  | 0 => by obtain ⟨q, p1, _, q1, _⟩ := h.pq; rw [p1]; simp only [st]; omega
  | i + 1 => nx_lt h (st_lt h l i) _
theorem st_down (n : Nat) (l : List Bool) : ∀ k, st n l (l.length + k) * 2 ^ k ≤ st n l l.length
  | 0 => by simp
  | k + 1 => by
    have ih := st_down n l k
    have : st n l (l.length + (k + 1)) = st n l (l.length + k) / 2 := by
      show nx n (st n l (l.length + k)) (bitAt l (l.length + k)) = _
      have : bitAt l (l.length + k) = false := by unfold bitAt; rw [if_neg (by omega)]
      rw [this]; simp [nx, al]
    rw [this, Nat.pow_succ, Nat.mul_comm (2 ^ k) 2, ← Nat.mul_assoc]
    exact Nat.le_trans (Nat.mul_le_mul_right _ (Nat.div_mul_le_self _ 2)) ih
theorem st_end {n a b : Nat} (h : CodeOK n a b) (l : List Bool) : st n l (l.length + (n - 1)) = 0 := by
  have h1 := st_down n l (n - 1)
  have h2 := st_lt h l l.length
  rcases Nat.eq_zero_or_pos (st n l (l.length + (n - 1))) with h0 | h0
  · exact h0
  · have := Nat.mul_le_mul_right (2 ^ (n - 1)) h0
    simp only [Nat.one_mul, Nat.succ_eq_add_one, Nat.zero_add] at this
    omega
theorem bit_read {l : List Bool} (i : Nat) : (if (decide ((i : Int) < (l.length : Int))) = true then (if 0 ≤ (i : Int) ∧ (i : Int) < (l.length : Int) then (some (gt l (i : Int))) else none) else (some false)) = some (bitAt l i) := by
  unfold bitAt
  by_cases h : i < l.length
  · rw [if_pos (by simpa using h), if_pos (by omega), if_pos h]
  · rw [if_neg (by simpa using h), if_neg h]
theorem bitAt_big {l : List Bool} {i : Nat} (h : l.length ≤ i) : bitAt l i = false := by unfold bitAt; rw [if_neg (by omega)]
theorem bitAt_lt {l : List Bool} {i : Nat} (h : i < l.length) : bitAt l i = gt l (i : Int) := by unfold bitAt; rw [if_pos h]
def wk (n : Nat) (l : List Bool) (i : Nat) : List Int := (List.range (i + 1)).map fun j => ((st n l j : Nat) : Int)
theorem wk_len (n : Nat) (l : List Bool) (i : Nat) : (wk n l i).length = i + 1 := by simp [wk]
theorem wk_get (n : Nat) (l : List Bool) {i j : Nat} (h : j ≤ i) : gt (wk n l i) (j : Int) = ((st n l j : Nat) : Int) := by
  rw [gt_nat (by rw [wk_len]; omega)]; simp [wk]
theorem wk_succ (n : Nat) (l : List Bool) (i : Nat) : wk n l (i + 1) = wk n l i ++ [((st n l (i + 1) : Nat) : Int)] := by
  simp only [wk]; rw [List.range_succ, List.map_append]; rfl
/-! ### The program's steps -/
theorem oc_tab : ∀ x, x < 128 → (f_trellis_Code_step_1 ((x : Nat) : Int) == some (par x)) = true := by decide +kernel
theorem oc_some {x : Nat} (h : x < 128) : f_trellis_Code_step_1 (x : Int) = some (par x) := eq_of_beq (oc_tab x h)
theorem step_ok {n a b : Nat} (h : CodeOK n a b) {s : Nat} (hs : s < 2 ^ (n - 1)) (c : Bool) :
    f_trellis_Code_step (n : Int) (a : Int) (b : Int) (s : Int) c = some (((nx n s c : Nat) : Int), ob n a s c, ob n b s c) := by
  have hal := al_lt h hs c
  obtain ⟨q, p1, p2, q1, q2, _⟩ := h.pq
  have h1 := h.n2; have h2 := h.n7; have h3 := h.a1; have h4 := h.b1; have h5 := h.an; have h6 := h.bn
  have j : f_trellis_Code_step.j1 (a : Int) (b : Int) ((al n s c : Nat) : Int) = some (((nx n s c : Nat) : Int), ob n a s c, ob n b s c) := by
    have e1 : al n s c &&& a ≤ al n s c := Nat.and_le_left
    have e2 : al n s c &&& b ≤ al n s c := Nat.and_le_left
    have hx : al n s c / 2 = nx n s c := rfl
    unfold f_trellis_Code_step.j1
    rw [iand32 (by omega) (by omega), iand32 (by omega) (by omega), oc_some (by omega), oc_some (by omega)]
    simp only [Option.bind_some]
    rw [show ((1 : Int)) = ((1 : Nat) : Int) from rfl, ishr_nat (by decide), show al n s c / 2 ^ 1 = nx n s c from hx, w64 (by omega) (by omega)]
    rfl
  unfold f_trellis_Code_step
  cases c with
  | false =>
    rw [if_neg (by simp), w32 (by omega) (by omega)]
    exact j
  | true =>
    have e1 : al n s true = s ||| 2 ^ (n - 1) := by
      have := Nat.two_pow_add_eq_or_of_lt hs 1
      simp only [al, if_true]
      rw [Nat.or_comm, Nat.add_comm]; simpa using this
    rw [if_pos rfl, w64 (by omega) (by omega), if_pos (by omega), w32 (by omega) (by omega), show (n : Int) - 1 = ((n - 1 : Nat) : Int) by omega, show ((1 : Int)) = ((1 : Nat) : Int) from rfl, ishl32 (by omega) (by omega), Nat.one_mul, ior32 (by omega) (by omega), ← e1]
    exact j
def enc (n a b : Nat) (l : List Bool) : Nat → List Bool
  | 0 => []
  | i + 1 => enc n a b l i ++ [ob n a (st n l i) (bitAt l i), ob n b (st n l i) (bitAt l i)]
theorem enc_len (n a b : Nat) (l : List Bool) : ∀ i, (enc n a b l i).length = 2 * i
  | 0 => rfl
  | i + 1 => by simp only [enc, List.length_append, enc_len n a b l i, List.length_cons, List.length_nil]; omega
theorem enc_get (n a b : Nat) (l : List Bool) : ∀ i j, j < i → gt (enc n a b l i) ((2 * j : Nat) : Int) = ob n a (st n l j) (bitAt l j) ∧ gt (enc n a b l i) ((2 * j + 1 : Nat) : Int) = ob n b (st n l j) (bitAt l j)
  | 0, j, h => by omega
  | i + 1, j, h => by
    have hl := enc_len n a b l i
    simp only [enc]
    by_cases hj : j < i
    · obtain ⟨h1, h2⟩ := enc_get n a b l i j hj
      constructor
      · rw [← h1, gt_nat (by simp only [List.length_append, hl, List.length_cons, List.length_nil]; omega), gt_nat (by omega), List.getElem_append_left (by omega)]
      · rw [← h2, gt_nat (by simp only [List.length_append, hl, List.length_cons, List.length_nil]; omega), gt_nat (by omega), List.getElem_append_left (by omega)]
    · obtain rfl : j = i := by omega
      rw [gt_nat (by simp only [List.length_append, hl, List.length_cons, List.length_nil]; omega), gt_nat (by simp only [List.length_append, hl, List.length_cons, List.length_nil]; omega), List.getElem_append_right (by omega), List.getElem_append_right (by omega)]
      simp only [hl, Nat.sub_self, show 2 * j + 1 - 2 * j = 1 by omega]
      exact ⟨rfl, rfl⟩
theorem through_enc {n a b : Nat} (h : CodeOK n a b) (l : List Bool) (hl : l.length + n - 1 ≤ 16384) :
    f_trellis_Code_through (n : Int) (a : Int) (b : Int) l (n : Int) (a : Int) (b : Int) [] = some (0, enc n a b l (l.length + n - 1)) := by
  have h1 := h.n2; have h2 := h.n7
  have key : ∀ k i : Nat, i + k = l.length + n - 1 → loop (f_trellis_Code_through.s1 (n : Int) l (n : Int) (a : Int) (b : Int)) (enc n a b l i, ((st n l i : Nat) : Int), (i : Int)) = some (enc n a b l (l.length + n - 1)) := by
    intro k
    induction k with
    | zero =>
      intro i hi
      obtain rfl : i = l.length + n - 1 := by omega
      apply loop_done
      simp only [f_trellis_Code_through.s1, f_trellis_Code_through.s1c]
      rw [w64 (x := (l.length : Int) + (n : Int)) (by omega) (by omega), w64 (by omega) (by omega), if_neg (by simp; omega)]
    | succ k ih =>
      intro i hi
      rw [← ih (i + 1) (by omega)]
      apply loop_step
      simp only [f_trellis_Code_through.s1, f_trellis_Code_through.s1c]
      rw [w64 (x := (l.length : Int) + (n : Int)) (by omega) (by omega), w64 (x := (l.length : Int) + (n : Int) - 1) (by omega) (by omega), if_pos (by simp; omega), bit_read]
      simp only [Option.bind_some]
      rw [step_ok h (st_lt h l i)]
      simp only [Option.bind_some, f_trellis_Code_Encode_1]
      rw [if_pos (by rw [enc_len]; simp; omega), w64 (by omega) (by omega)]
      rfl
  unfold f_trellis_Code_through
  rw [check_ok h]
  simp only [Option.bind_some]
  rw [if_neg (by simp), w64 (x := (l.length : Int) + (n : Int)) (by omega) (by omega), w64 (x := (l.length : Int) + (n : Int) - 1) (by omega) (by omega), if_neg (by simp; omega)]
  have := key (l.length + n - 1) 0 (by omega)
  rw [show enc n a b l 0 = [] from rfl, show ((st n l 0 : Nat) : Int) = 0 from rfl, show ((0 : Nat) : Int) = 0 from rfl] at this
  rw [this]
  rfl
theorem encode_ok {n a b : Nat} (h : CodeOK n a b) (l : List Bool) (hl : l.length + n - 1 ≤ 16384) :
    f_trellis_Code_Encode (n : Int) (a : Int) (b : Int) l = some (enc n a b l (l.length + n - 1), 0) := by
  unfold f_trellis_Code_Encode
  rw [through_enc h l hl]
  rfl
/-! ### Sums over places -/
def fs (f : Nat → Nat) : Nat → Nat
  | 0 => 0
  | m + 1 => fs f m + f m
theorem fs_add (f : Nat → Nat) (i : Nat) : ∀ k, fs f (i + k) = fs f i + fs (fun t => f (i + t)) k
  | 0 => by simp [fs]
  | k + 1 => by rw [← Nat.add_assoc]; simp only [fs]; rw [fs_add f i k]; omega
theorem fs_congr {f g : Nat → Nat} : ∀ {m}, (∀ i, i < m → f i = g i) → fs f m = fs g m
  | 0, _ => rfl
  | m + 1, h => by simp only [fs]; rw [fs_congr fun i hi => h i (by omega), h m (by omega)]
theorem fs_le {f g : Nat → Nat} : ∀ {m}, (∀ i, i < m → f i ≤ g i) → fs f m ≤ fs g m
  | 0, _ => Nat.le_refl _
  | m + 1, h => by have := fs_le (f := f) (g := g) (m := m) fun i hi => h i (by omega); have := h m (by omega); simp only [fs]; omega
theorem fs_plus (f g : Nat → Nat) : ∀ m, fs (fun i => f i + g i) m = fs f m + fs g m
  | 0 => rfl
  | m + 1 => by simp only [fs]; rw [fs_plus f g m]; omega
theorem fs_zero : ∀ m, fs (fun _ => 0) m = 0
  | 0 => rfl
  | m + 1 => by simp only [fs]; rw [fs_zero m]
theorem fs_upd {f g : Nat → Nat} {p : Nat} : ∀ {m}, p < m → (∀ i, i < m → i ≠ p → g i = f i) → fs g m + f p = fs f m + g p
  | 0, h, _ => by omega
  | m + 1, h, hg => by
    simp only [fs]
    by_cases hp : p = m
    · subst hp
      rw [fs_congr (m := p) fun i hi => hg i (by omega) (by omega)]; omega
    · have := fs_upd (m := m) (by omega) fun i hi hn => hg i (by omega) hn
      have := hg m (by omega) (by omega)
      omega
theorem fs_mono (f : Nat → Nat) {i j : Nat} (h : i ≤ j) : fs f i ≤ fs f j := by
  obtain ⟨k, rfl⟩ := Nat.exists_eq_add_of_le h
  rw [fs_add]; omega
theorem fs_two (f : Nat → Nat) : ∀ t, fs f (2 * t) = fs (fun i => f (2 * i) + f (2 * i + 1)) t
  | 0 => rfl
  | t + 1 => by rw [show 2 * (t + 1) = 2 * t + 1 + 1 by omega]; simp only [fs]; rw [fs_two f t]; omega

/-! ### A code is linear -/
theorem par_xor (x y : Nat) : par (x ^^^ y) = (par x ^^ par y) := by
  have key : ∀ (l : List Nat) (p q : Bool), l.foldl (fun c i => c != (x ^^^ y).testBit i) (p ^^ q) = (l.foldl (fun c i => c != x.testBit i) p ^^ l.foldl (fun c i => c != y.testBit i) q) := by
    intro l
    induction l with
    | nil => intro p q; rfl
    | cons i l ih =>
      intro p q
      simp only [List.foldl_cons]
      rw [← ih]
      congr 1
      rw [Nat.testBit_xor]
      cases p <;> cases q <;> cases x.testBit i <;> cases y.testBit i <;> rfl
  exact key _ false false
theorem and_xor (x y a : Nat) : (x ^^^ y) &&& a = (x &&& a) ^^^ (y &&& a) := by
  apply Nat.eq_of_testBit_eq
  intro i
  simp only [Nat.testBit_and, Nat.testBit_xor]
  cases x.testBit i <;> cases y.testBit i <;> cases a.testBit i <;> rfl
theorem xor_half (x y : Nat) : (x ^^^ y) / 2 = (x / 2) ^^^ (y / 2) := by
  have := Nat.shiftRight_xor_distrib (a := x) (b := y) (i := 1)
  simpa [Nat.shiftRight_eq_div_pow] using this
theorem al_xor {n s : Nat} (hs : s < 2 ^ (n - 1)) (c : Bool) : al n s c = s ^^^ (if c then 2 ^ (n - 1) else 0) := by
  cases c with
  | false => simp [al]
  | true =>
    have h1 := Nat.two_pow_add_eq_or_of_lt hs 1
    simp only [Nat.mul_one] at h1
    simp only [al, if_true]
    rw [Nat.add_comm, h1]
    apply Nat.eq_of_testBit_eq
    intro i
    simp only [Nat.testBit_or, Nat.testBit_xor, Nat.testBit_two_pow]
    by_cases hi : n - 1 = i
    · subst hi
      rw [Nat.testBit_lt_two_pow hs]; simp
    · simp [hi]
theorem al_lin {n s s' : Nat} (hs : s < 2 ^ (n - 1)) (hs' : s' < 2 ^ (n - 1)) (c c' : Bool) : al n (s ^^^ s') (c ^^ c') = al n s c ^^^ al n s' c' := by
  rw [al_xor hs, al_xor hs', al_xor (Nat.xor_lt_two_pow hs hs')]
  have e : (if (c ^^ c') = true then 2 ^ (n - 1) else 0) = (if c = true then 2 ^ (n - 1) else 0) ^^^ (if c' = true then 2 ^ (n - 1) else 0) := by
    cases c <;> cases c' <;> simp
  rw [e]
  generalize (if c = true then 2 ^ (n - 1) else 0) = u
  generalize (if c' = true then 2 ^ (n - 1) else 0) = v
  ac_rfl
theorem nx_lin {n s s' : Nat} (hs : s < 2 ^ (n - 1)) (hs' : s' < 2 ^ (n - 1)) (c c' : Bool) : nx n (s ^^^ s') (c ^^ c') = nx n s c ^^^ nx n s' c' := by
  unfold nx; rw [al_lin hs hs', xor_half]
theorem ob_lin {n a s s' : Nat} (hs : s < 2 ^ (n - 1)) (hs' : s' < 2 ^ (n - 1)) (c c' : Bool) : ob n a (s ^^^ s') (c ^^ c') = (ob n a s c ^^ ob n a s' c') := by
  unfold ob; rw [al_lin hs hs', and_xor, par_xor]
/-- where two messages are unlike -/
def dif (l m : List Bool) : List Bool := List.zipWith (· ^^ ·) l m
theorem dif_len {l m : List Bool} (h : l.length = m.length) : (dif l m).length = l.length := by unfold dif; rw [List.length_zipWith]; omega
theorem dif_bit {l m : List Bool} (h : l.length = m.length) (i : Nat) : bitAt (dif l m) i = (bitAt l i ^^ bitAt m i) := by
  have hl := dif_len h
  unfold bitAt
  by_cases hi : i < l.length
  · rw [if_pos (by omega), if_pos hi, if_pos (by omega), gt_nat (by omega), gt_nat hi, gt_nat (by omega)]
    simp [dif]
  · rw [if_neg (by omega), if_neg hi, if_neg (by omega)]; rfl
theorem st_lin {n a b : Nat} (hc : CodeOK n a b) {l m : List Bool} (h : l.length = m.length) : ∀ i, st n (dif l m) i = st n l i ^^^ st n m i
  | 0 => by simp [st]
  | i + 1 => by
    simp only [st]
    rw [st_lin hc h i, dif_bit h, nx_lin (st_lt hc l i) (st_lt hc m i)]
/-- how many of two are true; what a step weighs -/
def bn (x : Bool) : Nat := if x then 1 else 0
def wt (n a b s : Nat) (c : Bool) : Nat := bn (ob n a s c) + bn (ob n b s c)
theorem wt_le (n a b s : Nat) (c : Bool) : wt n a b s c ≤ 2 := by
  unfold wt bn; split <;> split <;> omega
/-- in how many places what two messages are coded is unlike, after so many steps -/
def dst (n a b : Nat) (l m : List Bool) (T : Nat) : Nat := fs (fun t => bn (ob n a (st n l t) (bitAt l t) ^^ ob n a (st n m t) (bitAt m t)) + bn (ob n b (st n l t) (bitAt l t) ^^ ob n b (st n m t) (bitAt m t))) T
theorem dst_wt {n a b : Nat} (hc : CodeOK n a b) {l m : List Bool} (h : l.length = m.length) (T : Nat) : dst n a b l m T = fs (fun t => wt n a b (st n (dif l m) t) (bitAt (dif l m) t)) T := by
  unfold dst
  apply fs_congr
  intro t _
  unfold wt
  rw [st_lin hc h, dif_bit h, ob_lin (st_lt hc l t) (st_lt hc m t), ob_lin (st_lt hc l t) (st_lt hc m t)]
/-! ### Ways out of nought and back -/
/-- a way from the state behind the first true bit, over states that are not nought -/
structure Way (n : Nat) (q : Nat → Nat) (c : Nat → Bool) (m : Nat) : Prop where
  start : q 0 = nx n 0 true
  step : ∀ i, i < m → q (i + 1) = nx n (q i) (c i)
  pos : ∀ i, i < m → q i ≠ 0
def wy (n a b : Nat) (q : Nat → Nat) (c : Nat → Bool) (m : Nat) : Nat := wt n a b 0 true + fs (fun i => wt n a b (q i) (c i)) m
theorem Way.less {n : Nat} {q : Nat → Nat} {c : Nat → Bool} {m k : Nat} (h : Way n q c m) (hk : k ≤ m) : Way n q c k :=
  ⟨h.start, fun i hi => h.step i (by omega), fun i hi => h.pos i (by omega)⟩
theorem Way.lt {n a b : Nat} (hc : CodeOK n a b) {q : Nat → Nat} {c : Nat → Bool} {m : Nat} (h : Way n q c m) : ∀ i, i ≤ m → q i < 2 ^ (n - 1)
  | 0, _ => by rw [h.start]; exact nx_lt hc (by obtain ⟨q, p1, _, q1, _⟩ := hc.pq; omega) _
  | i + 1, hi => by rw [h.step i (by omega)]; exact nx_lt hc (Way.lt hc h i (by omega)) _
theorem pigeon : ∀ (m : Nat) (f : Nat → Nat), (∀ i, i ≤ m → f i < m) → ∃ i j, i < j ∧ j ≤ m ∧ f i = f j
  | 0, f, h => absurd (h 0 (Nat.le_refl _)) (by omega)
  | m + 1, f, h => by
    by_cases hd : ∃ i, i ≤ m ∧ f i = f (m + 1)
    · obtain ⟨i, hi, he⟩ := hd
      exact ⟨i, m + 1, by omega, Nat.le_refl _, he⟩
    · have hd' : ∀ i, i ≤ m → f i ≠ f (m + 1) := fun i hi he => hd ⟨i, hi, he⟩
      obtain ⟨i, j, h1, h2, h3⟩ := pigeon m (fun i => if f i = m then f (m + 1) else f i) (fun i hi => by
        have h1 := h i (by omega); have h2 := hd' i hi; have h3 := h (m + 1) (by omega)
        try simp only
        split <;> omega)
      refine ⟨i, j, h1, by omega, ?_⟩
      have e1 := hd' i (by omega); have e2 := hd' j h2
      try dsimp only at h3
      split at h3 <;> split at h3 <;> omega
/-- a way that is longer than there are states has a shorter one that weighs no more -/
theorem way_short {n a b : Nat} (hc : CodeOK n a b) : ∀ (m : Nat) (q : Nat → Nat) (c : Nat → Bool), Way n q c m → ∃ m' q' c', m' ≤ 2 ^ (n - 1) ∧ Way n q' c' m' ∧ q' m' = q m ∧ wy n a b q' c' m' ≤ wy n a b q c m := by
  intro m
  induction m using Nat.strongRecOn with
  | _ m ih =>
    intro q c h
    by_cases hm : m ≤ 2 ^ (n - 1)
    · exact ⟨m, q, c, hm, h, rfl, Nat.le_refl _⟩
    · obtain ⟨i, j, h1, h2, h3⟩ := pigeon (2 ^ (n - 1)) q (fun i hi => h.lt hc i (by omega))
      obtain ⟨d, hd⟩ := Nat.exists_eq_add_of_lt h1
      have hj : j = i + (d + 1) := by omega
      have key : Way n (fun t => if t ≤ i then q t else q (t + (d + 1))) (fun t => if t < i then c t else c (t + (d + 1))) (m - (d + 1)) := by
        refine ⟨by simp only [Nat.zero_le, if_true]; exact h.start, fun t ht => ?_, fun t ht => ?_⟩
        · try simp only
          by_cases ht1 : t < i
          · rw [if_pos (by omega), if_pos (by omega), if_pos ht1]; exact h.step t (by omega)
          · rw [if_neg (by omega), if_neg ht1]
            by_cases ht2 : t = i
            · subst ht2
              rw [if_pos (Nat.le_refl _), h3, hj, show t + 1 + (d + 1) = t + (d + 1) + 1 by omega]
              exact h.step _ (by omega)
            · rw [if_neg (by omega), show t + 1 + (d + 1) = t + (d + 1) + 1 by omega]
              exact h.step _ (by omega)
        · try simp only
          split
          · exact h.pos t (by omega)
          · exact h.pos _ (by omega)
      obtain ⟨m', q', c', k1, k2, k3, k4⟩ := ih (m - (d + 1)) (by omega) _ _ key
      refine ⟨m', q', c', k1, k2, k3.trans ?_, Nat.le_trans k4 ?_⟩
      · try simp only
        by_cases he : m - (d + 1) ≤ i
        · have : m - (d + 1) = i := by omega
          rw [if_pos he, this, h3, show j = m by omega]
        · rw [if_neg he, show m - (d + 1) + (d + 1) = m by omega]
      · unfold wy
        have e1 : m = j + (m - j) := by omega
        have e2 : m - (d + 1) = i + (m - j) := by omega
        have f1 := fs_add (fun t => wt n a b (q t) (c t)) j (m - j)
        rw [← e1] at f1
        rw [e2, fs_add, f1]
        have g1 : fs (fun t => wt n a b (if t ≤ i then q t else q (t + (d + 1))) (if t < i then c t else c (t + (d + 1)))) i = fs (fun t => wt n a b (q t) (c t)) i :=
          fs_congr fun t ht => by rw [if_pos (by omega), if_pos ht]
        have g2 : fs (fun t => wt n a b (if i + t ≤ i then q (i + t) else q (i + t + (d + 1))) (if i + t < i then c (i + t) else c (i + t + (d + 1)))) (m - j) = fs (fun t => wt n a b (q (j + t)) (c (j + t))) (m - j) :=
          fs_congr fun t ht => by
            rw [if_neg (show ¬ i + t < i by omega), show i + t + (d + 1) = j + t by omega]
            split
            · rw [show t = 0 by omega, Nat.add_zero, Nat.add_zero, h3]
            · rfl
        have g3 := fs_mono (fun t => wt n a b (q t) (c t)) (show i ≤ j by omega)
        simp only at g1 g2 g3 ⊢
        rw [g1, g2]
        omega

/-! ### The least weights, round by round -/
/-- a number that is the weight of a way to a state -/
def Att (n a b : Nat) (x s : Nat) : Prop := ∃ m q c, Way n q c m ∧ q m = s ∧ wy n a b q c m = x
theorem Att.on {n a b x s : Nat} (h : Att n a b x s) (hs : s ≠ 0) (d : Bool) : Att n a b (x + wt n a b s d) (nx n s d) := by
  obtain ⟨m, q, c, hw, he, hx⟩ := h
  refine ⟨m + 1, fun t => if t ≤ m then q t else nx n s d, fun t => if t < m then c t else d, ⟨by simp only [Nat.zero_le, if_true]; exact hw.start, fun t ht => ?_, fun t ht => ?_⟩, ?_, ?_⟩
  · try simp only
    by_cases h1 : t < m
    · rw [if_pos (by omega), if_pos (by omega), if_pos h1]; exact hw.step t h1
    · obtain rfl : t = m := by omega
      rw [if_neg (by omega), if_pos (Nat.le_refl _), if_neg (by omega), he]
  · try simp only
    rw [if_pos (by omega)]
    by_cases h1 : t < m
    · exact hw.pos t h1
    · obtain rfl : t = m := by omega
      rw [he]; exact hs
  · try simp only
    rw [if_neg (by omega)]
  · unfold wy at hx ⊢
    simp only [fs]
    rw [if_pos (Nat.le_refl _), if_neg (Nat.lt_irrefl _), he, ← hx]
    have : fs (fun i => wt n a b (if i ≤ m then q i else nx n s d) (if i < m then c i else d)) m = fs (fun i => wt n a b (q i) (c i)) m :=
      fs_congr fun t ht => by rw [if_pos (by omega), if_pos ht]
    rw [this]; omega
structure Lst (n a b F : Nat) (L : List Int) : Prop where
  len : 2 ^ (n - 1) ≤ L.length
  bd : ∀ s : Nat, s < 2 ^ (n - 1) → 0 ≤ gt L (s : Int) ∧ gt L (s : Int) ≤ F
  att : ∀ s : Nat, s < 2 ^ (n - 1) → gt L (s : Int) < F → Att n a b (gt L (s : Int)).toNat s
def LeL (n : Nat) (L L' : List Int) : Prop := L'.length = L.length ∧ ∀ s : Nat, s < 2 ^ (n - 1) → gt L' (s : Int) ≤ gt L (s : Int)
theorem LeL.trans {n : Nat} {L L' L'' : List Int} (h : LeL n L L') (k : LeL n L' L'') : LeL n L L'' := ⟨k.1.trans h.1, fun s hs => Int.le_trans (k.2 s hs) (h.2 s hs)⟩
theorem LeL.refl (n : Nat) (L : List Int) : LeL n L L := ⟨rfl, fun _ _ => Int.le_refl _⟩
theorem gt_set_nat {L : List Int} {i j : Nat} (hi : i < L.length) (hj : j < L.length) (v : Int) : gt (L.set i v) (j : Int) = if i = j then v else gt L (j : Int) := by
  rw [gt_nat (by rw [List.length_set]; exact hj), gt_nat hj, List.getElem_set]
/-- one number is made less -/
theorem Lst.relax {n a b F : Nat} (hc : CodeOK n a b) (hF : F ≤ 1048576) {L : List Int} (h : Lst n a b F L) {s : Nat} (hs : s < 2 ^ (n - 1)) (h0 : s ≠ 0) (d : Bool) {v : Int}
    (hv : v = if gt L (s : Int) + (wt n a b s d : Nat) < gt L ((nx n s d : Nat) : Int) then gt L (s : Int) + (wt n a b s d : Nat) else gt L ((nx n s d : Nat) : Int)) :
    Lst n a b F (L.set (nx n s d) v) ∧ LeL n L (L.set (nx n s d) v) ∧ gt (L.set (nx n s d) v) ((nx n s d : Nat) : Int) ≤ gt L (s : Int) + (wt n a b s d : Nat) := by
  have hn := nx_lt hc hs d
  have hl := h.len
  have b1 := h.bd s hs
  have b2 := h.bd _ hn
  have hle : v ≤ gt L ((nx n s d : Nat) : Int) := by rw [hv]; split <;> omega
  have hle2 : v ≤ gt L (s : Int) + (wt n a b s d : Nat) := by rw [hv]; split <;> omega
  have hv0 : 0 ≤ v := by rw [hv]; split <;> omega
  refine ⟨⟨by rw [List.length_set]; exact hl, fun t ht => ?_, fun t ht => ?_⟩, ⟨List.length_set, fun t ht => ?_⟩, ?_⟩
  · rw [gt_set_nat (by omega) (by omega)]
    split
    · omega
    · exact h.bd t ht
  · rw [gt_set_nat (by omega) (by omega)]
    split
    · rename_i e; subst e
      intro hlt
      rw [hv] at hlt ⊢
      split
      · rename_i hlt2
        have hsF : gt L (s : Int) < F := by omega
        have := (h.att s hs hsF).on h0 d
        have e : (gt L (s : Int)).toNat + wt n a b s d = (gt L (s : Int) + (wt n a b s d : Nat)).toNat := by omega
        rw [← e]; exact this
      · rename_i hlt2
        rw [if_neg hlt2] at hlt
        exact h.att _ hn hlt
    · exact h.att t ht
  · rw [gt_set_nat (by omega) (by omega)]
    split
    · rename_i e; subst e; exact hle
    · exact Int.le_refl _
  · rw [gt_set_nat (by omega) (by omega), if_pos rfl]; exact hle2
/-- all edges out of a state, of all states -/
def Edge (n a b : Nat) (L L' : List Int) (s : Nat) : Prop := ∀ d, gt L' ((nx n s d : Nat) : Int) ≤ gt L (s : Int) + (wt n a b s d : Nat)
theorem Edge.mono {n a b : Nat} (hc : CodeOK n a b) {L0 L L' L'' : List Int} {s : Nat} (hs : s < 2 ^ (n - 1)) (h : Edge n a b L L' s) (h0 : LeL n L0 L) (h1 : LeL n L' L'') : Edge n a b L0 L'' s := fun d => by
  have := h d; have := h0.2 s hs; have := h1.2 _ (nx_lt hc hs d); omega
/-- all ways of so many steps are counted -/
def Cnt (n a b r : Nat) (L : List Int) : Prop := ∀ m q c, m ≤ r → Way n q c m → gt L ((q m : Nat) : Int) ≤ (wy n a b q c m : Nat)
theorem Cnt.next {n a b r : Nat} (hc : CodeOK n a b) {L L' : List Int} (h : Cnt n a b r L) (hl : LeL n L L') (he : ∀ s : Nat, s < 2 ^ (n - 1) → s ≠ 0 → Edge n a b L L' s) : Cnt n a b (r + 1) L' := by
  intro m q c hm hw
  cases m with
  | zero => exact Int.le_trans (hl.2 _ (hw.lt hc 0 (Nat.le_refl _))) (h 0 q c (by omega) hw)
  | succ m =>
    have h1 := h m q c (by omega) (hw.less (by omega))
    have h2 := he (q m) (hw.lt hc m (by omega)) (hw.pos m (by omega)) (c m)
    rw [← hw.step m (by omega)] at h2
    unfold wy at h1 ⊢
    simp only [fs]
    omega
theorem Cnt.mono {n a b r : Nat} (hc : CodeOK n a b) {L L' : List Int} (h : Cnt n a b r L) (hl : LeL n L L') : Cnt n a b r L' := fun m q c hm hw => Int.le_trans (hl.2 _ (hw.lt hc m (Nat.le_refl _))) (h m q c hm hw)
/-- the least: it is a way's weight, and no way weighs less -/
structure Least (n a b : Nat) (x : Nat) : Prop where
  att : Att n a b x 0
  le : ∀ m q c, Way n q c m → q m = 0 → x ≤ wy n a b q c m
theorem Least.uniq {n a b x y : Nat} (h : Least n a b x) (k : Least n a b y) : x = y := by
  obtain ⟨m, q, c, w1, w2, w3⟩ := h.att
  obtain ⟨m', q', c', v1, v2, v3⟩ := k.att
  have := h.le m' q' c' v1 v2
  have := k.le m q c w1 w2
  omega
/-- by false bits all ways end -/
theorem att_zero {n a b : Nat} (hc : CodeOK n a b) : ∃ x, Att n a b x 0 ∧ x ≤ 16 := by
  have h1 := hc.n2; have h7 := hc.n7
  obtain ⟨p, p1, p2, p3, p4, p5⟩ := hc.pq
  have e0 : nx n 0 true = 2 ^ (n - 2) := by
    unfold nx al; simp only [if_true]; rw [p1, ← p5]; omega
  have key : ∀ k, k ≤ n - 2 → ∃ x, Att n a b x (2 ^ (n - 2 - k)) ∧ x ≤ 2 + 2 * k := by
    intro k
    induction k with
    | zero => intro _; exact ⟨wt n a b 0 true, ⟨0, fun _ => nx n 0 true, fun _ => false, ⟨rfl, fun i hi => by omega, fun i hi => by omega⟩, e0, by simp [wy, fs]⟩, wt_le ..⟩
    | succ k ih =>
      intro hk
      obtain ⟨x, hx, hb⟩ := ih (by omega)
      have hp : 2 ^ (n - 2 - k) = 2 * 2 ^ (n - 2 - (k + 1)) := by rw [show n - 2 - k = n - 2 - (k + 1) + 1 by omega, Nat.pow_succ, Nat.mul_comm]
      have := hx.on (by have := Nat.two_pow_pos (n - 2 - k); omega) false
      have e : nx n (2 ^ (n - 2 - k)) false = 2 ^ (n - 2 - (k + 1)) := by unfold nx al; simp only [Bool.false_eq_true, if_false]; omega
      rw [e] at this
      have := wt_le n a b (2 ^ (n - 2 - k)) false
      exact ⟨_, ‹Att n a b _ _›, by omega⟩
  obtain ⟨x, hx, hb⟩ := key (n - 2) (Nat.le_refl _)
  rw [show n - 2 - (n - 2) = 0 by omega] at hx
  have h3 := hx.on (by decide) false
  have e : nx n (2 ^ 0) false = 0 := by unfold nx al; simp
  rw [e] at h3
  have := wt_le n a b (2 ^ 0) false
  exact ⟨_, h3, by omega⟩
theorem least_of {n a b F : Nat} (hc : CodeOK n a b) (hF : 16 < F) {L : List Int} (h : Lst n a b F L) (hcn : Cnt n a b (2 ^ (n - 1)) L) : Least n a b (gt L 0).toNat := by
  have h0 : 0 < 2 ^ (n - 1) := Nat.two_pow_pos _
  have b0 := h.bd 0 h0
  rw [show ((0 : Nat) : Int) = 0 from rfl] at b0
  have le : ∀ m q c, Way n q c m → q m = 0 → (gt L 0).toNat ≤ wy n a b q c m := fun m q c hw hq => by
    obtain ⟨m', q', c', k1, k2, k3, k4⟩ := way_short hc m q c hw
    have := hcn m' q' c' k1 k2
    rw [k3, hq, show ((0 : Nat) : Int) = 0 from rfl] at this
    omega
  refine ⟨?_, le⟩
  obtain ⟨x, ⟨m, q, c, w1, w2, w3⟩, hx⟩ := att_zero hc
  have := le m q c w1 w2
  have := h.att 0 h0
  rw [show ((0 : Nat) : Int) = 0 from rfl] at this
  exact this (by omega)
/-- what is coded unlike weighs as much at least -/
theorem far_apart {n a b x : Nat} (hc : CodeOK n a b) (h : Least n a b x) {l : List Bool} {t0 T : Nat} (ht : bitAt l t0 = true) (hT : l.length + (n - 1) ≤ T) : x ≤ fs (fun t => wt n a b (st n l t) (bitAt l t)) T := by
  -- the first true bit
  have hlt : t0 < l.length := by
    apply Classical.byContradiction
    intro hn
    unfold bitAt at ht
    rw [if_neg hn] at ht; cases ht
  have h2 := hc.n2
  have first : ∀ k, (∃ t, t ≤ k ∧ bitAt l t = true) → ∃ t, t ≤ k ∧ bitAt l t = true ∧ ∀ i, i < t → bitAt l i = false := by
    intro k
    induction k with
    | zero => rintro ⟨t, h1, h2⟩; exact ⟨0, Nat.le_refl _, by rwa [show t = 0 by omega] at h2, fun i hi => by omega⟩
    | succ k ih =>
      rintro ⟨t, h1, h2⟩
      by_cases hk : ∃ t, t ≤ k ∧ bitAt l t = true
      · obtain ⟨t, e1, e2, e3⟩ := ih hk; exact ⟨t, by omega, e2, e3⟩
      · refine ⟨t, h1, h2, fun i hi => ?_⟩
        cases hb : bitAt l i with
        | false => rfl
        | true => exact absurd ⟨i, by omega, hb⟩ hk
  obtain ⟨t, ht1, ht2, ht3⟩ := first t0 ⟨t0, Nat.le_refl _, ht⟩
  have hz : ∀ i, i ≤ t → st n l i = 0 := by
    intro i
    induction i with
    | zero => intro _; rfl
    | succ i ih => intro hi; simp only [st]; rw [ih (by omega), ht3 i (by omega)]; simp [nx, al]
  -- where it comes back
  have hend : st n l (l.length + (n - 1)) = 0 := st_end hc l
  have back : ∀ k, st n l (t + 1 + k) = 0 → ∃ m, m ≤ k ∧ st n l (t + 1 + m) = 0 ∧ ∀ i, i < m → st n l (t + 1 + i) ≠ 0 := by
    intro k
    induction k with
    | zero => intro h; exact ⟨0, Nat.le_refl _, h, fun i hi => by omega⟩
    | succ k ih =>
      intro h
      by_cases hk : ∃ m, m ≤ k ∧ st n l (t + 1 + m) = 0
      · have : ∀ j, (∃ m, m ≤ j ∧ st n l (t + 1 + m) = 0) → ∃ m, m ≤ j ∧ st n l (t + 1 + m) = 0 ∧ ∀ i, i < m → st n l (t + 1 + i) ≠ 0 := by
          intro j
          induction j with
          | zero => rintro ⟨m, g1, g2⟩; exact ⟨0, Nat.le_refl _, by rwa [show m = 0 by omega] at g2, fun i hi => by omega⟩
          | succ j ihj =>
            rintro ⟨m, g1, g2⟩
            by_cases hj : ∃ m, m ≤ j ∧ st n l (t + 1 + m) = 0
            · obtain ⟨m, e1, e2, e3⟩ := ihj hj; exact ⟨m, by omega, e2, e3⟩
            · exact ⟨m, g1, g2, fun i hi he => hj ⟨i, by omega, he⟩⟩
        obtain ⟨m, e1, e2, e3⟩ := this k hk
        exact ⟨m, by omega, e2, e3⟩
      · exact ⟨k + 1, Nat.le_refl _, h, fun i hi he => hk ⟨i, by omega, he⟩⟩
  obtain ⟨m, hm1, hm2, hm3⟩ := back (l.length + (n - 1) - (t + 1)) (by rw [show t + 1 + (l.length + (n - 1) - (t + 1)) = l.length + (n - 1) by omega]; exact hend)
  have hw : Way n (fun i => st n l (t + 1 + i)) (fun i => bitAt l (t + 1 + i)) m := by
    refine ⟨?_, fun i hi => rfl, hm3⟩
    show nx n (st n l t) (bitAt l t) = _
    rw [hz t (Nat.le_refl _), ht2]
  have hle := h.le m _ _ hw hm2
  unfold wy at hle
  try dsimp only at hle
  have e1 : fs (fun t => wt n a b (st n l t) (bitAt l t)) (t + 1 + m) ≤ fs (fun t => wt n a b (st n l t) (bitAt l t)) T := fs_mono _ (by omega)
  have e2 := fs_add (fun t => wt n a b (st n l t) (bitAt l t)) (t + 1) m
  try dsimp only at e2
  have e3 : fs (fun t => wt n a b (st n l t) (bitAt l t)) (t + 1) = fs (fun t => wt n a b (st n l t) (bitAt l t)) t + wt n a b 0 true := by
    simp only [fs]; rw [hz t (Nat.le_refl _), ht2]
  omega
theorem top_tab : ∀ n : Nat, n < 8 → ∀ a : Nat, a < 128 → (decide (1 ≤ n ∧ 2 ^ (n - 1) ≤ a ∧ a < 2 ^ n) → par (2 ^ (n - 1) &&& a) = true) := by decide +kernel
theorem wt_first {n a b : Nat} (hc : CodeOK n a b) : 1 ≤ wt n a b 0 true := by
  have h1 := hc.n2; have h2 := hc.n7; have h5 := hc.an; have h6 := hc.bn; have h7 := hc.top
  have hp : 2 ^ n ≤ 128 := by obtain ⟨q, p1, p2, q1, q2, _⟩ := hc.pq; omega
  have e : ∀ a, ob n a 0 true = par (2 ^ (n - 1) &&& a) := fun a => by unfold ob al; simp
  unfold wt
  rw [e a, e b]
  by_cases ha : 2 ^ (n - 1) ≤ a
  · rw [top_tab n (by omega) a (by omega) (by simp only [decide_eq_true_eq]; omega)]; simp [bn]
  · rw [top_tab n (by omega) b (by omega) (by simp only [decide_eq_true_eq]; omega)]; simp [bn]
theorem least_pos {n a b x : Nat} (hc : CodeOK n a b) (h : Least n a b x) : 1 ≤ x := by
  obtain ⟨m, q, c, w1, w2, w3⟩ := h.att
  have := wt_first hc
  unfold wy at w3; omega
/-! ### What was coded so -/
theorem bl2 : ∀ x y c d : Bool, ((x == c) && (y == d)) = true → ((x != c) || (y != d)) = false := by decide
theorem bl3 : ∀ x y c d : Bool, ¬ ((x == c) && (y == d)) = true → ((x != c) || (y != d)) = true := by decide
theorem bl4 : ∀ x y p q : Bool, (p || q) = true → ((x != (x ^^ p)) || (y != (y ^^ q))) = true := by decide
theorem ob_zero (n a : Nat) : ob n a 0 false = false := by
  have : al n 0 false = 0 := by simp [al]
  unfold ob
  rw [this, Nat.zero_and]; rfl
theorem ob_flip {n a b : Nat} (hc : CodeOK n a b) (x : Nat) {s : Nat} (hs : s < 2 ^ (n - 1)) : ob n x s true = (ob n x s false ^^ ob n x 0 true) := by
  have := ob_lin (a := x) hs (Nat.two_pow_pos (n - 1)) false true
  rw [Nat.xor_zero] at this
  exact this
theorem flip_some {n a b : Nat} (hc : CodeOK n a b) : (ob n a 0 true || ob n b 0 true) = true := by
  have := wt_first hc
  unfold wt bn at this
  cases h1 : ob n a 0 true <;> cases h2 : ob n b 0 true <;> simp [h1, h2] at this ⊢
def X (n a b : Nat) (c : List Bool) : Nat → Option (List Bool × Nat)
  | 0 => some ([], 0)
  | i + 1 => (X n a b c i).bind fun p =>
    let bit := (ob n a p.2 false != gt c ((2 * i : Nat) : Int)) || (ob n b p.2 false != gt c ((2 * i + 1 : Nat) : Int))
    if ((ob n a p.2 bit != gt c ((2 * i : Nat) : Int)) || (ob n b p.2 bit != gt c ((2 * i + 1 : Nat) : Int))) = true then none else some (p.1 ++ [bit], nx n p.2 bit)
theorem X_none {n a b : Nat} {c : List Bool} {i : Nat} (h : X n a b c i = none) : ∀ k, X n a b c (i + k) = none
  | 0 => h
  | k + 1 => by rw [← Nat.add_assoc]; simp only [X]; rw [X_none h k]; rfl
theorem bitAt_app {l : List Bool} (x : Bool) {t : Nat} (ht : t < l.length) : bitAt (l ++ [x]) t = bitAt l t := by
  unfold bitAt
  rw [if_pos (by simp; omega), if_pos ht, gt_nat (by simp; omega), gt_nat ht, List.getElem_append_left ht]
theorem bitAt_last (l : List Bool) (x : Bool) : bitAt (l ++ [x]) l.length = x := by
  unfold bitAt
  rw [if_pos (by simp), gt_nat (by simp), List.getElem_append_right (Nat.le_refl _)]; simp
theorem st_congr {n : Nat} {l m : List Bool} : ∀ i, (∀ t, t < i → bitAt l t = bitAt m t) → st n l i = st n m i
  | 0, _ => rfl
  | i + 1, h => by simp only [st]; rw [st_congr i fun t ht => h t (by omega), h i (by omega)]
theorem X_some {n a b : Nat} (hc : CodeOK n a b) {c : List Bool} : ∀ i out s, X n a b c i = some (out, s) → out.length = i ∧ s = st n out i ∧ ∀ t, t < i → gt c ((2 * t : Nat) : Int) = ob n a (st n out t) (bitAt out t) ∧ gt c ((2 * t + 1 : Nat) : Int) = ob n b (st n out t) (bitAt out t)
  | 0, out, s, h => by
    simp only [X, Option.some.injEq, Prod.mk.injEq] at h
    obtain ⟨rfl, rfl⟩ := h
    exact ⟨rfl, rfl, fun t ht => by omega⟩
  | i + 1, out, s, h => by
    simp only [X] at h
    cases hx : X n a b c i with
    | none => rw [hx] at h; cases h
    | some p =>
      obtain ⟨o, s0⟩ := p
      obtain ⟨h1, h2, h3⟩ := X_some hc i o s0 hx
      rw [hx] at h
      simp only [Option.bind_some] at h
      generalize ((ob n a s0 false != gt c ((2 * i : Nat) : Int)) || (ob n b s0 false != gt c ((2 * i + 1 : Nat) : Int))) = bit at h
      split at h
      · cases h
      · rename_i hne
        simp only [Option.some.injEq, Prod.mk.injEq] at h
        obtain ⟨rfl, rfl⟩ := h
        have hst : ∀ t, t ≤ i → st n (o ++ [bit]) t = st n o t := fun t ht => st_congr t fun j hj => bitAt_app bit (by omega)
        have hlast : bitAt (o ++ [bit]) i = bit := by rw [← h1]; exact bitAt_last o bit
        refine ⟨by simp [h1], ?_, fun t ht => ?_⟩
        · simp only [st]; rw [hst i (Nat.le_refl _), hlast, ← h2]
        · by_cases hti : t < i
          · rw [hst t (by omega), bitAt_app bit (by omega)]; exact h3 t hti
          · obtain rfl : t = i := by omega
            rw [hst t (Nat.le_refl _), hlast, ← h2]
            simp only [Bool.or_eq_true, not_or, bne_iff_ne, ne_eq, Decidable.not_not] at hne
            exact ⟨hne.1.symm, hne.2.symm⟩
theorem X_lt {n a b : Nat} (hc : CodeOK n a b) {c : List Bool} {i : Nat} {out : List Bool} {s : Nat} (h : X n a b c i = some (out, s)) : s < 2 ^ (n - 1) := by
  rw [(X_some hc i out s h).2.1]; exact st_lt hc out i
def EX (n a b : Nat) (c : List Bool) : List Bool × Int :=
  match X n a b c (c.length / 2) with
  | none => ([], 6)
  | some (out, s) => if c.length % 2 = 1 ∨ c.length / 2 < n - 1 ∨ s ≠ 0 then ([], 6) else (out.take (c.length / 2 - (n - 1)), 0)
def exR (r : Option (List Bool × Nat)) : (List Bool × Int) ⊕ (List Bool × Int) :=
  match r with
  | none => .inr ([], 6)
  | some (o, s) => .inl (o, (s : Int))
theorem exact_ok {n a b : Nat} (hc : CodeOK n a b) (c : List Bool) (hl : c.length ≤ 32768) : f_trellis_Code_Exact (n : Int) (a : Int) (b : Int) c = some (EX n a b c) := by
  have h2 := hc.n2; have h7 := hc.n7
  have hh : IntKind.i64.wrap (((c.length : Int)).tdiv 2) = ((c.length / 2 : Nat) : Int) := by
    rw [show (2 : Int) = ((2 : Nat) : Int) from rfl, tdiv_nat, w64 (by omega) (by omega)]
  obtain ⟨T, hT⟩ : ∃ T, T = c.length / 2 := ⟨_, rfl⟩
  rw [← hT] at hh
  have key : ∀ k i out s, i + k = T → X n a b c i = some (out, s) → loop (f_trellis_Code_Exact.s1 (n : Int) (a : Int) (b : Int) c) (out, (s : Int), (i : Int)) = some (exR (X n a b c T)) := by
    intro k
    induction k with
    | zero =>
      intro i out s hi hx
      obtain rfl : i = T := by omega
      rw [hx]
      apply loop_done
      simp only [f_trellis_Code_Exact.s1, f_trellis_Code_Exact.s1c]
      rw [hh, if_neg (by simp)]; rfl
    | succ k ih =>
      intro i out s hi hx
      have hs := X_lt hc hx
      have hol := (X_some hc i out s hx).1
      have e0 : IntKind.i64.wrap (2 * (i : Int)) = ((2 * i : Nat) : Int) := by rw [w64 (by omega) (by omega)]; omega
      have e1 : IntKind.i64.wrap (((2 * i : Nat) : Int) + 1) = ((2 * i + 1 : Nat) : Int) := by rw [w64 (by omega) (by omega)]; rfl
      have rd : ∀ x y z w : Bool, (if (x != z) = true then some true else (if 0 ≤ ((2 * i + 1 : Nat) : Int) ∧ ((2 * i + 1 : Nat) : Int) < (c.length : Int) then some (y != w) else none)) = some ((x != z) || (y != w)) := fun x y z w => by
        rw [if_pos (show 0 ≤ ((2 * i + 1 : Nat) : Int) ∧ ((2 * i + 1 : Nat) : Int) < (c.length : Int) by omega)]; cases x <;> cases z <;> simp
      have body : f_trellis_Code_Exact.s1 (n : Int) (a : Int) (b : Int) c (out, (s : Int), (i : Int)) = match X n a b c (i + 1) with
          | none => some (.inr (.inr ([], 6)))
          | some (o, s') => some (.inl (o, (s' : Int), ((i + 1 : Nat) : Int))) := by
        simp only [f_trellis_Code_Exact.s1, f_trellis_Code_Exact.s1c]
        rw [hh, if_pos (by rw [decide_eq_true_eq]; omega), step_ok hc hs false]
        simp only [Option.bind_some]
        rw [e0, e1, if_pos (by omega), rd]
        simp only [Option.bind_some]
        have hXX : X n a b c (i + 1) = if ((ob n a s ((ob n a s false != gt c ((2 * i : Nat) : Int)) || (ob n b s false != gt c ((2 * i + 1 : Nat) : Int))) != gt c ((2 * i : Nat) : Int)) || (ob n b s ((ob n a s false != gt c ((2 * i : Nat) : Int)) || (ob n b s false != gt c ((2 * i + 1 : Nat) : Int))) != gt c ((2 * i + 1 : Nat) : Int))) = true then none else some (out ++ [((ob n a s false != gt c ((2 * i : Nat) : Int)) || (ob n b s false != gt c ((2 * i + 1 : Nat) : Int)))], nx n s ((ob n a s false != gt c ((2 * i : Nat) : Int)) || (ob n b s false != gt c ((2 * i + 1 : Nat) : Int)))) := by
          simp only [X]; rw [hx]; rfl
        rw [hXX]
        generalize ((ob n a s false != gt c ((2 * i : Nat) : Int)) || (ob n b s false != gt c ((2 * i + 1 : Nat) : Int))) = bit
        rw [step_ok hc hs bit]
        simp only [Option.bind_some]
        rw [if_pos (by omega), rd]
        simp only [Option.bind_some]
        split
        · rfl
        · rw [if_pos (by simp only [List.length_cons, List.length_nil]; omega), w64 (by omega) (by omega)]
          rfl
      cases hx1 : X n a b c (i + 1) with
      | none =>
        rw [hx1] at body
        rw [loop_done body]
        have := X_none hx1 k
        rw [show i + 1 + k = T by omega] at this
        rw [this]; rfl
      | some p =>
        obtain ⟨o, s'⟩ := p
        rw [hx1] at body
        rw [loop_step body]
        exact ih (i + 1) o s' (by omega) hx1
  have := key T 0 [] 0 (by omega) rfl
  rw [show ((0 : Nat) : Int) = 0 from rfl] at this
  unfold f_trellis_Code_Exact
  rw [check_ok hc]
  simp only [Option.bind_some]
  rw [if_neg (by simp; omega), this]
  simp only [Option.bind_some]
  have hE : EX n a b c = match X n a b c T with
      | none => ([], 6)
      | some (out, s) => if c.length % 2 = 1 ∨ T < n - 1 ∨ s ≠ 0 then ([], 6) else (out.take (T - (n - 1)), 0) := by unfold EX; rw [← hT]
  rw [hE]
  cases hx : X n a b c T with
  | none => rfl
  | some p =>
    obtain ⟨o, s⟩ := p
    have hol := (X_some hc T o s hx).1
    simp only [exR, sm]
    have ei : iand .i64 (c.length : Int) 1 = ((c.length % 2 : Nat) : Int) := by
      rw [show (1 : Int) = ((1 : Nat) : Int) from rfl, iand64 (by omega) (by omega), Nat.and_one_is_mod]
    rw [hh, ei, w64 (x := (n : Int) - 1) (by omega) (by omega)]
    by_cases hcond : c.length % 2 = 1 ∨ T < n - 1 ∨ s ≠ 0
    · rw [if_pos hcond, if_pos]
      simp only [Bool.or_eq_true, decide_eq_true_eq, bne_iff_ne, ne_eq]
      omega
    · rw [if_neg hcond, if_neg]
      · rw [w64 (x := (T : Int) - (n : Int)) (by omega) (by omega), w64 (by omega) (by omega), if_pos (by simp only [List.append_nil]; omega), List.append_nil, show ((T : Int) - (n : Int) + 1).toNat = T - (n - 1) by omega]
      · simp only [Bool.or_eq_true, decide_eq_true_eq, bne_iff_ne, ne_eq]
        omega
/-- of what is coded the message -/
theorem exact_enc {n a b : Nat} (hc : CodeOK n a b) (l : List Bool) : EX n a b (enc n a b l (l.length + (n - 1))) = (l, 0) := by
  obtain ⟨T, hT⟩ : ∃ T, T = l.length + (n - 1) := ⟨_, rfl⟩
  have key : ∀ i, i ≤ T → X n a b (enc n a b l T) i = some ((List.range i).map (bitAt l), st n l i) := by
    intro i
    induction i with
    | zero => intro _; rfl
    | succ i ih =>
      intro hi
      obtain ⟨g1, g2⟩ := enc_get n a b l T i (by omega)
      have hs := st_lt hc l i
      simp only [X]
      rw [ih (by omega)]
      simp only [Option.bind_some]
      rw [g1, g2]
      have hbit : ((ob n a (st n l i) false != ob n a (st n l i) (bitAt l i)) || (ob n b (st n l i) false != ob n b (st n l i) (bitAt l i))) = bitAt l i := by
        cases hb : bitAt l i with
        | false => simp
        | true =>
          rw [ob_flip hc a hs, ob_flip hc b hs]
          exact bl4 _ _ _ _ (flip_some hc)
      rw [hbit, if_neg (by simp), List.range_succ, List.map_append]
      rfl
  have hl := enc_len n a b l T
  unfold EX
  rw [← hT, hl, show 2 * T / 2 = T by omega, key T (Nat.le_refl _)]
  simp only
  rw [if_neg (by rw [hT, st_end hc]; omega)]
  congr 1
  apply List.ext_getElem
  · simp; omega
  · intro i h1 h2
    simp only [List.getElem_take, List.getElem_map, List.getElem_range]
    rw [bitAt_lt h2, gt_nat h2]
/-- what is told is coded so -/
theorem exact_only {n a b : Nat} (hc : CodeOK n a b) {c m : List Bool} (h : EX n a b c = (m, 0)) : c.length = 2 * (m.length + (n - 1)) ∧ enc n a b m (m.length + (n - 1)) = c := by
  unfold EX at h
  cases hx : X n a b c (c.length / 2) with
  | none => rw [hx] at h; simp at h
  | some p =>
    obtain ⟨o, s⟩ := p
    rw [hx] at h
    simp only at h
    split at h
    · simp at h
    · rename_i hcond
      obtain ⟨h1, h2, h3⟩ := X_some hc _ o s hx
      simp only [Prod.mk.injEq, and_true] at h
      have hml : m.length = c.length / 2 - (n - 1) := by rw [← h, List.length_take]; omega
      have hT : m.length + (n - 1) = c.length / 2 := by omega
      have hcl : c.length = 2 * (m.length + (n - 1)) := by omega
      refine ⟨hcl, ?_⟩
      -- the last bits are false
      have hs0 : st n o (c.length / 2) = 0 := by rw [← h2]; omega
      have hb : ∀ t, t < c.length / 2 → bitAt o t = bitAt m t := fun t ht => by
        by_cases htm : t < m.length
        · rw [bitAt_lt htm, bitAt_lt (by omega), gt_nat (by omega), gt_nat htm]
          simp [← h]
        · rw [bitAt_big (l := m) (by omega)]
          cases hb : bitAt o t with
          | false => rfl
          | true =>
            exfalso
            have low : ∀ k, k ≤ n - 2 → 2 ^ (n - 2 - k) ≤ st n o (t + 1 + k) := by
              intro k
              induction k with
              | zero =>
                intro _
                show 2 ^ (n - 2) ≤ nx n (st n o t) (bitAt o t)
                obtain ⟨q, p1, p2, q1, q2, q3⟩ := hc.pq
                rw [hb]; unfold nx al; rw [if_pos rfl, p1, ← q3]; omega
              | succ k ih =>
                intro hk
                have := ih (by omega)
                have hp : 2 ^ (n - 2 - k) = 2 * 2 ^ (n - 2 - (k + 1)) := by rw [show n - 2 - k = n - 2 - (k + 1) + 1 by omega, Nat.pow_succ, Nat.mul_comm]
                show 2 ^ (n - 2 - (k + 1)) ≤ nx n (st n o (t + 1 + k)) (bitAt o (t + 1 + k))
                have hdv : st n o (t + 1 + k) / 2 ≤ nx n (st n o (t + 1 + k)) (bitAt o (t + 1 + k)) := Nat.div_le_div_right (Nat.le_add_right _ _)
                omega
            have := low (c.length / 2 - (t + 1)) (by omega)
            rw [show t + 1 + (c.length / 2 - (t + 1)) = c.length / 2 by omega, hs0] at this
            have := Nat.two_pow_pos (n - 2 - (c.length / 2 - (t + 1)))
            omega
      apply List.ext_getElem
      · rw [enc_len]; omega
      · intro i k1 k2
        obtain ⟨g1, g2⟩ := enc_get n a b m (m.length + (n - 1)) (i / 2) (by omega)
        obtain ⟨f1, f2⟩ := h3 (i / 2) (by omega)
        rw [hb _ (by omega), st_congr (n := n) (l := o) (m := m) (i / 2) fun t ht => hb t (by omega)] at f1 f2
        rw [← f1] at g1; rw [← f2] at g2
        by_cases hi : i % 2 = 0
        · rw [show 2 * (i / 2) = i by omega, gt_nat k1, gt_nat k2] at g1; exact g1
        · rw [show 2 * (i / 2) + 1 = i by omega, gt_nat k1, gt_nat k2] at g2; exact g2
/-! ### awake -/
theorem same_self (l : List Bool) (hl : l.length < 9223372036854775807) : f_foghornref21_Same l l = some true := by
  unfold f_foghornref21_Same
  rw [if_neg (by simp)]
  have := loop_for1 (f := f_foghornref21_Same.s1 l l) l.length (.inl ()) (fun i hi => ?_) ?_
  · rw [this]; rfl
  · simp only [f_foghornref21_Same.s1, f_foghornref21_Same.s1c]
    rw [if_pos (by simpa using hi), if_pos (by omega), if_pos (by omega), if_neg (by simp), w64 (by omega) (by omega)]
    rfl
  · simp only [f_foghornref21_Same.s1, f_foghornref21_Same.s1c]
    rw [if_neg (by simp)]
theorem awake_true : f_foghornlaw21_awake = some true := by
  unfold f_foghornlaw21_awake
  have hc : CodeOK 3 7 5 := ⟨by decide, by decide, by decide, by decide, by decide, by decide, by decide⟩
  have h1 := encode_ok hc [true] (by decide)
  rw [show ((3 : Nat) : Int) = 3 from rfl, show ((7 : Nat) : Int) = 7 from rfl, show ((5 : Nat) : Int) = 5 from rfl] at h1
  have h2 : enc 3 7 5 [true] ([true].length + 3 - 1) = [true, true, true, false, true, true] := by decide +kernel
  rw [h1, h2]
  simp only [Option.bind_some, beq_self_eq_true, if_true]
  rw [same_self _ (by decide)]
  rfl
/-! ### Walks -/
theorem through_walk {n a b : Nat} (h : CodeOK n a b) (l : List Bool) (hl : l.length + n - 1 ≤ 16384) :
    f_trellis_Code_through_36 (n : Int) (a : Int) (b : Int) l (n : Int) (a : Int) (b : Int) [0] = some (0, wk n l (l.length + n - 1)) := by
  have h1 := h.n2; have h2 := h.n7
  have key : ∀ k i : Nat, i + k = l.length + n - 1 → loop (f_trellis_Code_through_36.s1 (n : Int) l (n : Int) (a : Int) (b : Int)) (wk n l i, ((st n l i : Nat) : Int), (i : Int)) = some (wk n l (l.length + n - 1)) := by
    intro k
    induction k with
    | zero =>
      intro i hi
      obtain rfl : i = l.length + n - 1 := by omega
      apply loop_done
      simp only [f_trellis_Code_through_36.s1, f_trellis_Code_through_36.s1c]
      rw [w64 (x := (l.length : Int) + (n : Int)) (by omega) (by omega), w64 (by omega) (by omega), if_neg (by simp; omega)]
    | succ k ih =>
      intro i hi
      rw [← ih (i + 1) (by omega)]
      apply loop_step
      simp only [f_trellis_Code_through_36.s1, f_trellis_Code_through_36.s1c]
      rw [w64 (x := (l.length : Int) + (n : Int)) (by omega) (by omega), w64 (x := (l.length : Int) + (n : Int) - 1) (by omega) (by omega), if_pos (by simp; omega), bit_read]
      simp only [Option.bind_some]
      rw [step_ok h (st_lt h l i)]
      simp only [Option.bind_some, f_trellis_Code_Walk_1]
      rw [if_pos (by rw [wk_len]; simp; omega), w64 (by omega) (by omega), wk_succ]
      rfl
  unfold f_trellis_Code_through_36
  rw [check_ok h]
  simp only [Option.bind_some]
  rw [if_neg (by simp), w64 (x := (l.length : Int) + (n : Int)) (by omega) (by omega), w64 (x := (l.length : Int) + (n : Int) - 1) (by omega) (by omega), if_neg (by simp; omega)]
  have := key (l.length + n - 1) 0 (by omega)
  rw [show wk n l 0 = [0] from rfl, show ((st n l 0 : Nat) : Int) = 0 from rfl, show ((0 : Nat) : Int) = 0 from rfl] at this
  rw [this]
  rfl
theorem walk_ok {n a b : Nat} (h : CodeOK n a b) (l : List Bool) (hl : l.length + n - 1 ≤ 16384) :
    f_trellis_Code_Walk (n : Int) (a : Int) (b : Int) l = some (wk n l (l.length + n - 1), 0) := by
  unfold f_trellis_Code_Walk
  rw [through_walk h l hl]
  rfl
/-! ### Any code -/
theorem j2_tab : ∀ n : Nat, n < 4 → ∀ y : Nat, y < 256 → ((f_math_bits_Len32.j2 (y : Int) ((8 * n : Nat) : Int)).any fun k => decide (((8 * n + (if y = 0 then 0 else if y < 128 then 1 else 8) : Nat) : Int) ≤ k)) = true := by decide +kernel
theorem j2_ge {n y : Nat} (hn : n < 4) (hy : y < 256) : ∃ k : Nat, f_math_bits_Len32.j2 (y : Int) ((8 * n : Nat) : Int) = some (k : Int) ∧ 8 * n + (if y = 0 then 0 else if y < 128 then 1 else 8) ≤ k := by
  have := j2_tab n hn y hy
  cases hh : f_math_bits_Len32.j2 (y : Int) ((8 * n : Nat) : Int) with
  | none => rw [hh] at this; cases this
  | some q =>
    rw [hh] at this
    simp only [Option.any_some, decide_eq_true_eq] at this
    exact ⟨q.toNat, by congr 1; omega, by omega⟩
theorem len_big {m : Nat} (h1 : 128 ≤ m) (h2 : m < 4294967296) : ∃ k : Nat, f_math_bits_Len32 (m : Int) = some (k : Int) ∧ 8 ≤ k := by
  unfold f_math_bits_Len32
  by_cases h3 : 65536 ≤ m
  · rw [if_pos (by rw [decide_eq_true_eq]; omega), show (16 : Int) = ((16 : Nat) : Int) from rfl, ishr_nat (by decide)]
    have hy : m / 2 ^ 16 < 65536 := by rw [show (2 : Nat) ^ 16 = 65536 from rfl]; omega
    have hy1 : 1 ≤ m / 2 ^ 16 := by rw [show (2 : Nat) ^ 16 = 65536 from rfl]; omega
    generalize m / 2 ^ 16 = y at *
    unfold f_math_bits_Len32.j1
    by_cases h4 : 256 ≤ y
    · rw [if_pos (by rw [decide_eq_true_eq]; omega), show (8 : Int) = ((8 : Nat) : Int) from rfl, ishr_nat (by decide), show IntKind.i64.wrap (((16 : Nat) : Int) + ((8 : Nat) : Int)) = ((8 * 3 : Nat) : Int) from by decide]
      have hz : y / 2 ^ 8 < 256 := by rw [show (2 : Nat) ^ 8 = 256 from rfl]; omega
      obtain ⟨k, k1, k2⟩ := j2_ge (n := 3) (by decide) hz
      exact ⟨k, k1, by omega⟩
    · rw [if_neg (by rw [decide_eq_true_eq]; omega), show ((16 : Nat) : Int) = ((8 * 2 : Nat) : Int) from rfl]
      obtain ⟨k, k1, k2⟩ := j2_ge (n := 2) (y := y) (by decide) (by omega)
      exact ⟨k, k1, by omega⟩
  · rw [if_neg (by rw [decide_eq_true_eq]; omega)]
    unfold f_math_bits_Len32.j1
    by_cases h4 : 256 ≤ m
    · rw [if_pos (by rw [decide_eq_true_eq]; omega), show (8 : Int) = ((8 : Nat) : Int) from rfl, ishr_nat (by decide), show IntKind.i64.wrap (0 + ((8 : Nat) : Int)) = ((8 * 1 : Nat) : Int) from by decide]
      have hz : m / 2 ^ 8 < 256 := by rw [show (2 : Nat) ^ 8 = 256 from rfl]; omega
      obtain ⟨k, k1, k2⟩ := j2_ge (n := 1) (by decide) hz
      exact ⟨k, k1, by omega⟩
    · rw [if_neg (by rw [decide_eq_true_eq]; omega), show (0 : Int) = ((8 * 0 : Nat) : Int) from rfl]
      obtain ⟨k, k1, k2⟩ := j2_ge (n := 0) (y := m) (by decide) (by omega)
      exact ⟨k, k1, by rw [if_neg (by omega), if_neg (by omega)] at k2; omega⟩
theorem sh1 {n : Nat} (h7 : n ≤ 7) : ishl .u32 (1 : Int) (n : Int) = ((2 ^ n : Nat) : Int) := by
  have : (2 : Nat) ^ n ≤ 2 ^ 7 := Nat.pow_le_pow_right (by decide) h7
  rw [show ((1 : Int)) = ((1 : Nat) : Int) from rfl, ishl32 (by omega) (by omega), Nat.one_mul]
theorem pow_split {n : Nat} (h2 : 2 ≤ n) (h7 : n ≤ 7) : ∃ q, 2 ^ (n - 1) = 2 * q ∧ 2 ^ n = 4 * q ∧ 1 ≤ q ∧ q ≤ 32 := by
  have : n = 2 ∨ n = 3 ∨ n = 4 ∨ n = 5 ∨ n = 6 ∨ n = 7 := by omega
  refine ⟨2 ^ (n - 2), ?_⟩
  rcases this with h | h | h | h | h | h <;> rw [h] <;> decide
theorem may_val {n a b : Nat} (h2 : 2 ≤ n) (h7 : n ≤ 7) : f_foghornref21_May (n : Int) (a : Int) (b : Int) = some (decide (1 ≤ a ∧ a < 2 ^ n ∧ 1 ≤ b ∧ b < 2 ^ n ∧ (2 ^ (n - 1) ≤ a ∨ 2 ^ (n - 1) ≤ b))) := by
  obtain ⟨q, p1, p2, q1, q2⟩ := pow_split h2 h7
  unfold f_foghornref21_May
  rw [if_neg (by simp; omega), if_pos (by omega), sh1 h7]
  have e : IntKind.u32.wrap (((2 ^ n : Nat) : Int).tdiv 2) = ((2 ^ (n - 1) : Nat) : Int) := by
    rw [show (2 : Int) = ((2 : Nat) : Int) from rfl, tdiv_nat, p1, p2, w32 (by omega) (by omega)]; omega
  rw [e]
  congr 1
  rw [Bool.eq_iff_iff]
  simp only [Bool.and_eq_true, Bool.or_eq_true, decide_eq_true_eq]
  omega
theorem code_dich {L o t : Int} (w0 : (Lit.int .i64 L).wf = true) (w1 : (Lit.int .u32 o).wf = true) (w2 : (Lit.int .u32 t).wf = true) :
    (∃ n a b : Nat, L = (n : Int) ∧ o = (a : Int) ∧ t = (b : Int) ∧ CodeOK n a b ∧ f_foghornref21_May L o t = some true) ∨ (f_trellis_Code_Check L o t = some 1 ∧ f_foghornref21_May L o t = some false) := by
  have b1 := wf_u32 w1
  have b2 := wf_u32 w2
  by_cases hL : L < 2 ∨ 7 < L
  · right
    constructor
    · unfold f_trellis_Code_Check
      rw [if_pos (by simp; omega)]; rfl
    · unfold f_foghornref21_May
      rw [if_pos (by simp; omega)]
  obtain ⟨n, hn⟩ : ∃ m : Nat, L = (m : Int) := ⟨L.toNat, by omega⟩
  obtain ⟨a, ha⟩ : ∃ m : Nat, o = (m : Int) := ⟨o.toNat, by omega⟩
  obtain ⟨b, hb⟩ : ∃ m : Nat, t = (m : Int) := ⟨t.toNat, by omega⟩
  subst hn ha hb
  have h2 : 2 ≤ n := by omega
  have h7 : n ≤ 7 := by omega
  obtain ⟨q, p1, p2, q1, q2⟩ := pow_split h2 h7
  rw [may_val h2 h7]
  by_cases hv : 1 ≤ a ∧ a < 2 ^ n ∧ 1 ≤ b ∧ b < 2 ^ n ∧ (2 ^ (n - 1) ≤ a ∨ 2 ^ (n - 1) ≤ b)
  · left
    exact ⟨n, a, b, rfl, rfl, rfl, ⟨h2, h7, hv.1, hv.2.2.1, hv.2.1, hv.2.2.2.1, by omega⟩, by rw [decide_eq_true hv]⟩
  · right
    refine ⟨?_, by rw [decide_eq_false hv]⟩
    unfold f_trellis_Code_Check
    rw [imin_nat, imax_nat]
    by_cases hm : min a b < 1
    · rw [if_pos (by simp; omega)]; rfl
    · rw [if_neg (by simp; omega)]
      obtain ⟨m, hmm⟩ : ∃ m, m = max a b := ⟨_, rfl⟩
      rw [← hmm]
      have hk : ∃ k : Nat, f_math_bits_Len32 (m : Int) = some (k : Int) ∧ k ≠ n := by
        by_cases h128 : 128 ≤ m
        · obtain ⟨k, k1, k2⟩ := len_big h128 (by omega)
          exact ⟨k, k1, by omega⟩
        · have hm0 : m ≠ 0 := by omega
          have l1 := Nat.log2_self_le hm0
          have l2 : m < 2 ^ (m.log2 + 1) := Nat.lt_log2_self
          have l3 : m.log2 < 7 := (Nat.log2_lt hm0).2 (by omega)
          refine ⟨m.log2 + 1, len_tab (m.log2 + 1) (by omega) m (by omega) (by omega) (by simpa using l1) l2, fun he => ?_⟩
          rw [he] at l2
          have l4 : m.log2 = n - 1 := by omega
          rw [l4] at l1
          exact hv (by omega)
      obtain ⟨k, k1, k2⟩ := hk
      rw [k1]
      simp only [Option.bind_some]
      rw [if_pos (by simp; omega)]
/-! ### The document's steps -/
def pr (x : Nat) : Nat → Bool
  | 0 => false
  | i + 1 => pr x i != x.testBit i
theorem pr_par : ∀ x, x < 128 → (pr x 32 == par x) = true := by decide +kernel
theorem bit_one {x i : Nat} (hx : x < 4294967296) (hi : i < 32) : (iand .u32 (ishr .u32 (x : Int) (i : Int)) (1 : Int) == (1 : Int)) = x.testBit i := by
  have hd : x / 2 ^ i ≤ x := Nat.div_le_self _ _
  rw [ishr_nat (show i ≤ 32 by omega), show (1 : Int) = ((1 : Nat) : Int) from rfl, iand32 (by omega) (by omega), Nat.and_one_is_mod, Nat.testBit_eq_decide_div_mod_eq]
  rw [Bool.eq_iff_iff]
  simp only [beq_iff_eq, decide_eq_true_eq]
  omega
theorem odd_ok {x y : Nat} (hx : x < 128) (hy : y < 128) : f_foghornref21_odd (x : Int) (y : Int) = some (par (x &&& y)) := by
  have key : ∀ k i : Nat, i + k = 32 → loop (f_foghornref21_odd.s1 (x : Int) (y : Int)) (pr (x &&& y) i, (i : Int)) = some (pr (x &&& y) 32) := by
    intro k
    induction k with
    | zero =>
      intro i hi
      obtain rfl : i = 32 := by omega
      apply loop_done
      simp only [f_foghornref21_odd.s1, f_foghornref21_odd.s1c]
      rw [if_neg (by simp)]
    | succ k ih =>
      intro i hi
      rw [← ih (i + 1) (by omega)]
      apply loop_step
      simp only [f_foghornref21_odd.s1, f_foghornref21_odd.s1c]
      have i0 : 0 ≤ (i : Int) := by omega
      rw [if_pos (by rw [decide_eq_true_eq]; omega), if_pos i0, bit_one (x := x) (by omega) (by omega), bit_one (x := y) (by omega) (by omega), w64 (by omega) (by omega), if_pos i0]
      have e : pr (x &&& y) (i + 1) = (pr (x &&& y) i != (x.testBit i && y.testBit i)) := by simp only [pr]; rw [Nat.testBit_and]
      rw [e]
      cases x.testBit i <;> cases y.testBit i <;> simp
  have := key 32 0 (by omega)
  rw [show pr (x &&& y) 0 = false from rfl, show ((0 : Nat) : Int) = 0 from rfl] at this
  have hle : x &&& y ≤ x := Nat.and_le_left
  unfold f_foghornref21_odd
  rw [this, eq_of_beq (pr_par (x &&& y) (by omega))]; rfl
theorem go_ok {n a b : Nat} (h : CodeOK n a b) {s : Nat} (hs : s < 2 ^ (n - 1)) (c : Bool) :
    f_foghornref21_Go (n : Int) (a : Int) (b : Int) (s : Int) c = some (((nx n s c : Nat) : Int), ob n a s c, ob n b s c) := by
  have hal := al_lt h hs c
  obtain ⟨q, p1, p2, q1, q2, _⟩ := h.pq
  have h1 := h.n2; have h2 := h.n7; have h5 := h.an; have h6 := h.bn
  have j : f_foghornref21_Go.j1 (a : Int) (b : Int) ((al n s c : Nat) : Int) = some (((nx n s c : Nat) : Int), ob n a s c, ob n b s c) := by
    unfold f_foghornref21_Go.j1
    rw [odd_ok (by omega) (by omega), odd_ok (by omega) (by omega), show (2 : Int) = ((2 : Nat) : Int) from rfl, tdiv_nat, w32 (by omega) (by omega), w64 (by omega) (by omega)]
    rfl
  unfold f_foghornref21_Go
  cases c with
  | false => rw [if_neg (by simp), w32 (by omega) (by omega)]; exact j
  | true =>
    rw [if_pos rfl, w64 (by omega) (by omega), if_pos (by omega), w32 (x := (s : Int)) (by omega) (by omega), show (n : Int) - 1 = ((n - 1 : Nat) : Int) by omega, show ((1 : Int)) = ((1 : Nat) : Int) from rfl, ishl32 (by omega) (by omega), Nat.one_mul]
    have e : IntKind.u32.wrap ((s : Int) + ((2 ^ (n - 1) : Nat) : Int)) = ((al n s true : Nat) : Int) := by
      rw [w32 (by omega) (by omega)]; simp only [al, if_true]; omega
    rw [e]; exact j
theorem whole_ok {n a b : Nat} (h : CodeOK n a b) (l : List Bool) (hl : l.length < 140737488351233) : f_foghornref21_whole (n : Int) (a : Int) (b : Int) l = some (if l.length + n - 1 ≤ 16384 then (l ++ List.replicate (n - 1) false, true) else ([], false)) := by
  have h1 := h.n2; have h2 := h.n7
  unfold f_foghornref21_whole
  rw [w64 (x := (l.length : Int) + (n : Int)) (by omega) (by omega), w64 (x := (l.length : Int) + (n : Int) - 1) (by omega) (by omega), w64 (by omega) (by omega)]
  by_cases hs : l.length + n - 1 ≤ 16384
  · rw [if_pos hs, if_neg (by simp only [Bool.or_eq_true, decide_eq_true_eq]; omega), if_pos (by simp only [List.length_nil]; omega), List.nil_append]
    have key : ∀ k i : Nat, i + k = n - 1 → loop (f_foghornref21_whole.s1 (n : Int)) (l ++ List.replicate i false, ((i + 1 : Nat) : Int)) = some (l ++ List.replicate (n - 1) false) := by
      intro k
      induction k with
      | zero =>
        intro i hi
        obtain rfl : i = n - 1 := by omega
        apply loop_done
        simp only [f_foghornref21_whole.s1, f_foghornref21_whole.s1c]
        rw [if_neg (by rw [decide_eq_true_eq]; omega)]
      | succ k ih =>
        intro i hi
        rw [← ih (i + 1) (by omega)]
        apply loop_step
        simp only [f_foghornref21_whole.s1, f_foghornref21_whole.s1c]
        rw [if_pos (by rw [decide_eq_true_eq]; omega), if_pos (by simp only [List.length_append, List.length_replicate, List.length_cons, List.length_nil]; omega), w64 (by omega) (by omega), List.replicate_succ', List.append_assoc]
        rfl
    have := key (n - 1) 0 (by omega)
    rw [List.replicate_zero, List.append_nil, show ((0 + 1 : Nat) : Int) = 1 from rfl] at this
    rw [this]; rfl
  · rw [if_neg hs, if_pos (by simp only [Bool.or_eq_true, decide_eq_true_eq]; omega)]
theorem whole_gt {n : Nat} (l : List Bool) {i : Nat} (hi : i < l.length + (n - 1)) : gt (l ++ List.replicate (n - 1) false) (i : Int) = bitAt l i := by
  rw [gt_nat (by simp; omega)]
  unfold bitAt
  by_cases h : i < l.length
  · rw [if_pos h, gt_nat h, List.getElem_append_left h]
  · rw [if_neg h, List.getElem_append_right (by omega), List.getElem_replicate]
theorem rencode_ok {n a b : Nat} (h : CodeOK n a b) (hm : f_foghornref21_May (n : Int) (a : Int) (b : Int) = some true) (l : List Bool) (hl : l.length < 140737488351233) :
    f_foghornref21_Encode (n : Int) (a : Int) (b : Int) l = some (if l.length + n - 1 ≤ 16384 then (enc n a b l (l.length + n - 1), 0) else ([], 1)) := by
  have h1 := h.n2; have h2 := h.n7
  unfold f_foghornref21_Encode
  rw [hm]
  simp only [Option.bind_some, Bool.not_true, Bool.false_eq_true, if_false]
  rw [whole_ok h l hl]
  simp only [Option.bind_some]
  by_cases hs : l.length + n - 1 ≤ 16384
  · rw [if_pos hs, if_pos hs]
    simp only [Bool.not_true, Bool.false_eq_true, if_false]
    have hwl : (l ++ List.replicate (n - 1) false).length = l.length + (n - 1) := by simp
    have key : ∀ k i : Nat, i + k = l.length + (n - 1) → loop (f_foghornref21_Encode.s1 (n : Int) (a : Int) (b : Int) (l ++ List.replicate (n - 1) false, true)) (enc n a b l i, ((st n l i : Nat) : Int), (i : Int)) = some (enc n a b l (l.length + n - 1)) := by
      intro k
      induction k with
      | zero =>
        intro i hi
        obtain rfl : i = l.length + (n - 1) := by omega
        apply loop_done
        simp only [f_foghornref21_Encode.s1, f_foghornref21_Encode.s1c]
        rw [hwl, if_neg (by rw [decide_eq_true_eq]; omega), show l.length + (n - 1) = l.length + n - 1 by omega]
      | succ k ih =>
        intro i hi
        rw [← ih (i + 1) (by omega)]
        apply loop_step
        simp only [f_foghornref21_Encode.s1, f_foghornref21_Encode.s1c]
        rw [hwl, if_pos (by rw [decide_eq_true_eq]; omega), if_pos (by omega), whole_gt l (by omega), go_ok h (st_lt h l i)]
        simp only [Option.bind_some]
        rw [if_pos (by rw [enc_len]; simp only [List.length_cons, List.length_nil]; omega), w64 (by omega) (by omega)]
        rfl
    have := key (l.length + (n - 1)) 0 (by omega)
    rw [show enc n a b l 0 = [] from rfl, show ((st n l 0 : Nat) : Int) = 0 from rfl, show ((0 : Nat) : Int) = 0 from rfl] at this
    rw [this]; rfl
  · rw [if_neg hs, if_neg hs]; rfl
theorem rwalk_ok {n a b : Nat} (h : CodeOK n a b) (hm : f_foghornref21_May (n : Int) (a : Int) (b : Int) = some true) (l : List Bool) (hl : l.length < 140737488351233) :
    f_foghornref21_Walk (n : Int) (a : Int) (b : Int) l = some (if l.length + n - 1 ≤ 16384 then (wk n l (l.length + n - 1), 0) else ([], 1)) := by
  have h1 := h.n2; have h2 := h.n7
  unfold f_foghornref21_Walk
  rw [hm]
  simp only [Option.bind_some, Bool.not_true, Bool.false_eq_true, if_false]
  rw [whole_ok h l hl]
  simp only [Option.bind_some]
  by_cases hs : l.length + n - 1 ≤ 16384
  · rw [if_pos hs, if_pos hs]
    simp only [Bool.not_true, Bool.false_eq_true, if_false]
    have hwl : (l ++ List.replicate (n - 1) false).length = l.length + (n - 1) := by simp
    have key : ∀ k i : Nat, i + k = l.length + (n - 1) → loop (f_foghornref21_Walk.s1 (n : Int) (a : Int) (b : Int) (l ++ List.replicate (n - 1) false, true)) (wk n l i, ((st n l i : Nat) : Int), (i : Int)) = some (wk n l (l.length + n - 1)) := by
      intro k
      induction k with
      | zero =>
        intro i hi
        obtain rfl : i = l.length + (n - 1) := by omega
        apply loop_done
        simp only [f_foghornref21_Walk.s1, f_foghornref21_Walk.s1c]
        rw [hwl, if_neg (by rw [decide_eq_true_eq]; omega), show l.length + (n - 1) = l.length + n - 1 by omega]
      | succ k ih =>
        intro i hi
        rw [← ih (i + 1) (by omega)]
        apply loop_step
        simp only [f_foghornref21_Walk.s1, f_foghornref21_Walk.s1c]
        rw [hwl, if_pos (by rw [decide_eq_true_eq]; omega), if_pos (by omega), whole_gt l (by omega), go_ok h (st_lt h l i)]
        simp only [Option.bind_some]
        rw [if_pos (by rw [wk_len]; simp only [List.length_cons, List.length_nil]; omega), w64 (by omega) (by omega), wk_succ]
        rfl
    have := key (l.length + (n - 1)) 0 (by omega)
    rw [show wk n l 0 = [0] from rfl, show ((st n l 0 : Nat) : Int) = 0 from rfl, show ((0 : Nat) : Int) = 0 from rfl] at this
    rw [this]; rfl
  · rw [if_neg hs, if_neg hs]; rfl
theorem encode_long {n a b : Nat} (h : CodeOK n a b) (l : List Bool) (hl : l.length < 140737488351233) (hs : ¬ l.length + n - 1 ≤ 16384) : f_trellis_Code_Encode (n : Int) (a : Int) (b : Int) l = some ([], 1) := by
  have h1 := h.n2; have h2 := h.n7
  unfold f_trellis_Code_Encode f_trellis_Code_through
  rw [check_ok h]
  simp only [Option.bind_some]
  rw [if_neg (by simp), w64 (x := (l.length : Int) + (n : Int)) (by omega) (by omega), w64 (x := (l.length : Int) + (n : Int) - 1) (by omega) (by omega), if_pos (by rw [decide_eq_true_eq]; omega)]
  rfl
theorem walk_long {n a b : Nat} (h : CodeOK n a b) (l : List Bool) (hl : l.length < 140737488351233) (hs : ¬ l.length + n - 1 ≤ 16384) : f_trellis_Code_Walk (n : Int) (a : Int) (b : Int) l = some ([], 1) := by
  have h1 := h.n2; have h2 := h.n7
  unfold f_trellis_Code_Walk f_trellis_Code_through_36
  rw [check_ok h]
  simp only [Option.bind_some]
  rw [if_neg (by simp), w64 (x := (l.length : Int) + (n : Int)) (by omega) (by omega), w64 (x := (l.length : Int) + (n : Int) - 1) (by omega) (by omega), if_pos (by rw [decide_eq_true_eq]; omega)]
  rfl
/-! ### The document's Exact -/
theorem st_low {n a b : Nat} (hc : CodeOK n a b) {o : List Bool} {t : Nat} (hb : bitAt o t = true) : ∀ k, k ≤ n - 2 → 2 ^ (n - 2 - k) ≤ st n o (t + 1 + k) := by
  have h2 := hc.n2
  intro k
  induction k with
  | zero =>
    intro _
    show 2 ^ (n - 2) ≤ nx n (st n o t) (bitAt o t)
    obtain ⟨q, p1, p2, q1, q2, q3⟩ := hc.pq
    rw [hb]; unfold nx al; rw [if_pos rfl, p1, ← q3]; omega
  | succ k ih =>
    intro hk
    have := ih (by omega)
    have hp : 2 ^ (n - 2 - k) = 2 * 2 ^ (n - 2 - (k + 1)) := by rw [show n - 2 - k = n - 2 - (k + 1) + 1 by omega, Nat.pow_succ, Nat.mul_comm]
    show 2 ^ (n - 2 - (k + 1)) ≤ nx n (st n o (t + 1 + k)) (bitAt o (t + 1 + k))
    have hdv : st n o (t + 1 + k) / 2 ≤ nx n (st n o (t + 1 + k)) (bitAt o (t + 1 + k)) := Nat.div_le_div_right (Nat.le_add_right _ _)
    omega
theorem X_pre {n a b : Nat} (hc : CodeOK n a b) {c : List Bool} {i : Nat} : ∀ k o s o' s', X n a b c i = some (o, s) → X n a b c (i + k) = some (o', s') → ∀ t, t < i → bitAt o' t = bitAt o t
  | 0, o, s, o', s', h1, h2, t, ht => by rw [Nat.add_zero, h1] at h2; simp only [Option.some.injEq, Prod.mk.injEq] at h2; rw [h2.1]
  | k + 1, o, s, o', s', h1, h2, t, ht => by
    rw [← Nat.add_assoc] at h2
    cases hx : X n a b c (i + k) with
    | none => have := X_none hx 1; rw [this] at h2; cases h2
    | some p =>
      obtain ⟨o1, s1⟩ := p
      have ih := X_pre hc k o s o1 s1 h1 hx t ht
      have hl := (X_some hc _ _ _ hx).1
      simp only [X] at h2
      rw [hx] at h2
      simp only [Option.bind_some] at h2
      split at h2
      · cases h2
      · simp only [Option.some.injEq, Prod.mk.injEq] at h2
        rw [← h2.1, bitAt_app _ (by omega), ih]
def rxR (N : Nat) (r : Option (List Bool × Nat)) : List Bool ⊕ (List Bool × Int) :=
  match r with
  | none => .inr ([], 6)
  | some (o, s) => if s ≠ 0 then .inr ([], 6) else .inl (o.take N)
theorem rexact_s2 {n a b : Nat} (hc : CodeOK n a b) {c : List Bool} (hl : c.length ≤ 32768) {T N i : Nat} (hT : T = c.length / 2) (hN : N = T - (n - 1)) (hNT : n - 1 ≤ T) (hi : i < T) {out0 : List Bool} {s : Nat} (hs : s < 2 ^ (n - 1)) (hol : out0.length ≤ 32768) :
    loop (f_foghornref21_Exact.s2 (n : Int) (a : Int) (b : Int) c (i : Int)) (out0, (s : Int), false, 0) =
      some (let bit := (ob n a s false != gt c ((2 * i : Nat) : Int)) || (ob n b s false != gt c ((2 * i + 1 : Nat) : Int))
        if ((ob n a s bit != gt c ((2 * i : Nat) : Int)) || (ob n b s bit != gt c ((2 * i + 1 : Nat) : Int))) = true ∨ (N ≤ i ∧ bit = true) then (out0, (s : Int), false) else (if i < N then out0 ++ [bit] else out0, ((nx n s bit : Nat) : Int), true)) := by
  have h2 := hc.n2; have h7 := hc.n7
  have e0 : IntKind.i64.wrap (2 * (i : Int)) = ((2 * i : Nat) : Int) := by rw [w64 (by omega) (by omega)]; omega
  have e1 : IntKind.i64.wrap (((2 * i : Nat) : Int) + 1) = ((2 * i + 1 : Nat) : Int) := by rw [w64 (by omega) (by omega)]; rfl
  have hh : IntKind.i64.wrap (((c.length : Int)).tdiv 2) = (T : Int) := by
    rw [show (2 : Int) = ((2 : Nat) : Int) from rfl, tdiv_nat, w64 (by omega) (by omega), hT]
  have hNN : IntKind.i64.wrap ((T : Int) - IntKind.i64.wrap ((n : Int) - 1)) = (N : Int) := by rw [w64 (x := (n : Int) - 1) (by omega) (by omega), w64 (by omega) (by omega)]; omega
  have rd : ∀ x y z w : Bool, (if (x == z) = true then (if 0 ≤ ((2 * i + 1 : Nat) : Int) ∧ ((2 * i + 1 : Nat) : Int) < (c.length : Int) then some (y == w) else none) else some false) = some ((x == z) && (y == w)) := fun x y z w => by
    rw [if_pos (show 0 ≤ ((2 * i + 1 : Nat) : Int) ∧ ((2 * i + 1 : Nat) : Int) < (c.length : Int) by omega)]; cases x <;> cases z <;> simp
  -- one try
  have try1 : ∀ k : Nat, k < 2 → f_foghornref21_Exact.s2 (n : Int) (a : Int) (b : Int) c (i : Int) (out0, (s : Int), false, (k : Int)) =
      some (.inl (if ((ob n a s (k == 1) == gt c ((2 * i : Nat) : Int)) && (ob n b s (k == 1) == gt c ((2 * i + 1 : Nat) : Int)) && (decide (i < N) || !(k == 1))) = true then (if i < N then out0 ++ [k == 1] else out0, ((nx n s (k == 1) : Nat) : Int), true, ((k + 1 : Nat) : Int)) else (out0, (s : Int), false, ((k + 1 : Nat) : Int)))) := by
    intro k hk
    have ek : (((k : Int)) == (1 : Int)) = (k == 1) := by rw [Bool.eq_iff_iff]; simp only [beq_iff_eq]; omega
    simp only [f_foghornref21_Exact.s2, f_foghornref21_Exact.s2c]
    rw [if_pos (by simp only [Bool.and_eq_true, decide_eq_true_eq, Bool.not_false, and_true]; omega), ek, go_ok hc hs]
    simp only [Option.bind_some]
    rw [e0, e1, if_pos (by omega), rd]
    simp only [Option.bind_some]
    rw [hh, hNN, show (decide ((i : Int) < (N : Int))) = decide (i < N) from decide_eq_decide.2 (by omega), w64 (x := (k : Int) + 1) (by omega) (by omega)]
    by_cases hcnd : ((ob n a s (k == 1) == gt c ((2 * i : Nat) : Int)) && (ob n b s (k == 1) == gt c ((2 * i + 1 : Nat) : Int)) && (decide (i < N) || !(k == 1))) = true
    · rw [if_pos hcnd, if_pos hcnd]
      by_cases hiN : i < N
      · rw [if_pos (by simpa using hiN), if_pos hiN, if_pos (by simp only [List.length_cons, List.length_nil]; omega)]; rfl
      · rw [if_neg (by simpa using hiN), if_neg hiN]; rfl
    · rw [if_neg hcnd, if_neg hcnd]; rfl
  have stop1 : ∀ (o : List Bool) (s' : Int) (k : Nat), loop (f_foghornref21_Exact.s2 (n : Int) (a : Int) (b : Int) c (i : Int)) (o, s', true, (k : Int)) = some (o, s', true) := fun o s' k => by
    apply loop_done
    simp only [f_foghornref21_Exact.s2, f_foghornref21_Exact.s2c]
    rw [if_neg (by simp)]
  have stop2 : ∀ (o : List Bool) (s' : Int), loop (f_foghornref21_Exact.s2 (n : Int) (a : Int) (b : Int) c (i : Int)) (o, s', false, ((2 : Nat) : Int)) = some (o, s', false) := fun o s' => by
    apply loop_done
    simp only [f_foghornref21_Exact.s2, f_foghornref21_Exact.s2c]
    rw [if_neg (by simp)]
  have t0 := try1 0 (by omega)
  have t1 := try1 1 (by omega)
  rw [show ((0 : Nat) : Int) = 0 from rfl] at t0
  simp only [show ((0 : Nat) == 1) = false from rfl, show ((1 : Nat) == 1) = true from rfl, Bool.not_false, Bool.or_true, Bool.and_true, Bool.not_true, Bool.or_false] at t0 t1
  by_cases hf : ((ob n a s false == gt c ((2 * i : Nat) : Int)) && (ob n b s false == gt c ((2 * i + 1 : Nat) : Int))) = true
  · rw [if_pos hf] at t0
    have hb := bl2 _ _ _ _ hf
    rw [loop_step t0, stop1]
    simp only [hb]
    refine congrArg some (if_neg ?_).symm
    rintro (h | h)
    · exact absurd h (by decide)
    · exact absurd h.2 (by decide)
  · rw [if_neg hf] at t0
    have hb := bl3 _ _ _ _ hf
    rw [loop_step t0]
    simp only [hb]
    by_cases hcnd : ((ob n a s true == gt c ((2 * i : Nat) : Int)) && (ob n b s true == gt c ((2 * i + 1 : Nat) : Int)) && decide (i < N)) = true
    · rw [if_pos hcnd] at t1
      rw [show (((0 + 1 : Nat)) : Int) = ((1 : Nat) : Int) from rfl, loop_step t1, stop1]
      have h3 : ob n a s true = gt c ((2 * i : Nat) : Int) ∧ ob n b s true = gt c ((2 * i + 1 : Nat) : Int) ∧ i < N := by simpa [and_assoc] using hcnd
      refine congrArg some (if_neg ?_).symm
      rintro (h | h)
      · rw [h3.1, h3.2.1] at h; simp at h
      · omega
    · rw [if_neg hcnd] at t1
      rw [show (((0 + 1 : Nat)) : Int) = ((1 : Nat) : Int) from rfl, loop_step t1, stop2, if_pos]
      simp only [Bool.and_eq_true, beq_iff_eq, decide_eq_true_eq, not_and] at hcnd
      by_cases ha : ob n a s true = gt c ((2 * i : Nat) : Int)
      · by_cases hb2 : ob n b s true = gt c ((2 * i + 1 : Nat) : Int)
        · right; exact ⟨by have := hcnd ⟨ha, hb2⟩; omega, trivial⟩
        · left; rw [Bool.or_eq_true]; exact .inr (bne_iff_ne.2 hb2)
      · left; rw [Bool.or_eq_true]; exact .inl (bne_iff_ne.2 ha)
theorem rexact_ok {n a b : Nat} (hc : CodeOK n a b) (hm : f_foghornref21_May (n : Int) (a : Int) (b : Int) = some true) (c : List Bool) (hl : c.length ≤ 32768) : f_foghornref21_Exact (n : Int) (a : Int) (b : Int) c = some (EX n a b c) := by
  have h2 := hc.n2; have h7 := hc.n7
  obtain ⟨T, hT⟩ : ∃ T, T = c.length / 2 := ⟨_, rfl⟩
  have hh : IntKind.i64.wrap (((c.length : Int)).tdiv 2) = (T : Int) := by
    rw [show (2 : Int) = ((2 : Nat) : Int) from rfl, tdiv_nat, w64 (by omega) (by omega), hT]
  have e2 : ((c.length : Int)).tmod 2 = ((c.length % 2 : Nat) : Int) := by rw [show (2 : Int) = ((2 : Nat) : Int) from rfl, tmod_nat]
  have hE : EX n a b c = match X n a b c T with
      | none => ([], 6)
      | some (out, s) => if c.length % 2 = 1 ∨ T < n - 1 ∨ s ≠ 0 then ([], 6) else (out.take (T - (n - 1)), 0) := by unfold EX; rw [← hT]
  unfold f_foghornref21_Exact
  rw [hm]
  simp only [Option.bind_some]
  rw [if_neg (by simp; omega), hh, e2, w64 (x := (n : Int) - 1) (by omega) (by omega), w64 (x := (T : Int) - ((n : Int) - 1)) (by omega) (by omega)]
  by_cases hbad : c.length % 2 = 1 ∨ T < n - 1
  · rw [if_pos (by simp only [Bool.or_eq_true, beq_iff_eq, decide_eq_true_eq]; omega), hE]
    cases X n a b c T with
    | none => rfl
    | some p =>
      obtain ⟨o, s⟩ := p
      simp only
      rw [if_pos (by omega)]
  · rw [if_neg (by simp only [Bool.or_eq_true, beq_iff_eq, decide_eq_true_eq]; omega)]
    obtain ⟨N, hN⟩ : ∃ N, N = T - (n - 1) := ⟨_, rfl⟩
    have key : ∀ k i out s, i + k = T → X n a b c i = some (out, s) → (∀ t, N ≤ t → t < i → bitAt out t = false) → loop (f_foghornref21_Exact.s1 (n : Int) (a : Int) (b : Int) c) (out.take N, (s : Int), (i : Int)) = some (rxR N (X n a b c T)) := by
      intro k
      induction k with
      | zero =>
        intro i out s hi hx hz
        obtain rfl : i = T := by omega
        obtain ⟨x1, x2, x3⟩ := X_some hc i out s hx
        have hs0 : s = 0 := by
          have : st n out i = st n (out.take N) i := st_congr i fun t ht => by
            by_cases htN : t < N
            · rw [bitAt_lt (by omega), bitAt_lt (by rw [List.length_take]; omega), gt_nat (by omega), gt_nat (by rw [List.length_take]; omega), List.getElem_take]
            · rw [hz t (by omega) ht, bitAt_big (by rw [List.length_take]; omega)]
          rw [x2, this]
          have hl := List.length_take (i := N) (l := out)
          have := st_end hc (out.take N)
          rw [show (out.take N).length + (n - 1) = i by omega] at this
          exact this
        rw [hx]
        apply loop_done
        simp only [f_foghornref21_Exact.s1, f_foghornref21_Exact.s1c]
        rw [hh, if_neg (by simp)]
        simp only [rxR]
        rw [if_neg (by omega)]
      | succ k ih =>
        intro i out s hi hx hz
        have hs := X_lt hc hx
        obtain ⟨x1, x2, x3⟩ := X_some hc i out s hx
        have hs2 := rexact_s2 hc hl (i := i) hT hN (by omega) (by omega) (out0 := out.take N) hs (by rw [List.length_take]; omega)
        have hXX : X n a b c (i + 1) = if ((ob n a s ((ob n a s false != gt c ((2 * i : Nat) : Int)) || (ob n b s false != gt c ((2 * i + 1 : Nat) : Int))) != gt c ((2 * i : Nat) : Int)) || (ob n b s ((ob n a s false != gt c ((2 * i : Nat) : Int)) || (ob n b s false != gt c ((2 * i + 1 : Nat) : Int))) != gt c ((2 * i + 1 : Nat) : Int))) = true then none else some (out ++ [((ob n a s false != gt c ((2 * i : Nat) : Int)) || (ob n b s false != gt c ((2 * i + 1 : Nat) : Int)))], nx n s ((ob n a s false != gt c ((2 * i : Nat) : Int)) || (ob n b s false != gt c ((2 * i + 1 : Nat) : Int)))) := by
          simp only [X]; rw [hx]; rfl
        simp only at hs2
        generalize ((ob n a s false != gt c ((2 * i : Nat) : Int)) || (ob n b s false != gt c ((2 * i + 1 : Nat) : Int))) = bit at hs2 hXX
        have step : f_foghornref21_Exact.s1 (n : Int) (a : Int) (b : Int) c (out.take N, (s : Int), (i : Int)) = if ((ob n a s bit != gt c ((2 * i : Nat) : Int)) || (ob n b s bit != gt c ((2 * i + 1 : Nat) : Int))) = true ∨ (N ≤ i ∧ bit = true) then some (.inr (.inr ([], 6))) else some (.inl (if i < N then out.take N ++ [bit] else out.take N, ((nx n s bit : Nat) : Int), ((i + 1 : Nat) : Int))) := by
          simp only [f_foghornref21_Exact.s1, f_foghornref21_Exact.s1c]
          rw [hh, if_pos (by rw [decide_eq_true_eq]; omega), hs2]
          simp only [Option.bind_some]
          split
          · rfl
          · simp only [Bool.not_true, Bool.false_eq_true, if_false]
            rw [w64 (by omega) (by omega)]; rfl
        by_cases hmis : ((ob n a s bit != gt c ((2 * i : Nat) : Int)) || (ob n b s bit != gt c ((2 * i + 1 : Nat) : Int))) = true
        · rw [if_pos hmis] at hXX
          rw [if_pos (.inl hmis)] at step
          rw [loop_done step]
          have := X_none hXX k
          rw [show i + 1 + k = T by omega] at this
          rw [this]; rfl
        · rw [if_neg hmis] at hXX
          by_cases hlate : N ≤ i ∧ bit = true
          · rw [if_pos (.inr hlate)] at step
            rw [loop_done step]
            cases hxT : X n a b c T with
            | none => rfl
            | some p =>
              obtain ⟨o', s'⟩ := p
              have hpre := X_pre hc (i := i + 1) k _ _ o' s' hXX (by rw [show i + 1 + k = T by omega]; exact hxT) i (by omega)
              have hbl : bitAt (out ++ [bit]) i = bit := by rw [← x1]; exact bitAt_last out bit
              rw [hbl, hlate.2] at hpre
              have hlow := st_low hc hpre (T - (i + 1)) (by omega)
              rw [show i + 1 + (T - (i + 1)) = T by omega, ← (X_some hc T o' s' hxT).2.1] at hlow
              have := Nat.two_pow_pos (n - 2 - (T - (i + 1)))
              simp only [rxR]
              rw [if_pos (by omega)]
          · rw [if_neg (by rintro (h | h); exact hmis h; exact hlate h)] at step
            rw [loop_step step]
            have ho : (if i < N then out.take N ++ [bit] else out.take N) = (out ++ [bit]).take N := by
              by_cases hiN : i < N
              · rw [if_pos hiN, List.take_of_length_le (by omega), List.take_of_length_le (by simp; omega)]
              · rw [if_neg hiN, List.take_append_of_le_length (by omega)]
            rw [ho]
            refine ih (i + 1) _ _ (by omega) hXX (fun t h1 h2 => ?_)
            by_cases hti : t < i
            · rw [bitAt_app _ (by omega)]; exact hz t h1 hti
            · obtain rfl : t = i := by omega
              rw [show bitAt (out ++ [bit]) t = bit from by rw [← x1]; exact bitAt_last out bit]
              cases bit with
              | false => rfl
              | true => exact absurd ⟨h1, rfl⟩ hlate
    have := key T 0 [] 0 (by omega) rfl (fun t h1 h2 => by omega)
    rw [List.take_nil, show ((0 : Nat) : Int) = 0 from rfl] at this
    rw [this, hE]
    simp only [Option.bind_some]
    cases X n a b c T with
    | none => rfl
    | some p =>
      obtain ⟨o, s⟩ := p
      simp only [rxR]
      by_cases hs0 : s ≠ 0
      · rw [if_pos hs0, if_pos (by omega)]; rfl
      · rw [if_neg hs0, if_neg (by omega), hN]; rfl
/-! ### Both say the same -/
theorem both {L o t : Int} (w0 : (Lit.int .i64 L).wf = true) (w1 : (Lit.int .u32 o).wf = true) (w2 : (Lit.int .u32 t).wf = true) (l : List Bool) (hl : l.length < 140737488351233) :
    (∃ E e, f_trellis_Code_Encode L o t l = some (E, e) ∧ f_foghornref21_Encode L o t l = some (E, e) ∧ E.length ≤ 32768) ∧
    (∃ W e, f_trellis_Code_Walk L o t l = some (W, e) ∧ f_foghornref21_Walk L o t l = some (W, e) ∧ W.length ≤ 32768) ∧
    (∃ x e, f_trellis_Code_Exact L o t l = some (x, e) ∧ f_foghornref21_Exact L o t l = some (x, e) ∧ x.length ≤ 32768) := by
  rcases code_dich w0 w1 w2 with ⟨n, a, b, rfl, rfl, rfl, h, hm⟩ | ⟨h, hm⟩
  · have h1 := h.n2; have h2 := h.n7
    refine ⟨?_, ?_, ?_⟩
    · by_cases hs : l.length + n - 1 ≤ 16384
      · refine ⟨_, _, encode_ok h l hs, by rw [rencode_ok h hm l hl, if_pos hs], by rw [enc_len]; omega⟩
      · refine ⟨_, _, encode_long h l hl hs, by rw [rencode_ok h hm l hl, if_neg hs], by simp⟩
    · by_cases hs : l.length + n - 1 ≤ 16384
      · refine ⟨_, _, walk_ok h l hs, by rw [rwalk_ok h hm l hl, if_pos hs], by rw [wk_len]; omega⟩
      · refine ⟨_, _, walk_long h l hl hs, by rw [rwalk_ok h hm l hl, if_neg hs], by simp⟩
    · by_cases hs : l.length ≤ 32768
      · refine ⟨(EX n a b l).1, (EX n a b l).2, exact_ok h l hs, rexact_ok h hm l hs, ?_⟩
        unfold EX
        cases hx : X n a b l (l.length / 2) with
        | none => simp
        | some p =>
          obtain ⟨o, s⟩ := p
          have := (X_some h _ _ _ hx).1
          simp only
          split
          · simp
          · simp only [List.length_take]; omega
      · refine ⟨[], 1, ?_, ?_, by simp⟩
        · unfold f_trellis_Code_Exact
          rw [check_ok h]
          simp only [Option.bind_some]
          rw [if_pos (by simp; omega)]
        · unfold f_foghornref21_Exact
          rw [hm]
          simp only [Option.bind_some]
          rw [if_pos (by simp; omega)]
  · refine ⟨⟨[], 1, ?_, ?_, by simp⟩, ⟨[], 1, ?_, ?_, by simp⟩, ⟨[], 1, ?_, ?_, by simp⟩⟩
    · unfold f_trellis_Code_Encode f_trellis_Code_through; rw [h]; rfl
    · unfold f_foghornref21_Encode; rw [hm]; rfl
    · unfold f_trellis_Code_Walk f_trellis_Code_through_36; rw [h]; rfl
    · unfold f_foghornref21_Walk; rw [hm]; rfl
    · unfold f_trellis_Code_Exact; rw [h]; rfl
    · unfold f_foghornref21_Exact; rw [hm]; rfl
theorem wy_s1 (a : List Bool) (ha : a.length < 140737488351233) : ∃ u, loop f_foghornlaw21_ways.s1 (a, 0) = some u := by
  obtain ⟨r, h1, _⟩ := loop_inv (f := f_foghornlaw21_ways.s1) (fun s : List Bool × Int => s.1.length = a.length ∧ 0 ≤ s.2 ∧ s.2 ≤ a.length) (fun s => a.length - s.2.toNat) (fun _ => True) (by
    rintro ⟨x, i⟩ ⟨i0, i1, i2⟩
    simp only at i0 i1 i2
    simp only [f_foghornlaw21_ways.s1, f_foghornlaw21_ways.s1c]
    by_cases hi : i < x.length
    · rw [if_pos (by rw [decide_eq_true_eq]; omega), if_pos (by omega), if_pos (by omega), w64 (by omega) (by omega)]
      exact .inl ⟨_, rfl, ⟨by simp only [List.length_set]; omega, by simp only; omega, by simp only; omega⟩, by simp only; omega⟩
    · rw [if_neg (by rw [decide_eq_true_eq]; omega)]; exact .inr ⟨_, rfl, trivial⟩) (a, 0) ⟨rfl, by simp, by simp⟩
  exact ⟨r, h1⟩
theorem wy_s3 (a : List Bool) (ha : a.length < 140737488351233) : ∃ u, loop f_foghornlaw21_ways.s3 (a, 0) = some u := by
  obtain ⟨r, h1, _⟩ := loop_inv (f := f_foghornlaw21_ways.s3) (fun s : List Bool × Int => s.1.length = a.length ∧ 0 ≤ s.2 ∧ s.2 ≤ a.length) (fun s => a.length - s.2.toNat) (fun _ => True) (by
    rintro ⟨x, i⟩ ⟨i0, i1, i2⟩
    simp only at i0 i1 i2
    simp only [f_foghornlaw21_ways.s3, f_foghornlaw21_ways.s3c]
    by_cases hi : i < x.length
    · rw [if_pos (by rw [decide_eq_true_eq]; omega), if_pos (by omega), if_pos (by omega), w64 (by omega) (by omega)]
      exact .inl ⟨_, rfl, ⟨by simp only [List.length_set]; omega, by simp only; omega, by simp only; omega⟩, by simp only; omega⟩
    · rw [if_neg (by rw [decide_eq_true_eq]; omega)]; exact .inr ⟨_, rfl, trivial⟩) (a, 0) ⟨rfl, by simp, by simp⟩
  exact ⟨r, h1⟩
theorem wy_s2 (W : List Int) (e : Int) (hW : W.length < 140737488351233) : loop (f_foghornlaw21_ways.s2 (W, e)) (W, 0) = some (.inl ()) := by
  obtain ⟨r, h1, h2⟩ := loop_inv (f := f_foghornlaw21_ways.s2 (W, e)) (fun s : List Int × Int => s.1.length = W.length ∧ 0 ≤ s.2 ∧ s.2 ≤ W.length ∧ ∀ j : Nat, s.2 ≤ (j : Int) → j < W.length → gt s.1 (j : Int) = gt W (j : Int)) (fun s => W.length - s.2.toNat) (fun r => r = .inl ()) (by
    rintro ⟨x, i⟩ ⟨i0, i1, i2, i3⟩
    simp only at i0 i1 i2 i3
    simp only [f_foghornlaw21_ways.s2, f_foghornlaw21_ways.s2c]
    obtain ⟨p, rfl⟩ : ∃ p : Nat, i = (p : Int) := ⟨i.toNat, by omega⟩
    by_cases hi : p < W.length
    · rw [if_pos (by rw [decide_eq_true_eq]; omega), if_pos (by omega), if_pos (by omega), i3 p (by omega) hi, if_neg (by simp), if_pos (by omega), w64 (by omega) (by omega), Int.toNat_natCast]
      refine .inl ⟨_, rfl, ⟨by simp only [List.length_set]; omega, by simp only; omega, by simp only; omega, fun j hj hjl => ?_⟩, by simp only; omega⟩
      simp only at hj ⊢
      rw [gt_nat (by rw [List.length_set]; omega), List.getElem_set, if_neg (by omega), ← gt_nat (by omega)]
      exact i3 j (by omega) hjl
    · rw [if_neg (by rw [decide_eq_true_eq]; omega)]; exact .inr ⟨_, rfl, rfl⟩) (W, 0) ⟨rfl, by simp, by simp, fun j _ _ => rfl⟩
  rw [h1, h2]
theorem gt_setG {α : Type} [Inhabited α] {L : List α} {i j : Nat} (hi : i < L.length) (hj : j < L.length) (v : α) : gt (L.set i v) (j : Int) = if i = j then v else gt L (j : Int) := by
  rw [gt_nat (by rw [List.length_set]; exact hj), gt_nat hj, List.getElem_set]
theorem lent_ok (l : List Bool) (hl : l.length < 140737488351233) : f_foghornlaw21_lent l = some (l, [true]) := by
  unfold f_foghornlaw21_lent
  rw [if_pos (by simp only [List.length_nil]; omega), List.nil_append, if_pos (by simp only [List.length_cons, List.length_nil]; omega), List.append_nil, if_pos (by simp only [List.length_append, List.length_cons, List.length_nil]; omega), Int.toNat_natCast]
  have e1 : (l ++ [true]).take l.length = l := List.take_left
  have e2 : (l ++ [true]).drop l.length = [true] := List.drop_left
  rw [e1, e2]
theorem kept_ok (l : List Bool) (hl : l.length < 140737488351233) : f_foghornlaw21_kept l [true] l = some true := by
  unfold f_foghornlaw21_kept
  rw [same_self l (by omega)]
  simp only [Option.bind_some, if_true]
  have e : (l ++ [true]).take (((l.length : Int) + 1).toNat) = l ++ [true] := List.take_of_length_le (by simp only [List.length_append, List.length_cons, List.length_nil]; omega)
  rw [w64 (by omega) (by omega), e, if_pos (by simp; omega), if_pos (by simp; omega), gt_nat (by simp), List.getElem_append_right (Nat.le_refl _)]
  simp
theorem ways_ok {L o t : Int} (w0 : (Lit.int .i64 L).wf = true) (w1 : (Lit.int .u32 o).wf = true) (w2 : (Lit.int .u32 t).wf = true) (l : List Bool) (hl : l.length < 140737488351233) : f_foghornlaw21_ways L o t l [true] l = some true := by
  obtain ⟨⟨E, e, h1, h2, h3⟩, ⟨W, f, h4, h5, h6⟩, ⟨x, g, h7, h8, h9⟩⟩ := both w0 w1 w2 l hl
  obtain ⟨_, _, ⟨y, k, h10, h11, h12⟩⟩ := both w0 w1 w2 E (by omega)
  obtain ⟨u1, hu1⟩ := wy_s1 E (by omega)
  obtain ⟨u3, hu3⟩ := wy_s3 y (by omega)
  have own : f_foghornlaw21_own L o t = some (L, o, t) := rfl
  unfold f_foghornlaw21_ways
  rw [own]
  simp only [Option.bind_some]
  rw [h1, h2]
  simp only [Option.bind_some, bne_self_eq_false, Bool.false_eq_true, if_false]
  rw [same_self E (by omega)]
  simp only [Option.bind_some, Bool.not_true, Bool.false_eq_true, if_false]
  rw [hu1]
  simp only [Option.bind_some]
  rw [h4, h5]
  simp only [Option.bind_some, bne_self_eq_false, Bool.or_self, Bool.false_eq_true, if_false]
  rw [wy_s2 W f (by omega)]
  simp only [Option.bind_some, sm]
  rw [h7, h8]
  simp only [Option.bind_some, bne_self_eq_false, Bool.false_eq_true, if_false]
  rw [same_self x (by omega)]
  simp only [Option.bind_some, Bool.not_true, Bool.false_eq_true, if_false]
  rw [lent_ok E (by omega)]
  simp only [Option.bind_some]
  rw [h10, h11]
  simp only [Option.bind_some, bne_self_eq_false, Bool.false_eq_true, if_false]
  rw [same_self y (by omega)]
  simp only [Option.bind_some, Bool.not_true, Bool.false_eq_true, if_false]
  rw [kept_ok E (by omega)]
  simp only [Option.bind_some, Bool.not_true, Bool.false_eq_true, if_false]
  rw [hu3]
  rfl
theorem ways_true (L : Int) (w0 : (Lit.int .i64 L).wf = true) (o : Int) (w1 : (Lit.int .u32 o).wf = true) (t : Int) (w2 : (Lit.int .u32 t).wf = true) (l : List Bool) (w3 : ∀ x ∈ l, True) (hl : l.length * 1 ≤ 140737488351232) :
    f_foghornlaw21_TrellisWays L o t l = some true := by
  unfold f_foghornlaw21_TrellisWays
  rw [lent_ok l (by omega)]
  simp only [Option.bind_some]
  rw [ways_ok w0 w1 w2 l (by omega)]
  simp only [Option.bind_some, Bool.not_true, Bool.false_eq_true, if_false]
  rw [kept_ok l (by omega)]
  simp only [Option.bind_some, Bool.not_true, Bool.false_eq_true, if_false]
  rw [if_pos (by omega), Int.toNat_natCast]
  obtain ⟨r, h1, h2, h3⟩ := loop_inv (f := f_foghornlaw21_TrellisWays.s1 l) (fun s : List Bool × List Bool × Int => s.1.length = l.length ∧ s.2.1.length = l.length ∧ 0 ≤ s.2.2 ∧ s.2.2 ≤ l.length ∧ ∀ j : Nat, (j : Int) < s.2.2 → gt s.1 (j : Int) = gt s.2.1 (j : Int)) (fun s => l.length - s.2.2.toNat)
    (fun r : List Bool × List Bool => r.1 = r.2 ∧ r.1.length = l.length) (by
    rintro ⟨x, y, i⟩ ⟨i0, i1, i2, i3, i4⟩
    simp only at i0 i1 i2 i3 i4
    simp only [f_foghornlaw21_TrellisWays.s1, f_foghornlaw21_TrellisWays.s1c]
    obtain ⟨p, rfl⟩ : ∃ p : Nat, i = (p : Int) := ⟨i.toNat, by omega⟩
    by_cases hi : p < l.length
    · rw [if_pos (by rw [decide_eq_true_eq]; omega), if_pos (by omega), if_pos (by omega), if_pos (by rw [List.length_set]; omega), if_pos (by omega), w64 (by omega) (by omega), Int.toNat_natCast]
      refine .inl ⟨_, rfl, ⟨by simp only [List.length_set]; omega, by simp only [List.length_set]; omega, by simp only; omega, by simp only; omega, fun j hj => ?_⟩, by simp only; omega⟩
      simp only at hj ⊢
      rw [gt_setG (by omega) (by omega), gt_setG (L := y) (j := j) (by omega) (by omega)]
      by_cases hjp : p = j
      · subst hjp
        rw [if_pos rfl, if_pos rfl, gt_setG (by omega) (by omega), if_pos rfl]
      · rw [if_neg hjp, if_neg hjp]
        exact i4 j (by omega)
    · rw [if_neg (by rw [decide_eq_true_eq]; omega)]
      refine .inr ⟨_, rfl, ?_, i0⟩
      simp only
      apply List.ext_getElem (by omega)
      intro j j1 j2
      have := i4 j (by omega)
      rwa [gt_nat j1, gt_nat j2] at this) (l, List.replicate l.length false, 0) ⟨rfl, by simp, by simp, by simp, fun j hj => by simp only at hj; omega⟩
  obtain ⟨m, m'⟩ := r
  simp only at h2 h3
  subst h2
  rw [h1]
  simp only [Option.bind_some]
  rw [ways_ok w0 w1 w2 m (by omega), kept_ok m (by omega), awake_true]
  rfl

end Go.Proofs.Ytilodendgbjelaa
