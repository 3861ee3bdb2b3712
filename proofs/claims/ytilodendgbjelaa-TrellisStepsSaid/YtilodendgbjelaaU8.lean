/- TrellisSteps: the plain law. -/
import Derived.Test.YtilodendgbjelaaG8
import Derived.Test.YtilodendgbjelaaGlW
set_option linter.unusedVariables false
set_option linter.unusedSimpArgs false
set_option maxRecDepth 8000
namespace Go.Proofs.Ytilodendgbjelaa
open GL

/-! ### Codes -/
structure CodeOK (n a b : Nat) : Prop where
  n2 : 2 ≤ n
  n7 : n ≤ 7
  a1 : 1 ≤ a
  b1 : 1 ≤ b
  an : a < 2 ^ n
  bn : b < 2 ^ n
  top : 2 ^ (n - 1) ≤ max a b
theorem CodeOK.pq {n a b : Nat} (h : CodeOK n a b) : ∃ q, 2 ^ (n - 1) = 2 * q ∧ 2 ^ n = 4 * q ∧ 1 ≤ q ∧ q ≤ 32 ∧ q = 2 ^ (n - 2) := by
  have h1 := h.n2
  have h2 := h.n7
  have : n = 2 ∨ n = 3 ∨ n = 4 ∨ n = 5 ∨ n = 6 ∨ n = 7 := by omega
  rcases this with rfl | rfl | rfl | rfl | rfl | rfl <;> exact ⟨_, rfl, rfl, by decide, by decide, rfl⟩
theorem len_tab0 : ∀ n : Nat, n < 8 → ∀ m : Nat, m < 128 → (decide (1 ≤ n ∧ 2 ^ (n - 1) ≤ m ∧ m < 2 ^ n) → (f_math_bits_Len32 (m : Int) == some (n : Int)) = true) := by decide +kernel
theorem len_tab (n : Nat) (hn : n < 8) (m : Nat) (hm : m < 128) (h1 : 1 ≤ n) (h2 : 2 ^ (n - 1) ≤ m) (h3 : m < 2 ^ n) : f_math_bits_Len32 (m : Int) = some (n : Int) :=
  eq_of_beq (len_tab0 n hn m hm (by simp [h1, h2, h3]))
theorem check_ok {n a b : Nat} (h : CodeOK n a b) : f_trellis_Code_Check (n : Int) (a : Int) (b : Int) = some 0 := by
  obtain ⟨q, p1, p2, q1, q2, _⟩ := h.pq
  have h1 := h.n2; have h2 := h.n7; have h3 := h.a1; have h4 := h.b1; have h5 := h.an; have h6 := h.bn; have h7 := h.top
  unfold f_trellis_Code_Check
  rw [imin_nat, imax_nat, if_neg (by simp; omega), len_tab n (by omega) (max a b) (by omega) (by omega) h7 (by omega)]
  simp
/-- parity of seven bits -/
def par (x : Nat) : Bool := (List.range 7).foldl (fun c i => c != x.testBit i) false
def al (n s : Nat) (b : Bool) : Nat := s + if b then 2 ^ (n - 1) else 0
def nx (n s : Nat) (b : Bool) : Nat := al n s b / 2
def ob (n a s : Nat) (b : Bool) : Bool := par (al n s b &&& a)
theorem al_lt {n a b : Nat} (h : CodeOK n a b) {s : Nat} (hs : s < 2 ^ (n - 1)) (c : Bool) : al n s c < 2 ^ n := by
  obtain ⟨q, p1, p2, q1, q2, _⟩ := h.pq
  unfold al; rw [p2]; split <;> omega
theorem nx_lt {n a b : Nat} (h : CodeOK n a b) {s : Nat} (hs : s < 2 ^ (n - 1)) (c : Bool) : nx n s c < 2 ^ (n - 1) := by
  have := al_lt h hs c
  obtain ⟨q, p1, p2, q1, q2, _⟩ := h.pq
  unfold nx; rw [p1]; rw [p2] at this; omega
def bitAt (l : List Bool) (i : Nat) : Bool := if i < l.length then gt l (i : Int) else false
def st (n : Nat) (l : List Bool) : Nat → Nat
  | 0 => 0
  | i + 1 => nx n (st n l i) (bitAt l i)
theorem st_lt {n a b : Nat} (h : CodeOK n a b) (l : List Bool) : ∀ i, st n l i < 2 ^ (n - 1)
  | 0 => by obtain ⟨q, p1, _, q1, _⟩ := h.pq; rw [p1]; simp only [st]; omega
  | i + 1 => nx_lt h (st_lt h l i) _
theorem st_down (n : Nat) (l : List Bool) : ∀ k, st n l (l.length + k) * 2 ^ k ≤ st n l l.length
  | 0 => by simp
  | k + 1 => by
    have ih := st_down n l k
    have : st n l (l.length + (k + 1)) = st n l (l.length + k) / 2 := by
      show nx n (st n l (l.length + k)) (bitAt l (l.length + k)) = _
      have : bitAt l (l.length + k) = false := by unfold bitAt; rw [if_neg (by omega)]
      rw [this]; simp [nx, al]
    rw [this, Nat.pow_succ, Nat.mul_comm (2 ^ k) 2, ← Nat.mul_assoc]
    exact Nat.le_trans (Nat.mul_le_mul_right _ (Nat.div_mul_le_self _ 2)) ih
theorem st_end {n a b : Nat} (h : CodeOK n a b) (l : List Bool) : st n l (l.length + (n - 1)) = 0 := by
  have h1 := st_down n l (n - 1)
  have h2 := st_lt h l l.length
  rcases Nat.eq_zero_or_pos (st n l (l.length + (n - 1))) with h0 | h0
  · exact h0
  · have := Nat.mul_le_mul_right (2 ^ (n - 1)) h0
    simp only [Nat.one_mul, Nat.succ_eq_add_one, Nat.zero_add] at this
    omega
theorem bit_read {l : List Bool} (i : Nat) : (if (decide ((i : Int) < (l.length : Int))) = true then (if 0 ≤ (i : Int) ∧ (i : Int) < (l.length : Int) then (some (gt l (i : Int))) else none) else (some false)) = some (bitAt l i) := by
  unfold bitAt
  by_cases h : i < l.length
  · rw [if_pos (by simpa using h), if_pos (by omega), if_pos h]
  · rw [if_neg (by simpa using h), if_neg h]
theorem bitAt_big {l : List Bool} {i : Nat} (h : l.length ≤ i) : bitAt l i = false := by unfold bitAt; rw [if_neg (by omega)]
theorem bitAt_lt {l : List Bool} {i : Nat} (h : i < l.length) : bitAt l i = gt l (i : Int) := by unfold bitAt; rw [if_pos h]
/-! ### The program's steps -/
theorem oc_tab : ∀ x, x < 128 → (f_trellis_Code_step_1 ((x : Nat) : Int) == some (par x)) = true := by decide +kernel
theorem oc_some {x : Nat} (h : x < 128) : f_trellis_Code_step_1 (x : Int) = some (par x) := eq_of_beq (oc_tab x h)
theorem step_ok {n a b : Nat} (h : CodeOK n a b) {s : Nat} (hs : s < 2 ^ (n - 1)) (c : Bool) :
    f_trellis_Code_step (n : Int) (a : Int) (b : Int) (s : Int) c = some (((nx n s c : Nat) : Int), ob n a s c, ob n b s c) := by
  have hal := al_lt h hs c
  obtain ⟨q, p1, p2, q1, q2, _⟩ := h.pq
  have h1 := h.n2; have h2 := h.n7; have h3 := h.a1; have h4 := h.b1; have h5 := h.an; have h6 := h.bn
  have j : f_trellis_Code_step.j1 (a : Int) (b : Int) ((al n s c : Nat) : Int) = some (((nx n s c : Nat) : Int), ob n a s c, ob n b s c) := by
    have e1 : al n s c &&& a ≤ al n s c := Nat.and_le_left
    have e2 : al n s c &&& b ≤ al n s c := Nat.and_le_left
    have hx : al n s c / 2 = nx n s c := rfl
    unfold f_trellis_Code_step.j1
    rw [iand32 (by omega) (by omega), iand32 (by omega) (by omega), oc_some (by omega), oc_some (by omega)]
    simp only [Option.bind_some]
    rw [show ((1 : Int)) = ((1 : Nat) : Int) from rfl, ishr_nat (by decide), show al n s c / 2 ^ 1 = nx n s c from hx, w64 (by omega) (by omega)]
    rfl
  unfold f_trellis_Code_step
  cases c with
  | false =>
    rw [if_neg (by simp), w32 (by omega) (by omega)]
    exact j
  | true =>
    have e1 : al n s true = s ||| 2 ^ (n - 1) := by
      have := Nat.two_pow_add_eq_or_of_lt hs 1
      simp only [al, if_true]
      rw [Nat.or_comm, Nat.add_comm]; simpa using this
    rw [if_pos rfl, w64 (by omega) (by omega), if_pos (by omega), w32 (by omega) (by omega), show (n : Int) - 1 = ((n - 1 : Nat) : Int) by omega, show ((1 : Int)) = ((1 : Nat) : Int) from rfl, ishl32 (by omega) (by omega), Nat.one_mul, ior32 (by omega) (by omega), ← e1]
    exact j
def enc (n a b : Nat) (l : List Bool) : Nat → List Bool
  | 0 => []
  | i + 1 => enc n a b l i ++ [ob n a (st n l i) (bitAt l i), ob n b (st n l i) (bitAt l i)]
theorem enc_len (n a b : Nat) (l : List Bool) : ∀ i, (enc n a b l i).length = 2 * i
  | 0 => rfl
  | i + 1 => by simp only [enc, List.length_append, enc_len n a b l i, List.length_cons, List.length_nil]; omega
theorem enc_get (n a b : Nat) (l : List Bool) : ∀ i j, j < i → gt (enc n a b l i) ((2 * j : Nat) : Int) = ob n a (st n l j) (bitAt l j) ∧ gt (enc n a b l i) ((2 * j + 1 : Nat) : Int) = ob n b (st n l j) (bitAt l j)
  | 0, j, h => by omega
  | i + 1, j, h => by
    have hl := enc_len n a b l i
    simp only [enc]
    by_cases hj : j < i
    · obtain ⟨h1, h2⟩ := enc_get n a b l i j hj
      constructor
      · rw [← h1, gt_nat (by simp only [List.length_append, hl, List.length_cons, List.length_nil]; omega), gt_nat (by omega), List.getElem_append_left (by omega)]
      · rw [← h2, gt_nat (by simp only [List.length_append, hl, List.length_cons, List.length_nil]; omega), gt_nat (by omega), List.getElem_append_left (by omega)]
    · obtain rfl : j = i := by omega
      rw [gt_nat (by simp only [List.length_append, hl, List.length_cons, List.length_nil]; omega), gt_nat (by simp only [List.length_append, hl, List.length_cons, List.length_nil]; omega), List.getElem_append_right (by omega), List.getElem_append_right (by omega)]
      simp only [hl, Nat.sub_self, show 2 * j + 1 - 2 * j = 1 by omega]
      exact ⟨rfl, rfl⟩
theorem through_enc {n a b : Nat} (h : CodeOK n a b) (l : List Bool) (hl : l.length + n - 1 ≤ 16384) :
    f_trellis_Code_through (n : Int) (a : Int) (b : Int) l (n : Int) (a : Int) (b : Int) [] = some (0, enc n a b l (l.length + n - 1)) := by
  have h1 := h.n2; have h2 := h.n7
  have key : ∀ k i : Nat, i + k = l.length + n - 1 → loop (f_trellis_Code_through.s1 (n : Int) l (n : Int) (a : Int) (b : Int)) (enc n a b l i, ((st n l i : Nat) : Int), (i : Int)) = some (enc n a b l (l.length + n - 1)) := by
    intro k
    induction k with
    | zero =>
      intro i hi
      obtain rfl : i = l.length + n - 1 := by omega
      apply loop_done
      simp only [f_trellis_Code_through.s1, f_trellis_Code_through.s1c]
      rw [w64 (x := (l.length : Int) + (n : Int)) (by omega) (by omega), w64 (by omega) (by omega), if_neg (by simp; omega)]
    | succ k ih =>
      intro i hi
      rw [← ih (i + 1) (by omega)]
      apply loop_step
      simp only [f_trellis_Code_through.s1, f_trellis_Code_through.s1c]
      rw [w64 (x := (l.length : Int) + (n : Int)) (by omega) (by omega), w64 (x := (l.length : Int) + (n : Int) - 1) (by omega) (by omega), if_pos (by simp; omega), bit_read]
      simp only [Option.bind_some]
      rw [step_ok h (st_lt h l i)]
      simp only [Option.bind_some, f_trellis_Code_Encode_1]
      rw [if_pos (by rw [enc_len]; simp; omega), w64 (by omega) (by omega)]
      rfl
  unfold f_trellis_Code_through
  rw [check_ok h]
  simp only [Option.bind_some]
  rw [if_neg (by simp), w64 (x := (l.length : Int) + (n : Int)) (by omega) (by omega), w64 (x := (l.length : Int) + (n : Int) - 1) (by omega) (by omega), if_neg (by simp; omega)]
  have := key (l.length + n - 1) 0 (by omega)
  rw [show enc n a b l 0 = [] from rfl, show ((st n l 0 : Nat) : Int) = 0 from rfl, show ((0 : Nat) : Int) = 0 from rfl] at this
  rw [this]
  rfl
theorem encode_ok {n a b : Nat} (h : CodeOK n a b) (l : List Bool) (hl : l.length + n - 1 ≤ 16384) :
    f_trellis_Code_Encode (n : Int) (a : Int) (b : Int) l = some (enc n a b l (l.length + n - 1), 0) := by
  unfold f_trellis_Code_Encode
  rw [through_enc h l hl]
  rfl
/-! ### Sums over places -/
def fs (f : Nat → Nat) : Nat → Nat
  | 0 => 0
  | m + 1 => fs f m + f m
theorem fs_add (f : Nat → Nat) (i : Nat) : ∀ k, fs f (i + k) = fs f i + fs (fun t => f (i + t)) k
  | 0 => by simp [fs]
  | k + 1 => by rw [← Nat.add_assoc]; simp only [fs]; rw [fs_add f i k]; omega
theorem fs_congr {f g : Nat → Nat} : ∀ {m}, (∀ i, i < m → f i = g i) → fs f m = fs g m
  | 0, _ => rfl
  | m + 1, h => by simp only [fs]; rw [fs_congr fun i hi => h i (by omega), h m (by omega)]
theorem fs_le {f g : Nat → Nat} : ∀ {m}, (∀ i, i < m → f i ≤ g i) → fs f m ≤ fs g m
  | 0, _ => Nat.le_refl _
  | m + 1, h => by have := fs_le (f := f) (g := g) (m := m) fun i hi => h i (by omega); have := h m (by omega); simp only [fs]; omega
theorem fs_plus (f g : Nat → Nat) : ∀ m, fs (fun i => f i + g i) m = fs f m + fs g m
  | 0 => rfl
  | m + 1 => by simp only [fs]; rw [fs_plus f g m]; omega
theorem fs_zero : ∀ m, fs (fun _ => 0) m = 0
  | 0 => rfl
  | m + 1 => by simp only [fs]; rw [fs_zero m]
theorem fs_upd {f g : Nat → Nat} {p : Nat} : ∀ {m}, p < m → (∀ i, i < m → i ≠ p → g i = f i) → fs g m + f p = fs f m + g p
  | 0, h, _ => by omega
  | m + 1, h, hg => by
    simp only [fs]
    by_cases hp : p = m
    · subst hp
      rw [fs_congr (m := p) fun i hi => hg i (by omega) (by omega)]; omega
    · have := fs_upd (m := m) (by omega) fun i hi hn => hg i (by omega) hn
      have := hg m (by omega) (by omega)
      omega
theorem fs_mono (f : Nat → Nat) {i j : Nat} (h : i ≤ j) : fs f i ≤ fs f j := by
  obtain ⟨k, rfl⟩ := Nat.exists_eq_add_of_le h
  rw [fs_add]; omega
theorem fs_two (f : Nat → Nat) : ∀ t, fs f (2 * t) = fs (fun i => f (2 * i) + f (2 * i + 1)) t
  | 0 => rfl
  | t + 1 => by rw [show 2 * (t + 1) = 2 * t + 1 + 1 by omega]; simp only [fs]; rw [fs_two f t]; omega

/-! ### A code is linear -/
theorem par_xor (x y : Nat) : par (x ^^^ y) = (par x ^^ par y) := by
  have key : ∀ (l : List Nat) (p q : Bool), l.foldl (fun c i => c != (x ^^^ y).testBit i) (p ^^ q) = (l.foldl (fun c i => c != x.testBit i) p ^^ l.foldl (fun c i => c != y.testBit i) q) := by
    intro l
    induction l with
    | nil => intro p q; rfl
    | cons i l ih =>
      intro p q
      simp only [List.foldl_cons]
      rw [← ih]
      congr 1
      rw [Nat.testBit_xor]
      cases p <;> cases q <;> cases x.testBit i <;> cases y.testBit i <;> rfl
  exact key _ false false
theorem and_xor (x y a : Nat) : (x ^^^ y) &&& a = (x &&& a) ^^^ (y &&& a) := by
  apply Nat.eq_of_testBit_eq
  intro i
  simp only [Nat.testBit_and, Nat.testBit_xor]
  cases x.testBit i <;> cases y.testBit i <;> cases a.testBit i <;> rfl
theorem xor_half (x y : Nat) : (x ^^^ y) / 2 = (x / 2) ^^^ (y / 2) := by
  have := Nat.shiftRight_xor_distrib (a := x) (b := y) (i := 1)
  simpa [Nat.shiftRight_eq_div_pow] using this
theorem al_xor {n s : Nat} (hs : s < 2 ^ (n - 1)) (c : Bool) : al n s c = s ^^^ (if c then 2 ^ (n - 1) else 0) := by
  cases c with
  | false => simp [al]
  | true =>
    have h1 := Nat.two_pow_add_eq_or_of_lt hs 1
    simp only [Nat.mul_one] at h1
    simp only [al, if_true]
    rw [Nat.add_comm, h1]
    apply Nat.eq_of_testBit_eq
    intro i
    simp only [Nat.testBit_or, Nat.testBit_xor, Nat.testBit_two_pow]
    by_cases hi : n - 1 = i
    · subst hi
      rw [Nat.testBit_lt_two_pow hs]; simp
    · simp [hi]
theorem al_lin {n s s' : Nat} (hs : s < 2 ^ (n - 1)) (hs' : s' < 2 ^ (n - 1)) (c c' : Bool) : al n (s ^^^ s') (c ^^ c') = al n s c ^^^ al n s' c' := by
  rw [al_xor hs, al_xor hs', al_xor (Nat.xor_lt_two_pow hs hs')]
  have e : (if (c ^^ c') = true then 2 ^ (n - 1) else 0) = (if c = true then 2 ^ (n - 1) else 0) ^^^ (if c' = true then 2 ^ (n - 1) else 0) := by
    cases c <;> cases c' <;> simp
  rw [e]
  generalize (if c = true then 2 ^ (n - 1) else 0) = u
  generalize (if c' = true then 2 ^ (n - 1) else 0) = v
  ac_rfl
theorem nx_lin {n s s' : Nat} (hs : s < 2 ^ (n - 1)) (hs' : s' < 2 ^ (n - 1)) (c c' : Bool) : nx n (s ^^^ s') (c ^^ c') = nx n s c ^^^ nx n s' c' := by
  unfold nx; rw [al_lin hs hs', xor_half]
theorem ob_lin {n a s s' : Nat} (hs : s < 2 ^ (n - 1)) (hs' : s' < 2 ^ (n - 1)) (c c' : Bool) : ob n a (s ^^^ s') (c ^^ c') = (ob n a s c ^^ ob n a s' c') := by
  unfold ob; rw [al_lin hs hs', and_xor, par_xor]
/-- where two messages are unlike -/
def dif (l m : List Bool) : List Bool := List.zipWith (· ^^ ·) l m
theorem dif_len {l m : List Bool} (h : l.length = m.length) : (dif l m).length = l.length := by unfold dif; rw [List.length_zipWith]; omega
theorem dif_bit {l m : List Bool} (h : l.length = m.length) (i : Nat) : bitAt (dif l m) i = (bitAt l i ^^ bitAt m i) := by
  have hl := dif_len h
  unfold bitAt
  by_cases hi : i < l.length
  · rw [if_pos (by omega), if_pos hi, if_pos (by omega), gt_nat (by omega), gt_nat hi, gt_nat (by omega)]
    simp [dif]
  · rw [if_neg (by omega), if_neg hi, if_neg (by omega)]; rfl
theorem st_lin {n a b : Nat} (hc : CodeOK n a b) {l m : List Bool} (h : l.length = m.length) : ∀ i, st n (dif l m) i = st n l i ^^^ st n m i
  | 0 => by simp [st]
  | i + 1 => by
    simp only [st]
    rw [st_lin hc h i, dif_bit h, nx_lin (st_lt hc l i) (st_lt hc m i)]
/-- how many of two are true; what a step weighs -/
def bn (x : Bool) : Nat := if x then 1 else 0
def wt (n a b s : Nat) (c : Bool) : Nat := bn (ob n a s c) + bn (ob n b s c)
theorem wt_le (n a b s : Nat) (c : Bool) : wt n a b s c ≤ 2 := by
  unfold wt bn; split <;> split <;> omega
/-- in how many places what two messages are coded is unlike, after so many steps -/
def dst (n a b : Nat) (l m : List Bool) (T : Nat) : Nat := fs (fun t => bn (ob n a (st n l t) (bitAt l t) ^^ ob n a (st n m t) (bitAt m t)) + bn (ob n b (st n l t) (bitAt l t) ^^ ob n b (st n m t) (bitAt m t))) T
theorem dst_wt {n a b : Nat} (hc : CodeOK n a b) {l m : List Bool} (h : l.length = m.length) (T : Nat) : dst n a b l m T = fs (fun t => wt n a b (st n (dif l m) t) (bitAt (dif l m) t)) T := by
  unfold dst
  apply fs_congr
  intro t _
  unfold wt
  rw [st_lin hc h, dif_bit h, ob_lin (st_lt hc l t) (st_lt hc m t), ob_lin (st_lt hc l t) (st_lt hc m t)]
/-! ### Ways out of nought and back -/
/-- a way from the state behind the first true bit, over states that are not nought -/
structure Way (n : Nat) (q : Nat → Nat) (c : Nat → Bool) (m : Nat) : Prop where
  start : q 0 = nx n 0 true
  step : ∀ i, i < m → q (i + 1) = nx n (q i) (c i)
  pos : ∀ i, i < m → q i ≠ 0
def wy (n a b : Nat) (q : Nat → Nat) (c : Nat → Bool) (m : Nat) : Nat := wt n a b 0 true + fs (fun i => wt n a b (q i) (c i)) m
theorem Way.less {n : Nat} {q : Nat → Nat} {c : Nat → Bool} {m k : Nat} (h : Way n q c m) (hk : k ≤ m) : Way n q c k :=
  ⟨h.start, fun i hi => h.step i (by omega), fun i hi => h.pos i (by omega)⟩
theorem Way.lt {n a b : Nat} (hc : CodeOK n a b) {q : Nat → Nat} {c : Nat → Bool} {m : Nat} (h : Way n q c m) : ∀ i, i ≤ m → q i < 2 ^ (n - 1)
  | 0, _ => by rw [h.start]; exact nx_lt hc (by obtain ⟨q, p1, _, q1, _⟩ := hc.pq; omega) _
  | i + 1, hi => by rw [h.step i (by omega)]; exact nx_lt hc (Way.lt hc h i (by omega)) _
theorem pigeon : ∀ (m : Nat) (f : Nat → Nat), (∀ i, i ≤ m → f i < m) → ∃ i j, i < j ∧ j ≤ m ∧ f i = f j
  | 0, f, h => absurd (h 0 (Nat.le_refl _)) (by omega)
  | m + 1, f, h => by
    by_cases hd : ∃ i, i ≤ m ∧ f i = f (m + 1)
    · obtain ⟨i, hi, he⟩ := hd
      exact ⟨i, m + 1, by omega, Nat.le_refl _, he⟩
    · have hd' : ∀ i, i ≤ m → f i ≠ f (m + 1) := fun i hi he => hd ⟨i, hi, he⟩
      obtain ⟨i, j, h1, h2, h3⟩ := pigeon m (fun i => if f i = m then f (m + 1) else f i) (fun i hi => by
        have h1 := h i (by omega); have h2 := hd' i hi; have h3 := h (m + 1) (by omega)
        try simp only
        split <;> omega)
      refine ⟨i, j, h1, by omega, ?_⟩
      have e1 := hd' i (by omega); have e2 := hd' j h2
      try dsimp only at h3
      split at h3 <;> split at h3 <;> omega
/-- a way that is longer than there are states has a shorter one that weighs no more -/
theorem way_short {n a b : Nat} (hc : CodeOK n a b) : ∀ (m : Nat) (q : Nat → Nat) (c : Nat → Bool), Way n q c m → ∃ m' q' c', m' ≤ 2 ^ (n - 1) ∧ Way n q' c' m' ∧ q' m' = q m ∧ wy n a b q' c' m' ≤ wy n a b q c m := by
  intro m
  induction m using Nat.strongRecOn with
  | _ m ih =>
    intro q c h
    by_cases hm : m ≤ 2 ^ (n - 1)
    · exact ⟨m, q, c, hm, h, rfl, Nat.le_refl _⟩
    · obtain ⟨i, j, h1, h2, h3⟩ := pigeon (2 ^ (n - 1)) q (fun i hi => h.lt hc i (by omega))
      obtain ⟨d, hd⟩ := Nat.exists_eq_add_of_lt h1
      have hj : j = i + (d + 1) := by omega
      have key : Way n (fun t => if t ≤ i then q t else q (t + (d + 1))) (fun t => if t < i then c t else c (t + (d + 1))) (m - (d + 1)) := by
        refine ⟨by simp only [Nat.zero_le, if_true]; exact h.start, fun t ht => ?_, fun t ht => ?_⟩
        · try simp only
          by_cases ht1 : t < i
          · rw [if_pos (by omega), if_pos (by omega), if_pos ht1]; exact h.step t (by omega)
          · rw [if_neg (by omega), if_neg ht1]
            by_cases ht2 : t = i
            · subst ht2
              rw [if_pos (Nat.le_refl _), h3, hj, show t + 1 + (d + 1) = t + (d + 1) + 1 by omega]
              exact h.step _ (by omega)
            · rw [if_neg (by omega), show t + 1 + (d + 1) = t + (d + 1) + 1 by omega]
              exact h.step _ (by omega)
        · try simp only
          split
          · exact h.pos t (by omega)
          · exact h.pos _ (by omega)
      obtain ⟨m', q', c', k1, k2, k3, k4⟩ := ih (m - (d + 1)) (by omega) _ _ key
      refine ⟨m', q', c', k1, k2, k3.trans ?_, Nat.le_trans k4 ?_⟩
      · try simp only
        by_cases he : m - (d + 1) ≤ i
        · have : m - (d + 1) = i := by omega
          rw [if_pos he, this, h3, show j = m by omega]
        · rw [if_neg he, show m - (d + 1) + (d + 1) = m by omega]
      · unfold wy
        have e1 : m = j + (m - j) := by omega
        have e2 : m - (d + 1) = i + (m - j) := by omega
        have f1 := fs_add (fun t => wt n a b (q t) (c t)) j (m - j)
        rw [← e1] at f1
        rw [e2, fs_add, f1]
        have g1 : fs (fun t => wt n a b (if t ≤ i then q t else q (t + (d + 1))) (if t < i then c t else c (t + (d + 1)))) i = fs (fun t => wt n a b (q t) (c t)) i :=
          fs_congr fun t ht => by rw [if_pos (by omega), if_pos ht]
        have g2 : fs (fun t => wt n a b (if i + t ≤ i then q (i + t) else q (i + t + (d + 1))) (if i + t < i then c (i + t) else c (i + t + (d + 1)))) (m - j) = fs (fun t => wt n a b (q (j + t)) (c (j + t))) (m - j) :=
          fs_congr fun t ht => by
            rw [if_neg (show ¬ i + t < i by omega), show i + t + (d + 1) = j + t by omega]
            split
            · rw [show t = 0 by omega, Nat.add_zero, Nat.add_zero, h3]
            · rfl
        have g3 := fs_mono (fun t => wt n a b (q t) (c t)) (show i ≤ j by omega)
        simp only at g1 g2 g3 ⊢
        rw [g1, g2]
        omega

/-! ### The least weights, round by round -/
/-- a number that is the weight of a way to a state -/
def Att (n a b : Nat) (x s : Nat) : Prop := ∃ m q c, Way n q c m ∧ q m = s ∧ wy n a b q c m = x
theorem Att.on {n a b x s : Nat} (h : Att n a b x s) (hs : s ≠ 0) (d : Bool) : Att n a b (x + wt n a b s d) (nx n s d) := by
  obtain ⟨m, q, c, hw, he, hx⟩ := h
  refine ⟨m + 1, fun t => if t ≤ m then q t else nx n s d, fun t => if t < m then c t else d, ⟨by simp only [Nat.zero_le, if_true]; exact hw.start, fun t ht => ?_, fun t ht => ?_⟩, ?_, ?_⟩
  · try simp only
    by_cases h1 : t < m
    · rw [if_pos (by omega), if_pos (by omega), if_pos h1]; exact hw.step t h1
    · obtain rfl : t = m := by omega
      rw [if_neg (by omega), if_pos (Nat.le_refl _), if_neg (by omega), he]
  · try simp only
    rw [if_pos (by omega)]
    by_cases h1 : t < m
    · exact hw.pos t h1
    · obtain rfl : t = m := by omega
      rw [he]; exact hs
  · try simp only
    rw [if_neg (by omega)]
  · unfold wy at hx ⊢
    simp only [fs]
    rw [if_pos (Nat.le_refl _), if_neg (Nat.lt_irrefl _), he, ← hx]
    have : fs (fun i => wt n a b (if i ≤ m then q i else nx n s d) (if i < m then c i else d)) m = fs (fun i => wt n a b (q i) (c i)) m :=
      fs_congr fun t ht => by rw [if_pos (by omega), if_pos ht]
    rw [this]; omega
structure Lst (n a b F : Nat) (L : List Int) : Prop where
  len : 2 ^ (n - 1) ≤ L.length
  bd : ∀ s : Nat, s < 2 ^ (n - 1) → 0 ≤ gt L (s : Int) ∧ gt L (s : Int) ≤ F
  att : ∀ s : Nat, s < 2 ^ (n - 1) → gt L (s : Int) < F → Att n a b (gt L (s : Int)).toNat s
def LeL (n : Nat) (L L' : List Int) : Prop := L'.length = L.length ∧ ∀ s : Nat, s < 2 ^ (n - 1) → gt L' (s : Int) ≤ gt L (s : Int)
theorem LeL.trans {n : Nat} {L L' L'' : List Int} (h : LeL n L L') (k : LeL n L' L'') : LeL n L L'' := ⟨k.1.trans h.1, fun s hs => Int.le_trans (k.2 s hs) (h.2 s hs)⟩
theorem LeL.refl (n : Nat) (L : List Int) : LeL n L L := ⟨rfl, fun _ _ => Int.le_refl _⟩
theorem gt_set_nat {L : List Int} {i j : Nat} (hi : i < L.length) (hj : j < L.length) (v : Int) : gt (L.set i v) (j : Int) = if i = j then v else gt L (j : Int) := by
  rw [gt_nat (by rw [List.length_set]; exact hj), gt_nat hj, List.getElem_set]
/-- one number is made less -/
theorem Lst.relax {n a b F : Nat} (hc : CodeOK n a b) (hF : F ≤ 1048576) {L : List Int} (h : Lst n a b F L) {s : Nat} (hs : s < 2 ^ (n - 1)) (h0 : s ≠ 0) (d : Bool) {v : Int}
    (hv : v = if gt L (s : Int) + (wt n a b s d : Nat) < gt L ((nx n s d : Nat) : Int) then gt L (s : Int) + (wt n a b s d : Nat) else gt L ((nx n s d : Nat) : Int)) :
    Lst n a b F (L.set (nx n s d) v) ∧ LeL n L (L.set (nx n s d) v) ∧ gt (L.set (nx n s d) v) ((nx n s d : Nat) : Int) ≤ gt L (s : Int) + (wt n a b s d : Nat) := by
  have hn := nx_lt hc hs d
  have hl := h.len
  have b1 := h.bd s hs
  have b2 := h.bd _ hn
  have hle : v ≤ gt L ((nx n s d : Nat) : Int) := by rw [hv]; split <;> omega
  have hle2 : v ≤ gt L (s : Int) + (wt n a b s d : Nat) := by rw [hv]; split <;> omega
  have hv0 : 0 ≤ v := by rw [hv]; split <;> omega
  refine ⟨⟨by rw [List.length_set]; exact hl, fun t ht => ?_, fun t ht => ?_⟩, ⟨List.length_set, fun t ht => ?_⟩, ?_⟩
  · rw [gt_set_nat (by omega) (by omega)]
    split
    · omega
    · exact h.bd t ht
  · rw [gt_set_nat (by omega) (by omega)]
    split
    · rename_i e; subst e
      intro hlt
      rw [hv] at hlt ⊢
      split
      · rename_i hlt2
        have hsF : gt L (s : Int) < F := by omega
        have := (h.att s hs hsF).on h0 d
        have e : (gt L (s : Int)).toNat + wt n a b s d = (gt L (s : Int) + (wt n a b s d : Nat)).toNat := by omega
        rw [← e]; exact this
      · rename_i hlt2
        rw [if_neg hlt2] at hlt
        exact h.att _ hn hlt
    · exact h.att t ht
  · rw [gt_set_nat (by omega) (by omega)]
    split
    · rename_i e; subst e; exact hle
    · exact Int.le_refl _
  · rw [gt_set_nat (by omega) (by omega), if_pos rfl]; exact hle2
/-- all edges out of a state, of all states -/
def Edge (n a b : Nat) (L L' : List Int) (s : Nat) : Prop := ∀ d, gt L' ((nx n s d : Nat) : Int) ≤ gt L (s : Int) + (wt n a b s d : Nat)
theorem Edge.mono {n a b : Nat} (hc : CodeOK n a b) {L0 L L' L'' : List Int} {s : Nat} (hs : s < 2 ^ (n - 1)) (h : Edge n a b L L' s) (h0 : LeL n L0 L) (h1 : LeL n L' L'') : Edge n a b L0 L'' s := fun d => by
  have := h d; have := h0.2 s hs; have := h1.2 _ (nx_lt hc hs d); omega
/-- all ways of so many steps are counted -/
def Cnt (n a b r : Nat) (L : List Int) : Prop := ∀ m q c, m ≤ r → Way n q c m → gt L ((q m : Nat) : Int) ≤ (wy n a b q c m : Nat)
theorem Cnt.next {n a b r : Nat} (hc : CodeOK n a b) {L L' : List Int} (h : Cnt n a b r L) (hl : LeL n L L') (he : ∀ s : Nat, s < 2 ^ (n - 1) → s ≠ 0 → Edge n a b L L' s) : Cnt n a b (r + 1) L' := by
  intro m q c hm hw
  cases m with
  | zero => exact Int.le_trans (hl.2 _ (hw.lt hc 0 (Nat.le_refl _))) (h 0 q c (by omega) hw)
  | succ m =>
    have h1 := h m q c (by omega) (hw.less (by omega))
    have h2 := he (q m) (hw.lt hc m (by omega)) (hw.pos m (by omega)) (c m)
    rw [← hw.step m (by omega)] at h2
    unfold wy at h1 ⊢
    simp only [fs]
    omega
theorem Cnt.mono {n a b r : Nat} (hc : CodeOK n a b) {L L' : List Int} (h : Cnt n a b r L) (hl : LeL n L L') : Cnt n a b r L' := fun m q c hm hw => Int.le_trans (hl.2 _ (hw.lt hc m (Nat.le_refl _))) (h m q c hm hw)
/-- the least: it is a way's weight, and no way weighs less -/
structure Least (n a b : Nat) (x : Nat) : Prop where
  att : Att n a b x 0
  le : ∀ m q c, Way n q c m → q m = 0 → x ≤ wy n a b q c m
theorem Least.uniq {n a b x y : Nat} (h : Least n a b x) (k : Least n a b y) : x = y := by
  obtain ⟨m, q, c, w1, w2, w3⟩ := h.att
  obtain ⟨m', q', c', v1, v2, v3⟩ := k.att
  have := h.le m' q' c' v1 v2
  have := k.le m q c w1 w2
  omega
/-- by false bits all ways end -/
theorem att_zero {n a b : Nat} (hc : CodeOK n a b) : ∃ x, Att n a b x 0 ∧ x ≤ 16 := by
  have h1 := hc.n2; have h7 := hc.n7
  obtain ⟨p, p1, p2, p3, p4, p5⟩ := hc.pq
  have e0 : nx n 0 true = 2 ^ (n - 2) := by
    unfold nx al; simp only [if_true]; rw [p1, ← p5]; omega
  have key : ∀ k, k ≤ n - 2 → ∃ x, Att n a b x (2 ^ (n - 2 - k)) ∧ x ≤ 2 + 2 * k := by
    intro k
    induction k with
    | zero => intro _; exact ⟨wt n a b 0 true, ⟨0, fun _ => nx n 0 true, fun _ => false, ⟨rfl, fun i hi => by omega, fun i hi => by omega⟩, e0, by simp [wy, fs]⟩, wt_le ..⟩
    | succ k ih =>
      intro hk
      obtain ⟨x, hx, hb⟩ := ih (by omega)
      have hp : 2 ^ (n - 2 - k) = 2 * 2 ^ (n - 2 - (k + 1)) := by rw [show n - 2 - k = n - 2 - (k + 1) + 1 by omega, Nat.pow_succ, Nat.mul_comm]
      have := hx.on (by have := Nat.two_pow_pos (n - 2 - k); omega) false
      have e : nx n (2 ^ (n - 2 - k)) false = 2 ^ (n - 2 - (k + 1)) := by unfold nx al; simp only [Bool.false_eq_true, if_false]; omega
      rw [e] at this
      have := wt_le n a b (2 ^ (n - 2 - k)) false
      exact ⟨_, ‹Att n a b _ _›, by omega⟩
  obtain ⟨x, hx, hb⟩ := key (n - 2) (Nat.le_refl _)
  rw [show n - 2 - (n - 2) = 0 by omega] at hx
  have h3 := hx.on (by decide) false
  have e : nx n (2 ^ 0) false = 0 := by unfold nx al; simp
  rw [e] at h3
  have := wt_le n a b (2 ^ 0) false
  exact ⟨_, h3, by omega⟩
theorem least_of {n a b F : Nat} (hc : CodeOK n a b) (hF : 16 < F) {L : List Int} (h : Lst n a b F L) (hcn : Cnt n a b (2 ^ (n - 1)) L) : Least n a b (gt L 0).toNat := by
  have h0 : 0 < 2 ^ (n - 1) := Nat.two_pow_pos _
  have b0 := h.bd 0 h0
  rw [show ((0 : Nat) : Int) = 0 from rfl] at b0
  have le : ∀ m q c, Way n q c m → q m = 0 → (gt L 0).toNat ≤ wy n a b q c m := fun m q c hw hq => by
    obtain ⟨m', q', c', k1, k2, k3, k4⟩ := way_short hc m q c hw
    have := hcn m' q' c' k1 k2
    rw [k3, hq, show ((0 : Nat) : Int) = 0 from rfl] at this
    omega
  refine ⟨?_, le⟩
  obtain ⟨x, ⟨m, q, c, w1, w2, w3⟩, hx⟩ := att_zero hc
  have := le m q c w1 w2
  have := h.att 0 h0
  rw [show ((0 : Nat) : Int) = 0 from rfl] at this
  exact this (by omega)
/-- what is coded unlike weighs as much at least -/
theorem far_apart {n a b x : Nat} (hc : CodeOK n a b) (h : Least n a b x) {l : List Bool} {t0 T : Nat} (ht : bitAt l t0 = true) (hT : l.length + (n - 1) ≤ T) : x ≤ fs (fun t => wt n a b (st n l t) (bitAt l t)) T := by
  -- the first true bit
  have hlt : t0 < l.length := by
    apply Classical.byContradiction
    intro hn
    unfold bitAt at ht
    rw [if_neg hn] at ht; cases ht
  have h2 := hc.n2
  have first : ∀ k, (∃ t, t ≤ k ∧ bitAt l t = true) → ∃ t, t ≤ k ∧ bitAt l t = true ∧ ∀ i, i < t → bitAt l i = false := by
    intro k
    induction k with
    | zero => rintro ⟨t, h1, h2⟩; exact ⟨0, Nat.le_refl _, by rwa [show t = 0 by omega] at h2, fun i hi => by omega⟩
    | succ k ih =>
      rintro ⟨t, h1, h2⟩
      by_cases hk : ∃ t, t ≤ k ∧ bitAt l t = true
      · obtain ⟨t, e1, e2, e3⟩ := ih hk; exact ⟨t, by omega, e2, e3⟩
      · refine ⟨t, h1, h2, fun i hi => ?_⟩
        cases hb : bitAt l i with
        | false => rfl
        | true => exact absurd ⟨i, by omega, hb⟩ hk
  obtain ⟨t, ht1, ht2, ht3⟩ := first t0 ⟨t0, Nat.le_refl _, ht⟩
  have hz : ∀ i, i ≤ t → st n l i = 0 := by
    intro i
    induction i with
    | zero => intro _; rfl
    | succ i ih => intro hi; simp only [st]; rw [ih (by omega), ht3 i (by omega)]; simp [nx, al]
  -- where it comes back
  have hend : st n l (l.length + (n - 1)) = 0 := st_end hc l
  have back : ∀ k, st n l (t + 1 + k) = 0 → ∃ m, m ≤ k ∧ st n l (t + 1 + m) = 0 ∧ ∀ i, i < m → st n l (t + 1 + i) ≠ 0 := by
    intro k
    induction k with
    | zero => intro h; exact ⟨0, Nat.le_refl _, h, fun i hi => by omega⟩
    | succ k ih =>
      intro h
      by_cases hk : ∃ m, m ≤ k ∧ st n l (t + 1 + m) = 0
      · have : ∀ j, (∃ m, m ≤ j ∧ st n l (t + 1 + m) = 0) → ∃ m, m ≤ j ∧ st n l (t + 1 + m) = 0 ∧ ∀ i, i < m → st n l (t + 1 + i) ≠ 0 := by
          intro j
          induction j with
          | zero => rintro ⟨m, g1, g2⟩; exact ⟨0, Nat.le_refl _, by rwa [show m = 0 by omega] at g2, fun i hi => by omega⟩
          | succ j ihj =>
            rintro ⟨m, g1, g2⟩
            by_cases hj : ∃ m, m ≤ j ∧ st n l (t + 1 + m) = 0
            · obtain ⟨m, e1, e2, e3⟩ := ihj hj; exact ⟨m, by omega, e2, e3⟩
            · exact ⟨m, g1, g2, fun i hi he => hj ⟨i, by omega, he⟩⟩
        obtain ⟨m, e1, e2, e3⟩ := this k hk
        exact ⟨m, by omega, e2, e3⟩
      · exact ⟨k + 1, Nat.le_refl _, h, fun i hi he => hk ⟨i, by omega, he⟩⟩
  obtain ⟨m, hm1, hm2, hm3⟩ := back (l.length + (n - 1) - (t + 1)) (by rw [show t + 1 + (l.length + (n - 1) - (t + 1)) = l.length + (n - 1) by omega]; exact hend)
  have hw : Way n (fun i => st n l (t + 1 + i)) (fun i => bitAt l (t + 1 + i)) m := by
    refine ⟨?_, fun i hi => rfl, hm3⟩
    show nx n (st n l t) (bitAt l t) = _
    rw [hz t (Nat.le_refl _), ht2]
  have hle := h.le m _ _ hw hm2
  unfold wy at hle
  try dsimp only at hle
  have e1 : fs (fun t => wt n a b (st n l t) (bitAt l t)) (t + 1 + m) ≤ fs (fun t => wt n a b (st n l t) (bitAt l t)) T := fs_mono _ (by omega)
  have e2 := fs_add (fun t => wt n a b (st n l t) (bitAt l t)) (t + 1) m
  try dsimp only at e2
  have e3 : fs (fun t => wt n a b (st n l t) (bitAt l t)) (t + 1) = fs (fun t => wt n a b (st n l t) (bitAt l t)) t + wt n a b 0 true := by
    simp only [fs]; rw [hz t (Nat.le_refl _), ht2]
  omega
theorem top_tab : ∀ n : Nat, n < 8 → ∀ a : Nat, a < 128 → (decide (1 ≤ n ∧ 2 ^ (n - 1) ≤ a ∧ a < 2 ^ n) → par (2 ^ (n - 1) &&& a) = true) := by decide +kernel
theorem wt_first {n a b : Nat} (hc : CodeOK n a b) : 1 ≤ wt n a b 0 true := by
  have h1 := hc.n2; have h2 := hc.n7; have h5 := hc.an; have h6 := hc.bn; have h7 := hc.top
  have hp : 2 ^ n ≤ 128 := by obtain ⟨q, p1, p2, q1, q2, _⟩ := hc.pq; omega
  have e : ∀ a, ob n a 0 true = par (2 ^ (n - 1) &&& a) := fun a => by unfold ob al; simp
  unfold wt
  rw [e a, e b]
  by_cases ha : 2 ^ (n - 1) ≤ a
  · rw [top_tab n (by omega) a (by omega) (by simp only [decide_eq_true_eq]; omega)]; simp [bn]
  · rw [top_tab n (by omega) b (by omega) (by simp only [decide_eq_true_eq]; omega)]; simp [bn]
theorem least_pos {n a b x : Nat} (hc : CodeOK n a b) (h : Least n a b x) : 1 ≤ x := by
  obtain ⟨m, q, c, w1, w2, w3⟩ := h.att
  have := wt_first hc
  unfold wy at w3; omega
theorem states_ok {n a b : Nat} (h : CodeOK n a b) : f_trellis_Code_States (n : Int) (a : Int) (b : Int) = some (((2 ^ (n - 1) : Nat) : Int), 0) := by
  obtain ⟨q, p1, p2, q1, q2, _⟩ := h.pq
  have h1 := h.n2; have h2 := h.n7
  unfold f_trellis_Code_States
  rw [check_ok h]
  simp only [Option.bind_some]
  rw [if_neg (by simp), w64 (by omega) (by omega), if_pos (by omega), show (n : Int) - 1 = ((n - 1 : Nat) : Int) by omega, show ((1 : Int)) = ((1 : Nat) : Int) from rfl, ishl64 (by omega) (by omega), Nat.one_mul]
/-! ### The program's Free -/
theorem weight_ok (x y : Bool) : f_trellis_Code_Free_1 [x, y] = some ((bn x + bn y : Nat) : Int) := by
  unfold f_trellis_Code_Free_1
  cases x <;> cases y <;> (rw [loop_step (f := f_trellis_Code_Free_1.s1 _) (s' := (_, 1)) rfl, loop_step (f := f_trellis_Code_Free_1.s1 _) (s' := (_, 2)) rfl, loop_done (f := f_trellis_Code_Free_1.s1 _) (r := _) rfl]; rfl)
theorem imin_if (x y : Int) : imin x y = if y < x then y else x := rfl
theorem free_s4 {n a b : Nat} (hc : CodeOK n a b) {L : List Int} (h : Lst n a b 1048576 L) (hl : L.length = 64) {s : Nat} (hs : s < 2 ^ (n - 1)) (h0 : s ≠ 0) :
    ∃ L', loop (f_trellis_Code_Free.s4 (n : Int) (a : Int) (b : Int) (s : Int)) (L, 0) = some L' ∧ Lst n a b 1048576 L' ∧ LeL n L L' ∧ Edge n a b L L' s := by
  have hp : 2 ^ (n - 1) ≤ 64 := by obtain ⟨q, p1, p2, q1, q2, _⟩ := hc.pq; omega
  have one : ∀ (L : List Int), Lst n a b 1048576 L → L.length = 64 → ∀ (d : Bool) (t : Nat), t < 2 → gt [false, true] (t : Int) = d →
      ∃ L', f_trellis_Code_Free.s4 (n : Int) (a : Int) (b : Int) (s : Int) (L, (t : Int)) = some (.inl (L', ((t + 1 : Nat) : Int))) ∧ Lst n a b 1048576 L' ∧ LeL n L L' ∧ gt L' ((nx n s d : Nat) : Int) ≤ gt L (s : Int) + (wt n a b s d : Nat) := by
    intro L h hl d t ht hd
    have hn := nx_lt hc hs d
    have b1 := h.bd s hs
    have hwl := wt_le n a b s d
    obtain ⟨r1, r2, r3⟩ := h.relax hc (Nat.le_refl _) hs h0 d rfl
    refine ⟨_, ?_, r1, r2, r3⟩
    simp only [f_trellis_Code_Free.s4, f_trellis_Code_Free.s4c]
    rw [if_pos (by rw [decide_eq_true_eq]; show (t : Int) < 2; omega), if_pos (by show 0 ≤ (t : Int) ∧ (t : Int) < 2; omega), hd, step_ok hc hs d]
    simp only [Option.bind_some]
    rw [if_pos (by omega), if_pos (by omega), weight_ok]
    simp only [Option.bind_some]
    rw [if_pos (by omega), Int.toNat_natCast, imin_if, w64 (x := (t : Int) + 1) (by omega) (by omega)]
    rw [show bn (ob n a s d) + bn (ob n b s d) = wt n a b s d from rfl, w64 (by omega) (by omega)]
    rfl
  obtain ⟨L1, a1, a2, a3, a4⟩ := one L h hl false 0 (by omega) rfl
  obtain ⟨L2, c1, c2, c3, c4⟩ := one L1 a2 (by rw [a3.1, hl]) true 1 (by omega) rfl
  refine ⟨L2, ?_, c2, a3.trans c3, fun d => ?_⟩
  · rw [show ((0 : Nat) : Int) = 0 from rfl] at a1
    rw [loop_step a1, loop_step c1]
    apply loop_done
    simp only [f_trellis_Code_Free.s4, f_trellis_Code_Free.s4c]
    rw [if_neg (by simp)]
  · cases d with
    | false => have := c3.2 _ (nx_lt hc hs false); omega
    | true => have := a3.2 _ hs; omega
theorem free_s3 {n a b : Nat} (hc : CodeOK n a b) {L : List Int} (h : Lst n a b 1048576 L) (hl : L.length = 64) :
    ∃ L', loop (f_trellis_Code_Free.s3 (n : Int) (a : Int) (b : Int) (((2 ^ (n - 1) : Nat) : Int), 0)) (L, 1) = some L' ∧ Lst n a b 1048576 L' ∧ LeL n L L' ∧ ∀ s : Nat, s < 2 ^ (n - 1) → s ≠ 0 → Edge n a b L L' s := by
  have hp : 2 ^ (n - 1) ≤ 64 := by obtain ⟨q, p1, p2, q1, q2, _⟩ := hc.pq; omega
  have hp1 : 2 ≤ 2 ^ (n - 1) := by obtain ⟨q, p1, p2, q1, q2, _⟩ := hc.pq; omega
  generalize hP : 2 ^ (n - 1) = P at *
  have key : ∀ k s : Nat, s + k = P → 1 ≤ s → ∀ L1, Lst n a b 1048576 L1 → L1.length = 64 → LeL n L L1 → (∀ r : Nat, r < s → r ≠ 0 → Edge n a b L L1 r) →
      ∃ L', loop (f_trellis_Code_Free.s3 (n : Int) (a : Int) (b : Int) ((P : Int), 0)) (L1, (s : Int)) = some L' ∧ Lst n a b 1048576 L' ∧ LeL n L L' ∧ ∀ r : Nat, r < P → r ≠ 0 → Edge n a b L L' r := by
    intro k
    induction k with
    | zero =>
      intro s hs h1 L1 g1 g2 g3 g4
      obtain rfl : s = P := by omega
      refine ⟨L1, loop_done ?_, g1, g3, g4⟩
      simp only [f_trellis_Code_Free.s3, f_trellis_Code_Free.s3c]
      rw [if_neg (by simp)]
    | succ k ih =>
      intro s hs h1 L1 g1 g2 g3 g4
      obtain ⟨L2, e1, e2, e3, e4⟩ := free_s4 hc g1 g2 (s := s) (by omega) (by omega)
      obtain ⟨L', f1, f2, f3, f4⟩ := ih (s + 1) (by omega) (by omega) L2 e2 (by rw [e3.1, g2]) (g3.trans e3) (fun r hr h0 => by
        by_cases hrs : r < s
        · exact (g4 r hrs h0).mono hc (by omega) (LeL.refl n L) e3
        · obtain rfl : r = s := by omega
          exact e4.mono hc (by omega) g3 (LeL.refl n L2))
      refine ⟨L', ?_, f2, f3, f4⟩
      rw [← f1]
      apply loop_step
      simp only [f_trellis_Code_Free.s3, f_trellis_Code_Free.s3c]
      rw [if_pos (by rw [decide_eq_true_eq]; omega), e1]
      simp only [Option.bind_some]
      rw [w64 (by omega) (by omega)]; rfl
  exact key (P - 1) 1 (by omega) (by omega) L h hl (LeL.refl n L) (fun r hr h0 => by omega)
theorem free_s2 {n a b : Nat} (hc : CodeOK n a b) {L : List Int} (h : Lst n a b 1048576 L) (hl : L.length = 64) (h0 : Cnt n a b 0 L) :
    ∃ L', loop (f_trellis_Code_Free.s2 (n : Int) (a : Int) (b : Int) (((2 ^ (n - 1) : Nat) : Int), 0)) (L, 0) = some L' ∧ Lst n a b 1048576 L' ∧ Cnt n a b (2 ^ (n - 1)) L' := by
  have hp : 2 ^ (n - 1) ≤ 64 := by obtain ⟨q, p1, p2, q1, q2, _⟩ := hc.pq; omega
  have key : ∀ k s : Nat, s + k = 2 ^ (n - 1) → ∀ L1, Lst n a b 1048576 L1 → L1.length = 64 → Cnt n a b s L1 →
      ∃ L', loop (f_trellis_Code_Free.s2 (n : Int) (a : Int) (b : Int) (((2 ^ (n - 1) : Nat) : Int), 0)) (L1, (s : Int)) = some L' ∧ Lst n a b 1048576 L' ∧ Cnt n a b (2 ^ (n - 1)) L' := by
    intro k
    induction k with
    | zero =>
      intro s hs L1 g1 g2 g3
      obtain rfl : s = 2 ^ (n - 1) := by omega
      refine ⟨L1, loop_done ?_, g1, g3⟩
      simp only [f_trellis_Code_Free.s2, f_trellis_Code_Free.s2c]
      rw [if_neg (by simp)]
    | succ k ih =>
      intro s hs L1 g1 g2 g3
      obtain ⟨L2, e1, e2, e3, e4⟩ := free_s3 hc g1 g2
      obtain ⟨L', f1, f2, f3⟩ := ih (s + 1) (by omega) L2 e2 (by rw [e3.1, g2]) (g3.next hc e3 e4)
      refine ⟨L', ?_, f2, f3⟩
      rw [← f1]
      apply loop_step
      simp only [f_trellis_Code_Free.s2, f_trellis_Code_Free.s2c]
      rw [if_pos (by rw [decide_eq_true_eq]; omega), e1]
      simp only [Option.bind_some]
      rw [w64 (by omega) (by omega)]; rfl
  exact key (2 ^ (n - 1)) 0 (by omega) L h hl h0
theorem free_s1 : loop f_trellis_Code_Free.s1 (List.replicate 64 0, 0) = some (List.replicate 64 1048576) := by
  have := loop_for (f := f_trellis_Code_Free.s1) 64 (fun t => List.replicate t 1048576 ++ List.replicate (64 - t) 0) (List.replicate 64 1048576) (fun t ht => ?_) ?_
  · rw [← this]; rfl
  · simp only [f_trellis_Code_Free.s1, f_trellis_Code_Free.s1c]
    rw [if_pos (by rw [decide_eq_true_eq]; omega), if_pos (by omega), w64 (by omega) (by omega), Int.toNat_natCast, List.set_append_right _ _ (by simp only [List.length_replicate]; omega)]
    have e2 : List.replicate (64 - t) (0 : Int) = 0 :: List.replicate (64 - (t + 1)) 0 := by
      rw [← List.replicate_succ]; congr 1; omega
    rw [e2, List.replicate_succ', List.append_assoc]
    simp only [List.length_replicate, Nat.sub_self, List.set_cons_zero]
    rfl
  · simp only [f_trellis_Code_Free.s1, f_trellis_Code_Free.s1c]
    rw [if_neg (by decide)]
    rfl
theorem lst_start {n a b F : Nat} (hc : CodeOK n a b) (hF : 2 ≤ F) {m : Nat} (hm : 2 ^ (n - 1) ≤ m) : Lst n a b F ((List.replicate m (F : Int)).set (nx n 0 true) ((wt n a b 0 true : Nat) : Int)) ∧ Cnt n a b 0 ((List.replicate m (F : Int)).set (nx n 0 true) ((wt n a b 0 true : Nat) : Int)) := by
  have hn := nx_lt hc (s := 0) (Nat.two_pow_pos _) true
  have hw := wt_le n a b 0 true
  have hg : ∀ s : Nat, s < 2 ^ (n - 1) → gt ((List.replicate m (F : Int)).set (nx n 0 true) ((wt n a b 0 true : Nat) : Int)) (s : Int) = if nx n 0 true = s then ((wt n a b 0 true : Nat) : Int) else (F : Int) := fun s hs => by
    rw [gt_set_nat (by rw [List.length_replicate]; omega) (by rw [List.length_replicate]; omega), gt_nat (by rw [List.length_replicate]; omega), List.getElem_replicate]
  refine ⟨⟨by rw [List.length_set, List.length_replicate]; exact hm, fun s hs => ?_, fun s hs => ?_⟩, ?_⟩
  · rw [hg s hs]; split <;> omega
  · rw [hg s hs]
    split
    · rename_i e
      intro _
      rw [Int.toNat_natCast]
      exact ⟨0, fun _ => nx n 0 true, fun _ => false, ⟨rfl, fun i hi => by omega, fun i hi => by omega⟩, e, by simp [wy, fs]⟩
    · intro h; omega
  · intro k q c hk hq
    obtain rfl : k = 0 := by omega
    rw [hq.start, hg _ hn, if_pos rfl]
    simp [wy, fs]
theorem free_ok {n a b : Nat} (hc : CodeOK n a b) : ∃ x : Nat, f_trellis_Code_Free (n : Int) (a : Int) (b : Int) = some ((x : Int), 0) ∧ Least n a b x := by
  have hp : 2 ^ (n - 1) ≤ 64 := by obtain ⟨q, p1, p2, q1, q2, _⟩ := hc.pq; omega
  have hn := nx_lt hc (s := 0) (Nat.two_pow_pos _) true
  obtain ⟨s1, s2⟩ := lst_start hc (F := 1048576) (by decide) hp
  obtain ⟨L', e1, e2, e3⟩ := free_s2 hc s1 (by rw [List.length_set, List.length_replicate]) s2
  have b0 := e2.bd 0 (Nat.two_pow_pos _)
  rw [show ((0 : Nat) : Int) = 0 from rfl] at b0
  refine ⟨(gt L' 0).toNat, ?_, least_of hc (by decide) e2 e3⟩
  unfold f_trellis_Code_Free
  rw [states_ok hc]
  simp only [Option.bind_some]
  rw [if_neg (by simp), free_s1]
  have hst := step_ok hc (s := 0) (Nat.two_pow_pos _) true
  rw [show ((0 : Nat) : Int) = 0 from rfl] at hst
  simp only [Option.bind_some]
  rw [hst]
  simp only [Option.bind_some]
  rw [weight_ok]
  simp only [Option.bind_some]
  rw [if_pos (by omega), Int.toNat_natCast, show bn (ob n a 0 true) + bn (ob n b 0 true) = wt n a b 0 true from rfl, show ((1048576 : Nat) : Int) = 1048576 from rfl] at *
  rw [e1]
  simp only [Option.bind_some]
  rw [Int.toNat_of_nonneg b0.1]
/-! ### awake -/
theorem same_self (l : List Bool) (hl : l.length < 9223372036854775807) : f_foghornref21_Same l l = some true := by
  unfold f_foghornref21_Same
  rw [if_neg (by simp)]
  have := loop_for1 (f := f_foghornref21_Same.s1 l l) l.length (.inl ()) (fun i hi => ?_) ?_
  · rw [this]; rfl
  · simp only [f_foghornref21_Same.s1, f_foghornref21_Same.s1c]
    rw [if_pos (by simpa using hi), if_pos (by omega), if_pos (by omega), if_neg (by simp), w64 (by omega) (by omega)]
    rfl
  · simp only [f_foghornref21_Same.s1, f_foghornref21_Same.s1c]
    rw [if_neg (by simp)]
theorem awake_true : f_foghornlaw21_awake = some true := by
  unfold f_foghornlaw21_awake
  have hc : CodeOK 3 7 5 := ⟨by decide, by decide, by decide, by decide, by decide, by decide, by decide⟩
  have h1 := encode_ok hc [true] (by decide)
  rw [show ((3 : Nat) : Int) = 3 from rfl, show ((7 : Nat) : Int) = 7 from rfl, show ((5 : Nat) : Int) = 5 from rfl] at h1
  have h2 : enc 3 7 5 [true] ([true].length + 3 - 1) = [true, true, true, false, true, true] := by decide +kernel
  rw [h1, h2]
  simp only [Option.bind_some, beq_self_eq_true, if_true]
  rw [same_self _ (by decide)]
  rfl
/-! ### Any code -/
theorem j2_tab : ∀ n : Nat, n < 4 → ∀ y : Nat, y < 256 → ((f_math_bits_Len32.j2 (y : Int) ((8 * n : Nat) : Int)).any fun k => decide (((8 * n + (if y = 0 then 0 else if y < 128 then 1 else 8) : Nat) : Int) ≤ k)) = true := by decide +kernel
theorem j2_ge {n y : Nat} (hn : n < 4) (hy : y < 256) : ∃ k : Nat, f_math_bits_Len32.j2 (y : Int) ((8 * n : Nat) : Int) = some (k : Int) ∧ 8 * n + (if y = 0 then 0 else if y < 128 then 1 else 8) ≤ k := by
  have := j2_tab n hn y hy
  cases hh : f_math_bits_Len32.j2 (y : Int) ((8 * n : Nat) : Int) with
  | none => rw [hh] at this; cases this
  | some q =>
    rw [hh] at this
    simp only [Option.any_some, decide_eq_true_eq] at this
    exact ⟨q.toNat, by congr 1; omega, by omega⟩
theorem len_big {m : Nat} (h1 : 128 ≤ m) (h2 : m < 4294967296) : ∃ k : Nat, f_math_bits_Len32 (m : Int) = some (k : Int) ∧ 8 ≤ k := by
  unfold f_math_bits_Len32
  by_cases h3 : 65536 ≤ m
  · rw [if_pos (by rw [decide_eq_true_eq]; omega), show (16 : Int) = ((16 : Nat) : Int) from rfl, ishr_nat (by decide)]
    have hy : m / 2 ^ 16 < 65536 := by rw [show (2 : Nat) ^ 16 = 65536 from rfl]; omega
    have hy1 : 1 ≤ m / 2 ^ 16 := by rw [show (2 : Nat) ^ 16 = 65536 from rfl]; omega
    generalize m / 2 ^ 16 = y at *
    unfold f_math_bits_Len32.j1
    by_cases h4 : 256 ≤ y
    · rw [if_pos (by rw [decide_eq_true_eq]; omega), show (8 : Int) = ((8 : Nat) : Int) from rfl, ishr_nat (by decide), show IntKind.i64.wrap (((16 : Nat) : Int) + ((8 : Nat) : Int)) = ((8 * 3 : Nat) : Int) from by decide]
      have hz : y / 2 ^ 8 < 256 := by rw [show (2 : Nat) ^ 8 = 256 from rfl]; omega
      obtain ⟨k, k1, k2⟩ := j2_ge (n := 3) (by decide) hz
      exact ⟨k, k1, by omega⟩
    · rw [if_neg (by rw [decide_eq_true_eq]; omega), show ((16 : Nat) : Int) = ((8 * 2 : Nat) : Int) from rfl]
      obtain ⟨k, k1, k2⟩ := j2_ge (n := 2) (y := y) (by decide) (by omega)
      exact ⟨k, k1, by omega⟩
  · rw [if_neg (by rw [decide_eq_true_eq]; omega)]
    unfold f_math_bits_Len32.j1
    by_cases h4 : 256 ≤ m
    · rw [if_pos (by rw [decide_eq_true_eq]; omega), show (8 : Int) = ((8 : Nat) : Int) from rfl, ishr_nat (by decide), show IntKind.i64.wrap (0 + ((8 : Nat) : Int)) = ((8 * 1 : Nat) : Int) from by decide]
      have hz : m / 2 ^ 8 < 256 := by rw [show (2 : Nat) ^ 8 = 256 from rfl]; omega
      obtain ⟨k, k1, k2⟩ := j2_ge (n := 1) (by decide) hz
      exact ⟨k, k1, by omega⟩
    · rw [if_neg (by rw [decide_eq_true_eq]; omega), show (0 : Int) = ((8 * 0 : Nat) : Int) from rfl]
      obtain ⟨k, k1, k2⟩ := j2_ge (n := 0) (y := m) (by decide) (by omega)
      exact ⟨k, k1, by rw [if_neg (by omega), if_neg (by omega)] at k2; omega⟩
theorem sh1 {n : Nat} (h7 : n ≤ 7) : ishl .u32 (1 : Int) (n : Int) = ((2 ^ n : Nat) : Int) := by
  have : (2 : Nat) ^ n ≤ 2 ^ 7 := Nat.pow_le_pow_right (by decide) h7
  rw [show ((1 : Int)) = ((1 : Nat) : Int) from rfl, ishl32 (by omega) (by omega), Nat.one_mul]
theorem pow_split {n : Nat} (h2 : 2 ≤ n) (h7 : n ≤ 7) : ∃ q, 2 ^ (n - 1) = 2 * q ∧ 2 ^ n = 4 * q ∧ 1 ≤ q ∧ q ≤ 32 := by
  have : n = 2 ∨ n = 3 ∨ n = 4 ∨ n = 5 ∨ n = 6 ∨ n = 7 := by omega
  refine ⟨2 ^ (n - 2), ?_⟩
  rcases this with h | h | h | h | h | h <;> rw [h] <;> decide
theorem may_val {n a b : Nat} (h2 : 2 ≤ n) (h7 : n ≤ 7) : f_foghornref21_May (n : Int) (a : Int) (b : Int) = some (decide (1 ≤ a ∧ a < 2 ^ n ∧ 1 ≤ b ∧ b < 2 ^ n ∧ (2 ^ (n - 1) ≤ a ∨ 2 ^ (n - 1) ≤ b))) := by
  obtain ⟨q, p1, p2, q1, q2⟩ := pow_split h2 h7
  unfold f_foghornref21_May
  rw [if_neg (by simp; omega), if_pos (by omega), sh1 h7]
  have e : IntKind.u32.wrap (((2 ^ n : Nat) : Int).tdiv 2) = ((2 ^ (n - 1) : Nat) : Int) := by
    rw [show (2 : Int) = ((2 : Nat) : Int) from rfl, tdiv_nat, p1, p2, w32 (by omega) (by omega)]; omega
  rw [e]
  congr 1
  rw [Bool.eq_iff_iff]
  simp only [Bool.and_eq_true, Bool.or_eq_true, decide_eq_true_eq]
  omega
theorem code_dich {L o t : Int} (w0 : (Lit.int .i64 L).wf = true) (w1 : (Lit.int .u32 o).wf = true) (w2 : (Lit.int .u32 t).wf = true) :
    (∃ n a b : Nat, L = (n : Int) ∧ o = (a : Int) ∧ t = (b : Int) ∧ CodeOK n a b ∧ f_foghornref21_May L o t = some true) ∨ (f_trellis_Code_Check L o t = some 1 ∧ f_foghornref21_May L o t = some false) := by
  have b1 := wf_u32 w1
  have b2 := wf_u32 w2
  by_cases hL : L < 2 ∨ 7 < L
  · right
    constructor
    · unfold f_trellis_Code_Check
      rw [if_pos (by simp; omega)]; rfl
    · unfold f_foghornref21_May
      rw [if_pos (by simp; omega)]
  obtain ⟨n, hn⟩ : ∃ m : Nat, L = (m : Int) := ⟨L.toNat, by omega⟩
  obtain ⟨a, ha⟩ : ∃ m : Nat, o = (m : Int) := ⟨o.toNat, by omega⟩
  obtain ⟨b, hb⟩ : ∃ m : Nat, t = (m : Int) := ⟨t.toNat, by omega⟩
  subst hn ha hb
  have h2 : 2 ≤ n := by omega
  have h7 : n ≤ 7 := by omega
  obtain ⟨q, p1, p2, q1, q2⟩ := pow_split h2 h7
  rw [may_val h2 h7]
  by_cases hv : 1 ≤ a ∧ a < 2 ^ n ∧ 1 ≤ b ∧ b < 2 ^ n ∧ (2 ^ (n - 1) ≤ a ∨ 2 ^ (n - 1) ≤ b)
  · left
    exact ⟨n, a, b, rfl, rfl, rfl, ⟨h2, h7, hv.1, hv.2.2.1, hv.2.1, hv.2.2.2.1, by omega⟩, by rw [decide_eq_true hv]⟩
  · right
    refine ⟨?_, by rw [decide_eq_false hv]⟩
    unfold f_trellis_Code_Check
    rw [imin_nat, imax_nat]
    by_cases hm : min a b < 1
    · rw [if_pos (by simp; omega)]; rfl
    · rw [if_neg (by simp; omega)]
      obtain ⟨m, hmm⟩ : ∃ m, m = max a b := ⟨_, rfl⟩
      rw [← hmm]
      have hk : ∃ k : Nat, f_math_bits_Len32 (m : Int) = some (k : Int) ∧ k ≠ n := by
        by_cases h128 : 128 ≤ m
        · obtain ⟨k, k1, k2⟩ := len_big h128 (by omega)
          exact ⟨k, k1, by omega⟩
        · have hm0 : m ≠ 0 := by omega
          have l1 := Nat.log2_self_le hm0
          have l2 : m < 2 ^ (m.log2 + 1) := Nat.lt_log2_self
          have l3 : m.log2 < 7 := (Nat.log2_lt hm0).2 (by omega)
          refine ⟨m.log2 + 1, len_tab (m.log2 + 1) (by omega) m (by omega) (by omega) (by simpa using l1) l2, fun he => ?_⟩
          rw [he] at l2
          have l4 : m.log2 = n - 1 := by omega
          rw [l4] at l1
          exact hv (by omega)
      obtain ⟨k, k1, k2⟩ := hk
      rw [k1]
      simp only [Option.bind_some]
      rw [if_pos (by simp; omega)]
/-! ### The document's steps -/
def pr (x : Nat) : Nat → Bool
  | 0 => false
  | i + 1 => pr x i != x.testBit i
theorem pr_par : ∀ x, x < 128 → (pr x 32 == par x) = true := by decide +kernel
theorem bit_one {x i : Nat} (hx : x < 4294967296) (hi : i < 32) : (iand .u32 (ishr .u32 (x : Int) (i : Int)) (1 : Int) == (1 : Int)) = x.testBit i := by
  have hd : x / 2 ^ i ≤ x := Nat.div_le_self _ _
  rw [ishr_nat (show i ≤ 32 by omega), show (1 : Int) = ((1 : Nat) : Int) from rfl, iand32 (by omega) (by omega), Nat.and_one_is_mod, Nat.testBit_eq_decide_div_mod_eq]
  rw [Bool.eq_iff_iff]
  simp only [beq_iff_eq, decide_eq_true_eq]
  omega
theorem odd_ok {x y : Nat} (hx : x < 128) (hy : y < 128) : f_foghornref21_odd (x : Int) (y : Int) = some (par (x &&& y)) := by
  have key : ∀ k i : Nat, i + k = 32 → loop (f_foghornref21_odd.s1 (x : Int) (y : Int)) (pr (x &&& y) i, (i : Int)) = some (pr (x &&& y) 32) := by
    intro k
    induction k with
    | zero =>
      intro i hi
      obtain rfl : i = 32 := by omega
      apply loop_done
      simp only [f_foghornref21_odd.s1, f_foghornref21_odd.s1c]
      rw [if_neg (by simp)]
    | succ k ih =>
      intro i hi
      rw [← ih (i + 1) (by omega)]
      apply loop_step
      simp only [f_foghornref21_odd.s1, f_foghornref21_odd.s1c]
      have i0 : 0 ≤ (i : Int) := by omega
      rw [if_pos (by rw [decide_eq_true_eq]; omega), if_pos i0, bit_one (x := x) (by omega) (by omega), bit_one (x := y) (by omega) (by omega), w64 (by omega) (by omega), if_pos i0]
      have e : pr (x &&& y) (i + 1) = (pr (x &&& y) i != (x.testBit i && y.testBit i)) := by simp only [pr]; rw [Nat.testBit_and]
      rw [e]
      cases x.testBit i <;> cases y.testBit i <;> simp
  have := key 32 0 (by omega)
  rw [show pr (x &&& y) 0 = false from rfl, show ((0 : Nat) : Int) = 0 from rfl] at this
  have hle : x &&& y ≤ x := Nat.and_le_left
  unfold f_foghornref21_odd
  rw [this, eq_of_beq (pr_par (x &&& y) (by omega))]; rfl
theorem go_ok {n a b : Nat} (h : CodeOK n a b) {s : Nat} (hs : s < 2 ^ (n - 1)) (c : Bool) :
    f_foghornref21_Go (n : Int) (a : Int) (b : Int) (s : Int) c = some (((nx n s c : Nat) : Int), ob n a s c, ob n b s c) := by
  have hal := al_lt h hs c
  obtain ⟨q, p1, p2, q1, q2, _⟩ := h.pq
  have h1 := h.n2; have h2 := h.n7; have h5 := h.an; have h6 := h.bn
  have j : f_foghornref21_Go.j1 (a : Int) (b : Int) ((al n s c : Nat) : Int) = some (((nx n s c : Nat) : Int), ob n a s c, ob n b s c) := by
    unfold f_foghornref21_Go.j1
    rw [odd_ok (by omega) (by omega), odd_ok (by omega) (by omega), show (2 : Int) = ((2 : Nat) : Int) from rfl, tdiv_nat, w32 (by omega) (by omega), w64 (by omega) (by omega)]
    rfl
  unfold f_foghornref21_Go
  cases c with
  | false => rw [if_neg (by simp), w32 (by omega) (by omega)]; exact j
  | true =>
    rw [if_pos rfl, w64 (by omega) (by omega), if_pos (by omega), w32 (x := (s : Int)) (by omega) (by omega), show (n : Int) - 1 = ((n - 1 : Nat) : Int) by omega, show ((1 : Int)) = ((1 : Nat) : Int) from rfl, ishl32 (by omega) (by omega), Nat.one_mul]
    have e : IntKind.u32.wrap ((s : Int) + ((2 ^ (n - 1) : Nat) : Int)) = ((al n s true : Nat) : Int) := by
      rw [w32 (by omega) (by omega)]; simp only [al, if_true]; omega
    rw [e]; exact j
theorem state_ok {n a b : Nat} (h : CodeOK n a b) {s : Nat} (hs : s < 2 ^ (n - 1)) : f_trellis_Code_state (n : Int) (a : Int) (b : Int) (s : Int) = some 0 := by
  unfold f_trellis_Code_state
  rw [states_ok h]
  simp only [Option.bind_some]
  generalize 2 ^ (n - 1) = p at *
  rw [if_neg (by simp; omega)]
theorem Step_ok {n a b : Nat} (h : CodeOK n a b) {s : Nat} (hs : s < 2 ^ (n - 1)) (c : Bool) :
    f_trellis_Code_Step (n : Int) (a : Int) (b : Int) (s : Int) c = some (((nx n s c : Nat) : Int), ob n a s c, ob n b s c, 0) := by
  unfold f_trellis_Code_Step
  rw [state_ok h hs]
  simp only [Option.bind_some]
  rw [if_neg (by simp), step_ok h hs]
  rfl

theorem from_ok {n a b q s : Nat} (h : CodeOK n a b) (hs : s < 2 ^ (n - 1)) (hq : 2 ^ (n - 1) = 2 * q) : f_trellis_Code_From (n : Int) (a : Int) (b : Int) (s : Int) = some ((((2 * (s % q) : Nat) : Int), ((2 * (s % q) + 1 : Nat) : Int)), 0) := by
  obtain ⟨q', p1, p2, q1, q2, hq'⟩ := h.pq
  obtain rfl : q = q' := by omega
  have h1 := h.n2; have h2 := h.n7
  unfold f_trellis_Code_From
  rw [state_ok h hs]
  simp only [Option.bind_some]
  rw [if_neg (by simp), w64 (x := (n : Int) - 1) (by omega) (by omega), if_pos (by omega), show (n : Int) - 1 = ((n - 1 : Nat) : Int) by omega, show ((1 : Int)) = ((1 : Nat) : Int) from rfl, ishl64 (by omega) (by omega), ishl64 (by omega) (by omega), Nat.one_mul]
  have hm : s * 2 ^ 1 % 2 ^ (n - 1) = 2 * (s % q) := by
    rw [p1, Nat.pow_one, Nat.mul_comm s 2, Nat.mul_mod_mul_left]
  have hml := Nat.mod_lt s (show 0 < q by omega)
  have e1 : s * 2 ^ 1 &&& (2 ^ (n - 1) - 1) = 2 * (s % q) := by rw [Nat.and_two_pow_sub_one_eq_mod, hm]
  generalize s % q = z at *
  rw [w64 (x := ((2 ^ (n - 1) : Nat) : Int) - ((1 : Nat) : Int)) (by omega) (by omega), show ((2 ^ (n - 1) : Nat) : Int) - ((1 : Nat) : Int) = ((2 ^ (n - 1) - 1 : Nat) : Int) by omega, iand64 (by omega) (by omega), e1, w64 (by omega) (by omega)]
  rfl
/-! ### The document's answers: From, Free -/
theorem lst {σ R : Type} {f : σ → Option (σ ⊕ R)} (n : Nat) (g : Nat → σ) (r : R)
    (h1 : ∀ i : Nat, i < n → f (g i) = some (.inl (g (i + 1)))) (h2 : f (g n) = some (.inr r)) : loop f (g 0) = some r := by
  have : ∀ k i : Nat, i + k = n → loop f (g i) = some r := by
    intro k
    induction k with
    | zero => intro i hi; obtain rfl : i = n := by omega
              exact loop_done h2
    | succ k ih => intro i hi; rw [loop_step (h1 i (by omega))]; exact ih (i + 1) (by omega)
  exact this n 0 (by omega)
theorem rstates_ok {n a b : Nat} (h : CodeOK n a b) (hm : f_foghornref21_May (n : Int) (a : Int) (b : Int) = some true) : f_foghornref21_States (n : Int) (a : Int) (b : Int) = some (((2 ^ (n - 1) : Nat) : Int), 0) := by
  obtain ⟨q, p1, p2, q1, q2, _⟩ := h.pq
  have h1 := h.n2; have h2 := h.n7
  unfold f_foghornref21_States
  rw [hm]
  simp only [Option.bind_some]
  rw [if_neg (by simp), w64 (by omega) (by omega), if_pos (by omega), show (n : Int) - 1 = ((n - 1 : Nat) : Int) by omega, show ((1 : Int)) = ((1 : Nat) : Int) from rfl, ishl64 (by omega) (by omega), Nat.one_mul]
theorem rfrom_ok {n a b q s : Nat} (h : CodeOK n a b) (hm : f_foghornref21_May (n : Int) (a : Int) (b : Int) = some true) (hs : s < 2 ^ (n - 1)) (hq : 2 ^ (n - 1) = 2 * q) :
    f_foghornref21_From (n : Int) (a : Int) (b : Int) (s : Int) = some ((((2 * (s % q) : Nat) : Int), ((2 * (s % q) + 1 : Nat) : Int)), 0) := by
  obtain ⟨q', p1, p2, q1, q2, hq'⟩ := h.pq
  obtain rfl : q = q' := by omega
  unfold f_foghornref21_From
  rw [rstates_ok h hm]
  simp only [Option.bind_some]
  rw [if_neg (by simp only [Bool.or_eq_true, bne_iff_ne, decide_eq_true_eq]; omega)]
  have hz : s % q < q := Nat.mod_lt s (by omega)
  have hsz : s = s % q ∨ s = s % q + q := by
    by_cases hc : s < q
    · left; rw [Nat.mod_eq_of_lt hc]
    · right; rw [Nat.mod_eq_sub_mod (by omega), Nat.mod_eq_of_lt (by omega)]; omega
  generalize s % q = z at *
  have key := lst (f := f_foghornref21_From.s1 (n : Int) (a : Int) (b : Int) (s : Int) (((2 ^ (n - 1) : Nat) : Int), 0)) (2 ^ (n - 1))
    (fun i => ((if 2 * z < i then ((2 * z : Nat) : Int) else 0), (if 2 * z + 1 < i then ((2 * z + 1 : Nat) : Int) else 0), (if 2 * z + 1 < i then (2 : Int) else if 2 * z < i then 1 else 0), (i : Int))) (((2 * z : Nat) : Int), ((2 * z + 1 : Nat) : Int)) (fun i hi => ?_) ?_
  · simp only [Nat.not_lt_zero, if_false] at key
    rw [show (0 : Int) = ((0 : Nat) : Int) from rfl] at key ⊢
    rw [key]; rfl
  · simp only [f_foghornref21_From.s1, f_foghornref21_From.s1c]
    rw [if_pos (by rw [decide_eq_true_eq]; omega), go_ok h hi false, go_ok h hi true]
    simp only [Option.bind_some]
    have e1 : nx n i false = i / 2 := by unfold nx al; simp
    have e2 : nx n i true = i / 2 + q := by unfold nx al; simp only [if_true]; omega
    rw [e1, e2, w64 (x := (i : Int) + 1) (by omega) (by omega)]
    by_cases c : i / 2 = z
    · rw [if_pos (by simp only [Bool.or_eq_true, beq_iff_eq]; omega)]
      have : i = 2 * z ∨ i = 2 * z + 1 := by omega
      rcases this with rfl | rfl
      · have t1 : (2 * z < 2 * z) = False := by rw [eq_iff_iff, iff_false]; omega
        have t2 : (2 * z + 1 < 2 * z) = False := by rw [eq_iff_iff, iff_false]; omega
        have t3 : (2 * z < 2 * z + 1) = True := by rw [eq_iff_iff, iff_true]; omega
        have t4 : (2 * z + 1 < 2 * z + 1) = False := by rw [eq_iff_iff, iff_false]; omega
        simp only [t1, t2, t3, t4, if_true, if_false]
        rfl
      · have t3 : (2 * z < 2 * z + 1) = True := by rw [eq_iff_iff, iff_true]; omega
        have t4 : (2 * z + 1 < 2 * z + 1) = False := by rw [eq_iff_iff, iff_false]; omega
        have t5 : (2 * z < 2 * z + 1 + 1) = True := by rw [eq_iff_iff, iff_true]; omega
        have t6 : (2 * z + 1 < 2 * z + 1 + 1) = True := by rw [eq_iff_iff, iff_true]; omega
        simp only [t3, t4, t5, t6, if_true, if_false]
        rfl
    · rw [if_neg (by simp only [Bool.or_eq_true, beq_iff_eq]; omega)]
      have c1 : (2 * z < i + 1) = (2 * z < i) := by rw [eq_iff_iff]; omega
      have c2 : (2 * z + 1 < i + 1) = (2 * z + 1 < i) := by rw [eq_iff_iff]; omega
      simp only [c1, c2]
      rfl
  · simp only [f_foghornref21_From.s1, f_foghornref21_From.s1c]
    rw [if_neg (by simp), if_pos (by omega), if_pos (by omega)]
theorem count_ok (x y : Bool) : f_foghornref21_count x y = some ((bn x + bn y : Nat) : Int) := by
  cases x <;> cases y <;> rfl
def Sm (n : Nat) (L : List Int) : Nat := fs (fun i => (gt L (i : Int)).toNat) (2 ^ (n - 1))
theorem fs_lt {f g : Nat → Nat} {p : Nat} : ∀ {m}, p < m → (∀ i, i < m → f i ≤ g i) → f p < g p → fs f m < fs g m
  | 0, h, _, _ => by omega
  | m + 1, h, hg, hp => by
    simp only [fs]
    have := hg m (by omega)
    by_cases e : p = m
    · subst e
      have := fs_le (f := f) (g := g) (m := p) fun i hi => hg i (by omega)
      omega
    · have := fs_lt (f := f) (g := g) (p := p) (m := m) (by omega) (fun i hi => hg i (by omega)) hp
      omega
theorem LeL.sm {n : Nat} {L L' : List Int} (h : LeL n L L') : Sm n L' ≤ Sm n L := fs_le fun i hi => by have := h.2 i hi; omega
theorem rfree_s4 {n a b : Nat} (hc : CodeOK n a b) {L : List Int} (h : Lst n a b 1000000 L) (hl : L.length = 2 ^ (n - 1)) {s : Nat} (hs : s < 2 ^ (n - 1)) (h0 : s ≠ 0) (u : Bool) :
    ∃ L' u', loop (f_foghornref21_Free.s4 (n : Int) (a : Int) (b : Int) (s : Int)) (L, u, 0) = some (L', u') ∧ Lst n a b 1000000 L' ∧ LeL n L L' ∧ Edge n a b L L' s ∧ (u' = false → L' = L ∧ u = false) ∧ (u' = true → u = true ∨ Sm n L' < Sm n L) := by
  have one : ∀ (L : List Int), Lst n a b 1000000 L → L.length = 2 ^ (n - 1) → ∀ (u d : Bool) (t : Nat), t < 2 → ((t : Int) == 1) = d →
      ∃ L' u', f_foghornref21_Free.s4 (n : Int) (a : Int) (b : Int) (s : Int) (L, u, (t : Int)) = some (.inl (L', u', ((t + 1 : Nat) : Int))) ∧ Lst n a b 1000000 L' ∧ LeL n L L' ∧ gt L' ((nx n s d : Nat) : Int) ≤ gt L (s : Int) + (wt n a b s d : Nat) ∧ (u' = false → L' = L ∧ u = false) ∧ (u' = true → u = true ∨ Sm n L' < Sm n L) := by
    intro L h hl u d t ht hd
    have hn := nx_lt hc hs d
    have b1 := h.bd s hs
    have b2 := h.bd _ hn
    have hwl := wt_le n a b s d
    obtain ⟨r1, r2, r3⟩ := h.relax hc (by decide) hs h0 d rfl
    have hw : IntKind.i64.wrap (gt L (s : Int) + ((bn (ob n a s d) + bn (ob n b s d) : Nat) : Int)) = gt L (s : Int) + (wt n a b s d : Nat) := by
      rw [show bn (ob n a s d) + bn (ob n b s d) = wt n a b s d from rfl, w64 (by omega) (by omega)]
    have ew : IntKind.i64.wrap ((t : Int) + 1) = ((t + 1 : Nat) : Int) := by rw [w64 (by omega) (by omega)]; rfl
    simp only [f_foghornref21_Free.s4, f_foghornref21_Free.s4c]
    rw [if_pos (by rw [decide_eq_true_eq]; show (t : Int) < 2; omega), hd, go_ok hc hs d]
    simp only [Option.bind_some]
    rw [if_pos (by omega), count_ok]
    simp only [Option.bind_some]
    rw [if_pos (by omega), hw, ew, Int.toNat_natCast]
    by_cases hlt : gt L (s : Int) + (wt n a b s d : Nat) < gt L ((nx n s d : Nat) : Int)
    · rw [if_pos (by rw [decide_eq_true_eq]; exact hlt), if_pos (by omega)]
      rw [if_pos hlt] at r1 r2 r3
      refine ⟨_, _, rfl, r1, r2, r3, by simp, fun _ => .inr ?_⟩
      refine fs_lt (p := nx n s d) hn (fun i hi => by have := r2.2 i hi; omega) ?_
      omega
    · rw [if_neg (by rw [decide_eq_true_eq]; exact hlt)]
      exact ⟨_, _, rfl, h, LeL.refl n L, by omega, fun e => ⟨rfl, e⟩, fun e => .inl e⟩
  obtain ⟨L1, u1, a1, a2, a3, a4, a5, a6⟩ := one L h hl u false 0 (by omega) rfl
  obtain ⟨L2, u2, c1, c2, c3, c4, c5, c6⟩ := one L1 a2 (by rw [a3.1, hl]) u1 true 1 (by omega) rfl
  refine ⟨L2, u2, ?_, c2, a3.trans c3, fun d => ?_, fun e => ?_, fun e => ?_⟩
  · rw [show ((0 : Nat) : Int) = 0 from rfl] at a1
    rw [loop_step a1, loop_step c1]
    apply loop_done
    simp only [f_foghornref21_Free.s4, f_foghornref21_Free.s4c]
    rw [if_neg (by simp)]
  · cases d with
    | false => have := c3.2 _ (nx_lt hc hs false); omega
    | true => have := a3.2 _ hs; omega
  · obtain ⟨e1, e2⟩ := c5 e
    obtain ⟨e3, e4⟩ := a5 e2
    exact ⟨e1.trans e3, e4⟩
  · have m1 := a3.sm
    have m2 := c3.sm
    rcases c6 e with e1 | e1
    · rcases a6 e1 with e2 | e2
      · exact .inl e2
      · right; omega
    · right; omega
theorem rfree_s3 {n a b : Nat} (hc : CodeOK n a b) {L : List Int} (h : Lst n a b 1000000 L) (hl : L.length = 2 ^ (n - 1)) :
    ∃ L' u, loop (f_foghornref21_Free.s3 (n : Int) (a : Int) (b : Int) (((2 ^ (n - 1) : Nat) : Int), 0)) (L, false, 1) = some (L', u) ∧ Lst n a b 1000000 L' ∧ LeL n L L' ∧ (∀ s : Nat, s < 2 ^ (n - 1) → s ≠ 0 → Edge n a b L L' s) ∧ (u = false → L' = L) ∧ (u = true → Sm n L' < Sm n L) := by
  have hp : 2 ^ (n - 1) ≤ 64 := by obtain ⟨q, p1, p2, q1, q2, _⟩ := hc.pq; omega
  have hp1 : 2 ≤ 2 ^ (n - 1) := by obtain ⟨q, p1, p2, q1, q2, _⟩ := hc.pq; omega
  have key : ∀ k s : Nat, s + k = 2 ^ (n - 1) → 1 ≤ s → ∀ L1 u1, Lst n a b 1000000 L1 → L1.length = 2 ^ (n - 1) → LeL n L L1 → (∀ r : Nat, r < s → r ≠ 0 → Edge n a b L L1 r) → (u1 = false → L1 = L) → (u1 = true → Sm n L1 < Sm n L) →
      ∃ L' u, loop (f_foghornref21_Free.s3 (n : Int) (a : Int) (b : Int) (((2 ^ (n - 1) : Nat) : Int), 0)) (L1, u1, (s : Int)) = some (L', u) ∧ Lst n a b 1000000 L' ∧ LeL n L L' ∧ (∀ r : Nat, r < 2 ^ (n - 1) → r ≠ 0 → Edge n a b L L' r) ∧ (u = false → L' = L) ∧ (u = true → Sm n L' < Sm n L) := by
    intro k
    induction k with
    | zero =>
      intro s hs h1 L1 u1 g1 g2 g3 g4 g5 g6
      obtain rfl : s = 2 ^ (n - 1) := by omega
      refine ⟨L1, u1, loop_done ?_, g1, g3, g4, g5, g6⟩
      simp only [f_foghornref21_Free.s3, f_foghornref21_Free.s3c]
      rw [if_neg (by simp)]
    | succ k ih =>
      intro s hs h1 L1 u1 g1 g2 g3 g4 g5 g6
      obtain ⟨L2, u2, e1, e2, e3, e4, e5, e6⟩ := rfree_s4 hc g1 g2 (s := s) (by omega) (by omega) u1
      obtain ⟨L', u', f1, f2, f3, f4, f5, f6⟩ := ih (s + 1) (by omega) (by omega) L2 u2 e2 (by rw [e3.1, g2]) (g3.trans e3) (fun r hr h0 => by
        by_cases hrs : r < s
        · exact (g4 r hrs h0).mono hc (by omega) (LeL.refl n L) e3
        · obtain rfl : r = s := by omega
          exact e4.mono hc (by omega) g3 (LeL.refl n L2)) (fun e => by obtain ⟨x1, x2⟩ := e5 e; exact x1.trans (g5 x2)) (fun e => by
        have m := e3.sm
        rcases e6 e with x | x
        · have := g6 x; omega
        · have := g3.sm; omega)
      refine ⟨L', u', ?_, f2, f3, f4, f5, f6⟩
      rw [← f1]
      apply loop_step
      simp only [f_foghornref21_Free.s3, f_foghornref21_Free.s3c]
      rw [if_pos (by rw [decide_eq_true_eq]; omega), e1]
      simp only [Option.bind_some]
      rw [w64 (by omega) (by omega)]; rfl
  exact key (2 ^ (n - 1) - 1) 1 (by omega) (by omega) L false h hl (LeL.refl n L) (fun r hr h0 => by omega) (fun _ => rfl) (fun e => by cases e)
theorem cnt_fix {n a b : Nat} (hc : CodeOK n a b) {L : List Int} (h0 : Cnt n a b 0 L) (he : ∀ s : Nat, s < 2 ^ (n - 1) → s ≠ 0 → Edge n a b L L s) : ∀ r, Cnt n a b r L
  | 0 => h0
  | r + 1 => (cnt_fix hc h0 he r).next hc (LeL.refl n L) he
theorem rfree_s2 {n a b : Nat} (hc : CodeOK n a b) : ∀ (M : Nat) (L : List Int), Sm n L < M → Lst n a b 1000000 L → L.length = 2 ^ (n - 1) → Cnt n a b 0 L →
    ∃ L', loop (f_foghornref21_Free.s2 (n : Int) (a : Int) (b : Int) (((2 ^ (n - 1) : Nat) : Int), 0)) (L, true) = some L' ∧ Lst n a b 1000000 L' ∧ Cnt n a b (2 ^ (n - 1)) L' := by
  intro M
  induction M with
  | zero => intro L h; omega
  | succ M ih =>
    intro L hM h hl h0
    obtain ⟨L2, u, e1, e2, e3, e4, e5, e6⟩ := rfree_s3 hc h hl
    have st : f_foghornref21_Free.s2 (n : Int) (a : Int) (b : Int) (((2 ^ (n - 1) : Nat) : Int), 0) (L, true) = some (.inl (L2, u)) := by
      simp only [f_foghornref21_Free.s2, f_foghornref21_Free.s2c]
      rw [if_pos trivial, e1]; rfl
    rw [loop_step st]
    cases u with
    | false =>
      have e := e5 rfl
      subst e
      refine ⟨L2, loop_done ?_, h, cnt_fix hc h0 e4 _⟩
      simp only [f_foghornref21_Free.s2, f_foghornref21_Free.s2c]
      rw [if_neg (by decide)]
    | true =>
      exact ih L2 (by have := e6 rfl; omega) e2 (by rw [e3.1, hl]) (h0.mono hc e3)
theorem rfree_s1 (P : Nat) (hP : P ≤ 64) (x : Int) : loop (f_foghornref21_Free.s1 ((P : Int), x)) (List.replicate P 0, 0) = some (List.replicate P 1000000) := by
  have := loop_for (f := f_foghornref21_Free.s1 ((P : Int), x)) P (fun t => List.replicate t 1000000 ++ List.replicate (P - t) 0) (List.replicate P 1000000) (fun t ht => ?_) ?_
  · rw [← this]; rfl
  · simp only [f_foghornref21_Free.s1, f_foghornref21_Free.s1c]
    rw [if_pos (by rw [decide_eq_true_eq]; omega), if_pos (by simp only [List.length_append, List.length_replicate]; omega), w64 (by omega) (by omega), Int.toNat_natCast, List.set_append_right _ _ (by simp only [List.length_replicate]; omega)]
    have e2 : List.replicate (P - t) (0 : Int) = 0 :: List.replicate (P - (t + 1)) 0 := by
      rw [← List.replicate_succ]; congr 1; omega
    rw [e2, List.replicate_succ', List.append_assoc]
    simp only [List.length_replicate, Nat.sub_self, List.set_cons_zero]
    rfl
  · simp only [f_foghornref21_Free.s1, f_foghornref21_Free.s1c]
    rw [if_neg (by simp), Nat.sub_self]; simp
theorem rfree_ok {n a b : Nat} (hc : CodeOK n a b) (hm : f_foghornref21_May (n : Int) (a : Int) (b : Int) = some true) : ∃ x : Nat, f_foghornref21_Free (n : Int) (a : Int) (b : Int) = some ((x : Int), 0) ∧ Least n a b x := by
  have hp : 2 ^ (n - 1) ≤ 64 := by obtain ⟨q, p1, p2, q1, q2, _⟩ := hc.pq; omega
  have hp1 : 2 ≤ 2 ^ (n - 1) := by obtain ⟨q, p1, p2, q1, q2, _⟩ := hc.pq; omega
  have hn := nx_lt hc (s := 0) (Nat.two_pow_pos _) true
  obtain ⟨s1, s2⟩ := lst_start hc (F := 1000000) (by decide) (Nat.le_refl _)
  obtain ⟨L', e1, e2, e3⟩ := rfree_s2 hc _ _ (Nat.lt_succ_self _) s1 (by rw [List.length_set, List.length_replicate]) s2
  have b0 := e2.bd 0 (Nat.two_pow_pos _)
  have hL := e2.len
  rw [show ((0 : Nat) : Int) = 0 from rfl] at b0
  refine ⟨(gt L' 0).toNat, ?_, least_of hc (by decide) e2 e3⟩
  unfold f_foghornref21_Free
  rw [rstates_ok hc hm]
  simp only [Option.bind_some]
  rw [if_neg (by simp), if_pos (by omega), Int.toNat_natCast, rfree_s1 _ hp]
  have hst := go_ok hc (s := 0) (Nat.two_pow_pos _) true
  rw [show ((0 : Nat) : Int) = 0 from rfl] at hst
  simp only [Option.bind_some]
  rw [hst]
  simp only [Option.bind_some]
  rw [count_ok]
  simp only [Option.bind_some, List.length_replicate]
  rw [if_pos (by omega), Int.toNat_natCast, show bn (ob n a 0 true) + bn (ob n b 0 true) = wt n a b 0 true from rfl]
  rw [show ((1000000 : Nat) : Int) = 1000000 from rfl] at e1
  rw [e1]
  simp only [Option.bind_some]
  rw [if_pos (by omega), Int.toNat_of_nonneg b0.1]
/-! ### Slips: division over the bits -/
theorem ixor32 {a b : Nat} (ha : a < 4294967296) (hb : b < 4294967296) : ixor .u32 (a : Int) (b : Int) = ((a ^^^ b : Nat) : Int) := by
  unfold ixor
  have hle : a ^^^ b < 2 ^ 32 := Nat.xor_lt_two_pow (by omega) (by omega)
  rw [BitVec.toNat_xor, show IntKind.u32.bits = 32 from rfl, ofInt_toNat, ofInt_toNat, Nat.mod_eq_of_lt (by omega), Nat.mod_eq_of_lt (by omega), w32 (by omega) (by omega)]
def tq (d : Nat) : Nat → Nat
  | 0 => 0
  | i + 1 => if d.testBit i then i else tq d i
theorem tq_tab : ∀ d : Nat, d < 128 → d ≠ 0 → tq d 32 = d.log2 := by decide +kernel
theorem log_tab : ∀ d : Nat, d < 128 → d.log2 < 7 ∧ d < 2 ^ (d.log2 + 1) := by decide +kernel
theorem top_ok {d : Nat} (hd : d < 128) (h0 : d ≠ 0) : f_foghornref21_top (d : Int) = some ((d.log2 : Nat) : Int) := by
  unfold f_foghornref21_top
  have := lst (f := f_foghornref21_top.s1 (d : Int)) 32 (fun i => (((tq d i : Nat) : Int), (i : Int))) ((tq d 32 : Nat) : Int) (fun i hi => ?_) ?_
  · rw [show (((tq d 0 : Nat) : Int), ((0 : Nat) : Int)) = ((0 : Int), (0 : Int)) from rfl] at this
    rw [this, tq_tab d hd h0]; rfl
  · simp only [f_foghornref21_top.s1, f_foghornref21_top.s1c]
    rw [if_pos (by rw [decide_eq_true_eq]; omega), if_pos (by omega), bit_one (x := d) (by omega) hi, w64 (by omega) (by omega)]
    cases h : d.testBit i with
    | false => rw [if_neg (by decide)]; simp [tq, h]
    | true => rw [if_pos rfl]; simp [tq, h]
  · simp only [f_foghornref21_top.s1, f_foghornref21_top.s1c]
    rw [if_neg (by simp)]
/-- a step of the division, at one place -/
def sd (d i q : Nat) : Nat := if d.log2 ≤ i && q.testBit i then q ^^^ (d <<< (i - d.log2)) else q
def rs (m d p : Nat) : Nat → Nat
  | 0 => p
  | j + 1 => sd d (m - 1 - j) (rs m d p j)
def R (d p : Nat) : Nat := rs 7 d p 7
theorem sd_lt {d i q : Nat} (hd : d < 128) (hq : q < 128) : sd d i q < 128 := by
  unfold sd
  split
  · rename_i h
    rw [Bool.and_eq_true, decide_eq_true_eq] at h
    have hi : i < 7 := by
      apply Nat.lt_of_not_le
      intro h7
      rw [Nat.testBit_lt_two_pow (Nat.lt_of_lt_of_le hq (Nat.pow_le_pow_right (by decide) h7 : 2 ^ 7 ≤ 2 ^ i))] at h
      exact absurd h.2 (by decide)
    have h2 := (log_tab d hd).2
    have h3 : d <<< (i - d.log2) < 2 ^ (i + 1) := by
      rw [Nat.shiftLeft_eq]
      have : d * 2 ^ (i - d.log2) < 2 ^ (d.log2 + 1) * 2 ^ (i - d.log2) := Nat.mul_lt_mul_of_pos_right h2 (Nat.two_pow_pos _)
      rw [← Nat.pow_add] at this
      rwa [show d.log2 + 1 + (i - d.log2) = i + 1 by omega] at this
    have h4 : 2 ^ (i + 1) ≤ 2 ^ 7 := Nat.pow_le_pow_right (by decide) (by omega)
    exact Nat.xor_lt_two_pow (n := 7) (by omega) (by omega)
  · exact hq
theorem rs_lt {m d p : Nat} (hd : d < 128) (hp : p < 128) : ∀ j, rs m d p j < 128
  | 0 => hp
  | j + 1 => sd_lt hd (rs_lt hd hp j)
theorem sd_high {d i q : Nat} (hi : 7 ≤ i) (hq : q < 128) : sd d i q = q := by
  unfold sd
  rw [Nat.testBit_lt_two_pow (Nat.lt_of_lt_of_le hq (Nat.pow_le_pow_right (by decide) hi : 2 ^ 7 ≤ 2 ^ i)), Bool.and_false, if_neg (by decide)]
theorem rs_high {d p : Nat} (hp : p < 128) : ∀ j, j ≤ 25 → rs 32 d p j = p
  | 0, _ => rfl
  | j + 1, h => by simp only [rs]; rw [rs_high hp j (by omega), sd_high (by omega) hp]
theorem rs_low {d p : Nat} (hp : p < 128) : ∀ j, j ≤ 7 → rs 32 d p (25 + j) = rs 7 d p j
  | 0, _ => rs_high hp 25 (Nat.le_refl _)
  | j + 1, h => by
    rw [show 25 + (j + 1) = 25 + j + 1 by omega]
    simp only [rs]
    rw [rs_low hp j (by omega)]
    congr 1; omega
theorem divides_ok {d p : Nat} (hd : d < 128) (h0 : d ≠ 0) (hp : p < 128) : f_foghornref21_divides (d : Int) (p : Int) = some (decide (R d p = 0)) := by
  unfold f_foghornref21_divides
  have hl := (log_tab d hd).1
  have := lst (f := f_foghornref21_divides.s1 (d : Int)) 32 (fun j => (((rs 32 d p j : Nat) : Int), 31 - (j : Int))) ((rs 32 d p 32 : Nat) : Int) (fun j hj => ?_) ?_
  · rw [show (((rs 32 d p 0 : Nat) : Int), 31 - ((0 : Nat) : Int)) = ((p : Int), (31 : Int)) from rfl] at this
    rw [this]
    simp only [Option.bind_some]
    rw [show (32 : Nat) = 25 + 7 from rfl, rs_low hp 7 (Nat.le_refl _)]
    congr 1
    rw [Bool.eq_iff_iff, beq_iff_eq, decide_eq_true_eq]
    unfold R; omega
  · simp only [f_foghornref21_divides.s1, f_foghornref21_divides.s1c]
    have hq := rs_lt (m := 32) hd hp j
    have ei : 31 - (j : Int) = ((32 - 1 - j : Nat) : Int) := by omega
    have ew : IntKind.i64.wrap (((32 - 1 - j : Nat) : Int) - 1) = 31 - ((j + 1 : Nat) : Int) := by rw [w64 (by omega) (by omega)]; omega
    rw [ei, if_pos (by rw [decide_eq_true_eq]; omega), top_ok hd h0]
    simp only [Option.bind_some]
    rw [bit_one (by omega) (by omega), ew]
    generalize hi : 32 - 1 - j = i at *
    simp only [rs, hi]
    generalize rs 32 d p j = q at *
    by_cases hc : d.log2 ≤ i
    · rw [if_pos (show decide (((d.log2 : Nat) : Int) ≤ (i : Int)) = true by rw [decide_eq_true_eq]; omega), if_pos (by omega)]
      cases ht : q.testBit i with
      | false =>
        simp only [Option.bind_some, Bool.false_eq_true, if_false]
        rw [show sd d i q = q by unfold sd; rw [ht, Bool.and_false, if_neg (by decide)]]
      | true =>
        have hi7 : i < 7 := by
          apply Nat.lt_of_not_le
          intro h7
          rw [Nat.testBit_lt_two_pow (Nat.lt_of_lt_of_le hq (Nat.pow_le_pow_right (by decide) h7 : 2 ^ 7 ≤ 2 ^ i))] at ht
          exact absurd ht (by decide)
        have h2 := (log_tab d hd).2
        have h4 : 2 ^ (i - d.log2) ≤ 2 ^ 7 := Nat.pow_le_pow_right (by decide) (by omega)
        have h5 : d * 2 ^ (i - d.log2) ≤ 127 * 2 ^ 7 := Nat.mul_le_mul (by omega) h4
        simp only [Option.bind_some, if_true]
        have ee : IntKind.i64.wrap ((i : Int) - ((d.log2 : Nat) : Int)) = ((i - d.log2 : Nat) : Int) := by rw [w64 (by omega) (by omega)]; omega
        rw [ee, if_pos (by omega), ishl32 (by omega) (by omega), ixor32 (by omega) (by omega)]
        rw [show sd d i q = q ^^^ (d * 2 ^ (i - d.log2)) by unfold sd; rw [ht, decide_eq_true hc, Bool.and_self, if_pos rfl, Nat.shiftLeft_eq]]
    · rw [if_neg (show ¬ decide (((d.log2 : Nat) : Int) ≤ (i : Int)) = true by rw [decide_eq_true_eq]; omega)]
      simp only [Option.bind_some, Bool.false_eq_true, if_false]
      rw [show sd d i q = q by unfold sd; rw [decide_eq_false hc, Bool.false_and, if_neg (by decide)]]
  · simp only [f_foghornref21_divides.s1, f_foghornref21_divides.s1c]
    rw [if_neg (by simp)]
theorem sd_xor (d i p q : Nat) : sd d i (p ^^^ q) = sd d i p ^^^ sd d i q := by
  unfold sd
  rw [Nat.testBit_xor]
  generalize d <<< (i - d.log2) = D
  cases decide (d.log2 ≤ i) <;> cases p.testBit i <;> cases q.testBit i <;> simp only [Bool.and_false, Bool.and_true, Bool.xor_false, Bool.xor_true, Bool.false_xor, Bool.true_xor, Bool.not_true, Bool.not_false, Bool.false_eq_true, if_true, if_false]
  · rw [Nat.xor_assoc]
  · rw [Nat.xor_assoc, Nat.xor_comm q D, ← Nat.xor_assoc]
  · rw [Nat.xor_assoc, ← Nat.xor_assoc D q D, Nat.xor_comm D q, Nat.xor_assoc q D D, Nat.xor_self, Nat.xor_zero]
theorem rs_xor (m d p q : Nat) : ∀ j, rs m d (p ^^^ q) j = rs m d p j ^^^ rs m d q j
  | 0 => rfl
  | j + 1 => by simp only [rs]; rw [rs_xor m d p q j, sd_xor]
theorem R_xor (d p q : Nat) : R d (p ^^^ q) = R d p ^^^ R d q := rs_xor 7 d p q 7
theorem R_twice : ∀ d : Nat, d < 128 → d ≠ 0 → ∀ b : Nat, b < 64 → R d b = 0 → R d (2 * b) = 0 := by decide +kernel
theorem R_self : ∀ d : Nat, d < 128 → d ≠ 0 → R d d = 0 := by decide +kernel
theorem R_zero : ∀ d : Nat, d < 128 → R d 0 = 0 := by decide +kernel
theorem R_pow0 : ∀ g : Nat, g < 128 → ∀ d : Nat, d < 128 → (g ≠ 0 ∧ (g &&& (g - 1)) = 0 ∧ d ≠ 0 ∧ R d g = 0 → (d &&& (d - 1)) = 0) := by decide +kernel
theorem R_pow (g : Nat) (hg : g < 128) (g0 : g ≠ 0) (h : (g &&& (g - 1)) = 0) (d : Nat) (hd : d < 128) (d0 : d ≠ 0) (hr : R d g = 0) : (d &&& (d - 1)) = 0 := R_pow0 g hg d hd ⟨g0, h, d0, hr⟩
theorem ones_tab : ∀ g : Nat, g < 128 → g ≠ 0 → ((f_math_bits_OnesCount32 (g : Int)).map fun k => decide (1 < k)) = some (!decide (g &&& (g - 1) = 0)) := by decide +kernel
theorem R_shift {d b : Nat} (hd : d < 128) (h0 : d ≠ 0) (hb : R d b = 0) : ∀ k, b * 2 ^ k < 128 → R d (b * 2 ^ k) = 0
  | 0, _ => by simpa using hb
  | k + 1, h => by
    have e : b * 2 ^ (k + 1) = 2 * (b * 2 ^ k) := by rw [Nat.pow_succ, ← Nat.mul_assoc, Nat.mul_comm]
    rw [e] at h ⊢
    exact R_twice d hd h0 _ (by omega) (R_shift hd h0 hb k (by omega))
def ln (m : Nat) : Nat := if m = 0 then 0 else m.log2 + 1
theorem ln_tab : ∀ m : Nat, m < 128 → f_math_bits_Len32 (m : Int) = some ((ln m : Nat) : Int) ∧ m < 2 ^ ln m ∧ ln m ≤ 7 := by decide +kernel
theorem ln_le : ∀ n : Nat, n < 8 → ∀ m : Nat, m < 128 → m < 2 ^ n → ln m ≤ n := by decide +kernel
theorem cut_tab : ∀ a : Nat, a < 128 → ∀ b : Nat, b < 128 → b ≠ 0 → ln b ≤ ln a → b * 2 ^ (ln a - ln b) < 128 ∧ a ^^^ (b * 2 ^ (ln a - ln b)) < 128 ∧ ln (a ^^^ (b * 2 ^ (ln a - ln b))) < ln a := by decide +kernel
def Com (a b a' b' : Nat) : Prop := ∀ d, d < 128 → d ≠ 0 → ((R d a = 0 ∧ R d b = 0) ↔ (R d a' = 0 ∧ R d b' = 0))
theorem slip_in {n b : Nat} (h7 : n < 8) (hb : b < 128) (hb0 : b ≠ 0) : ∀ (M a : Nat), ln a < M → a < 128 → a < 2 ^ n →
    ∃ r : Nat, loop (f_trellis_Code_Slips.s2 (b : Int)) (a : Int) = some (r : Int) ∧ r < 128 ∧ r < 2 ^ n ∧ ln r < ln b ∧ Com a b r b := by
  intro M
  induction M with
  | zero => intro a h; omega
  | succ M ih =>
    intro a hM ha han
    obtain ⟨l1, l2, l3⟩ := ln_tab a ha
    obtain ⟨k1, k2, k3⟩ := ln_tab b hb
    by_cases hc : ln b ≤ ln a
    · obtain ⟨c1, c2, c3⟩ := cut_tab a ha b hb hb0 hc
      have hn : a ^^^ (b * 2 ^ (ln a - ln b)) < 2 ^ n := by
        have x1 := (ln_tab _ c2).2.1
        have x2 := ln_le n h7 a ha han
        exact Nat.lt_of_lt_of_le x1 (Nat.pow_le_pow_right (by decide) (by omega))
      obtain ⟨r, r1, r2, r3, r4, r5⟩ := ih _ (by omega) c2 hn
      refine ⟨r, (loop_step ?_).trans r1, r2, r3, r4, fun d hd h0 => ?_⟩
      · simp only [f_trellis_Code_Slips.s2, f_trellis_Code_Slips.s2c]
        rw [l1, k1]
        simp only [Option.bind_some]
        have ee : IntKind.i64.wrap (((ln a : Nat) : Int) - ((ln b : Nat) : Int)) = ((ln a - ln b : Nat) : Int) := by rw [w64 (by omega) (by omega)]; omega
        rw [if_pos (by rw [decide_eq_true_eq]; omega), ee, if_pos (by omega), ishl32 (by omega) (by omega), ixor32 (by omega) (by omega)]
      · rw [← r5 d hd h0]
        constructor
        · rintro ⟨x, y⟩
          exact ⟨by rw [R_xor, x, R_shift hd h0 y _ c1]; rfl, y⟩
        · rintro ⟨x, y⟩
          rw [R_xor, R_shift hd h0 y _ c1, Nat.xor_zero] at x
          exact ⟨x, y⟩
    · refine ⟨a, loop_done ?_, ha, han, by omega, fun d hd h0 => Iff.rfl⟩
      simp only [f_trellis_Code_Slips.s2, f_trellis_Code_Slips.s2c]
      rw [l1, k1]
      simp only [Option.bind_some]
      rw [if_neg (by rw [decide_eq_true_eq]; omega)]
theorem slip_out {n : Nat} (h7 : n < 8) : ∀ (M a b : Nat), ln b < M → a < 128 → b < 128 → a < 2 ^ n → b < 2 ^ n → (a ≠ 0 ∨ b ≠ 0) →
    ∃ g : Nat, loop f_trellis_Code_Slips.s1 ((a : Int), (b : Int)) = some (g : Int) ∧ g < 128 ∧ g < 2 ^ n ∧ g ≠ 0 ∧ Com a b g 0 := by
  intro M
  induction M with
  | zero => intro a b h; omega
  | succ M ih =>
    intro a b hM ha hb han hbn hab
    by_cases hb0 : b = 0
    · subst hb0
      refine ⟨a, loop_done ?_, ha, han, by omega, fun d hd h0 => Iff.rfl⟩
      simp only [f_trellis_Code_Slips.s1, f_trellis_Code_Slips.s1c]
      rw [if_neg (by simp)]
    · obtain ⟨r, r1, r2, r3, r4, r5⟩ := slip_in h7 hb hb0 _ a (Nat.lt_succ_self _) ha han
      obtain ⟨g, g1, g2, g3, g4, g5⟩ := ih b r (by omega) hb r2 hbn r3 (.inl hb0)
      refine ⟨g, (loop_step ?_).trans g1, g2, g3, g4, fun d hd h0 => ?_⟩
      · simp only [f_trellis_Code_Slips.s1, f_trellis_Code_Slips.s1c]
        rw [if_pos (by rw [decide_eq_true_eq]; omega), r1]; rfl
      · rw [r5 d hd h0, And.comm]; exact g5 d hd h0
def Sl (n a b : Nat) : Prop := ∃ d, 2 ≤ d ∧ d < 2 ^ n ∧ ¬ d &&& (d - 1) = 0 ∧ R d a = 0 ∧ R d b = 0
theorem slips_ok {n a b : Nat} (hc : CodeOK n a b) : ∃ v : Bool, f_trellis_Code_Slips (n : Int) (a : Int) (b : Int) = some (v, 0) ∧ (v = true ↔ Sl n a b) := by
  have h1 := hc.n2; have h2 := hc.n7; have h3 := hc.an; have h4 := hc.bn; have h5 := hc.a1
  have hp : 2 ^ n ≤ 128 := by obtain ⟨q, p1, p2, q1, q2, _⟩ := hc.pq; omega
  obtain ⟨g, g1, g2, g3, g4, g5⟩ := slip_out (n := n) (by omega) _ a b (Nat.lt_succ_self _) (by omega) (by omega) h3 h4 (.inl (by omega))
  have ht := ones_tab g g2 g4
  refine ⟨!decide (g &&& (g - 1) = 0), ?_, ?_⟩
  · unfold f_trellis_Code_Slips
    rw [check_ok hc]
    simp only [Option.bind_some]
    rw [if_neg (by decide), g1]
    simp only [Option.bind_some]
    cases hk : f_math_bits_OnesCount32 (g : Int) with
    | none => rw [hk] at ht; cases ht
    | some k =>
      rw [hk] at ht
      simp only [Option.map_some, Option.some.injEq] at ht
      simp only [Option.bind_some]
      rw [ht]
  · rw [Bool.not_eq_true', decide_eq_false_iff_not]
    constructor
    · intro hg
      have hg2 : 2 ≤ g := by
        apply Nat.le_of_not_lt
        intro hl
        have : g = 1 := by omega
        subst this
        exact hg (by decide)
      have := (g5 g g2 g4).2 ⟨R_self g g2 g4, R_zero g g2⟩
      exact ⟨g, hg2, g3, hg, this.1, this.2⟩
    · rintro ⟨d, d1, d2, d3, d4, d5⟩ hg
      have := (g5 d (by omega) (by omega)).1 ⟨d4, d5⟩
      exact d3 (R_pow g g2 g4 hg d (by omega) (by omega) this.1)
theorem rslips_ok {n a b : Nat} (hc : CodeOK n a b) (hm : f_foghornref21_May (n : Int) (a : Int) (b : Int) = some true) : ∃ v : Bool, f_foghornref21_Slips (n : Int) (a : Int) (b : Int) = some (v, 0) ∧ (v = true ↔ Sl n a b) := by
  have h1 := hc.n2; have h2 := hc.n7; have h3 := hc.an; have h4 := hc.bn
  have hp : 2 ^ n ≤ 128 := by obtain ⟨q, p1, p2, q1, q2, _⟩ := hc.pq; omega
  have hp2 : 4 ≤ 2 ^ n := by obtain ⟨q, p1, p2, q1, q2, _⟩ := hc.pq; omega
  obtain ⟨r, r1, r2⟩ := loop_inv (f := f_foghornref21_Slips.s1 (n : Int) (a : Int) (b : Int)) (fun d : Int => 2 ≤ d ∧ d ≤ ((2 ^ n : Nat) : Int) ∧ ∀ e : Nat, 2 ≤ e → (e : Int) < d → ¬ (¬ e &&& (e - 1) = 0 ∧ R e a = 0 ∧ R e b = 0)) (fun d => 2 ^ n - d.toNat)
    (fun r => (r = .inr (true, 0) ∧ Sl n a b) ∨ (r = .inl () ∧ ¬ Sl n a b)) (by
    intro d ⟨d1, d2, d3⟩
    obtain ⟨e, rfl⟩ : ∃ e : Nat, d = (e : Int) := ⟨d.toNat, by omega⟩
    simp only [f_foghornref21_Slips.s1, f_foghornref21_Slips.s1c]
    rw [if_pos (by omega), sh1 h2]
    by_cases hlt : e < 2 ^ n
    · rw [if_pos (by rw [decide_eq_true_eq]; omega)]
      have e1 : IntKind.u32.wrap ((e : Int) - 1) = ((e - 1 : Nat) : Int) := by rw [w32 (by omega) (by omega)]; omega
      have e2 : IntKind.u32.wrap ((e : Int) + 1) = ((e + 1 : Nat) : Int) := by rw [w32 (by omega) (by omega)]; rfl
      have e3 : (((e &&& (e - 1) : Nat) : Int) == (0 : Int)) = decide (e &&& (e - 1) = 0) := by
        rw [Bool.eq_iff_iff, beq_iff_eq, decide_eq_true_eq]; omega
      rw [e1, iand32 (by omega) (by omega), e3, divides_ok (by omega) (by omega) (by omega), divides_ok (by omega) (by omega) (by omega), e2]
      have nxt : ¬ (¬ e &&& (e - 1) = 0 ∧ R e a = 0 ∧ R e b = 0) → 2 ≤ ((e + 1 : Nat) : Int) ∧ ((e + 1 : Nat) : Int) ≤ ((2 ^ n : Nat) : Int) ∧ ∀ e' : Nat, 2 ≤ e' → (e' : Int) < ((e + 1 : Nat) : Int) → ¬ (¬ e' &&& (e' - 1) = 0 ∧ R e' a = 0 ∧ R e' b = 0) := fun hno => ⟨by omega, by omega, fun e' x1 x2 => by
        by_cases he : e' = e
        · subst he; exact hno
        · exact d3 e' x1 (by omega)⟩
      by_cases c1 : e &&& (e - 1) = 0
      · simp only [decide_eq_true c1, Bool.not_true, Bool.false_eq_true, if_false, Option.bind_some]
        exact .inl ⟨_, rfl, nxt (fun h => h.1 c1), by omega⟩
      · simp only [decide_eq_false c1, Bool.not_false, if_true, Option.bind_some]
        by_cases c2 : R e a = 0
        · simp only [decide_eq_true c2, if_true, Option.bind_some]
          by_cases c3 : R e b = 0
          · simp only [decide_eq_true c3, if_true]
            exact .inr ⟨_, rfl, .inl ⟨rfl, e, by omega, hlt, c1, c2, c3⟩⟩
          · simp only [decide_eq_false c3, Bool.false_eq_true, if_false]
            exact .inl ⟨_, rfl, nxt (fun h => c3 h.2.2), by omega⟩
        · simp only [decide_eq_false c2, Bool.false_eq_true, if_false, Option.bind_some]
          exact .inl ⟨_, rfl, nxt (fun h => c2 h.2.1), by omega⟩
    · rw [if_neg (by rw [decide_eq_true_eq]; omega)]
      refine .inr ⟨_, rfl, .inr ⟨rfl, ?_⟩⟩
      rintro ⟨e', x1, x2, x3⟩
      exact d3 e' x1 (by omega) x3) 2 ⟨by omega, by omega, fun e x1 x2 => by omega⟩
  unfold f_foghornref21_Slips
  rw [hm]
  simp only [Option.bind_some, Bool.not_true, Bool.false_eq_true, if_false]
  rw [r1]
  rcases r2 with ⟨rfl, hs⟩ | ⟨rfl, hs⟩
  · exact ⟨true, rfl, by simp [hs]⟩
  · exact ⟨false, rfl, by simp [hs]⟩
/-! ### The law -/
theorem own_ok (L o t : Int) : f_foghornlaw21_own L o t = some (L, o, t) := rfl
theorem both_step {n a b : Nat} (hc : CodeOK n a b) (hm : f_foghornref21_May (n : Int) (a : Int) (b : Int) = some true) (s : Int) (c : Bool) :
    ∃ x y, f_trellis_Code_Step (n : Int) (a : Int) (b : Int) s c = some x ∧ f_foghornref21_Step (n : Int) (a : Int) (b : Int) s c = some x ∧ f_trellis_Code_From (n : Int) (a : Int) (b : Int) s = some y ∧ f_foghornref21_From (n : Int) (a : Int) (b : Int) s = some y := by
  by_cases hs : 0 ≤ s ∧ s < ((2 ^ (n - 1) : Nat) : Int)
  · obtain ⟨k, rfl⟩ : ∃ k : Nat, s = (k : Int) := ⟨s.toNat, by omega⟩
    have hk : k < 2 ^ (n - 1) := by omega
    obtain ⟨q, p1, _⟩ := hc.pq
    refine ⟨_, _, Step_ok hc hk c, ?_, from_ok hc hk p1, rfrom_ok hc hm hk p1⟩
    unfold f_foghornref21_Step
    rw [rstates_ok hc hm]
    simp only [Option.bind_some]
    rw [if_neg (by simp only [Bool.or_eq_true, bne_iff_ne, decide_eq_true_eq]; omega), go_ok hc hk c]
    rfl
  · refine ⟨(0, false, false, 1), ((0, 0), 1), ?_, ?_, ?_, ?_⟩
    · unfold f_trellis_Code_Step f_trellis_Code_state
      rw [states_ok hc]
      simp only [Option.bind_some]
      rw [if_pos (by simp only [Bool.or_eq_true, bne_iff_ne, decide_eq_true_eq]; omega)]; rfl
    · unfold f_foghornref21_Step
      rw [rstates_ok hc hm]
      simp only [Option.bind_some]
      rw [if_pos (by simp only [Bool.or_eq_true, bne_iff_ne, decide_eq_true_eq]; omega)]
    · unfold f_trellis_Code_From f_trellis_Code_state
      rw [states_ok hc]
      simp only [Option.bind_some]
      rw [if_pos (by simp only [Bool.or_eq_true, bne_iff_ne, decide_eq_true_eq]; omega)]; rfl
    · unfold f_foghornref21_From
      rw [rstates_ok hc hm]
      simp only [Option.bind_some]
      rw [if_pos (by simp only [Bool.or_eq_true, bne_iff_ne, decide_eq_true_eq]; omega)]
theorem steps_true (L : Int) (w0 : (Lit.int .i64 L).wf = true) (o : Int) (w1 : (Lit.int .u32 o).wf = true) (t : Int) (w2 : (Lit.int .u32 t).wf = true) (s : Int) (w3 : (Lit.int .i64 s).wf = true) (c : Bool) :
    f_foghornlaw21_TrellisSteps L o t s c = some true := by
  unfold f_foghornlaw21_TrellisSteps
  simp only [own_ok, Option.bind_some]
  rcases code_dich w0 w1 w2 with ⟨n, a, b, rfl, rfl, rfl, hc, hm⟩ | ⟨hk, hm⟩
  · obtain ⟨x, y, x1, x2, x3, x4⟩ := both_step hc hm s c
    obtain ⟨w, v1, v2⟩ := free_ok hc
    obtain ⟨w', v3, v4⟩ := rfree_ok hc hm
    obtain rfl := v2.uniq v4
    obtain ⟨k, k1, k2⟩ := slips_ok hc
    obtain ⟨k', k3, k4⟩ := rslips_ok hc hm
    have ek : k = k' := by rw [Bool.eq_iff_iff, k2, k4]
    subst ek
    rw [x1, x2, x3, x4, v1, v3, k1, k3, states_ok hc, rstates_ok hc hm, check_ok hc]
    simp only [Option.bind_some, bne_self_eq_false, Bool.or_self, Bool.false_eq_true, if_false, beq_self_eq_true, Bool.and_self, Bool.not_true, if_true, awake_true]
  · have e1 : f_trellis_Code_States L o t = some (0, 1) := by unfold f_trellis_Code_States; rw [hk]; rfl
    have e2 : f_foghornref21_States L o t = some (0, 1) := by unfold f_foghornref21_States; rw [hm]; rfl
    have e3 : f_trellis_Code_state L o t s = some 1 := by unfold f_trellis_Code_state; rw [e1]; rfl
    have e4 : f_trellis_Code_Step L o t s c = some (0, false, false, 1) := by unfold f_trellis_Code_Step; rw [e3]; rfl
    have e5 : f_foghornref21_Step L o t s c = some (0, false, false, 1) := by unfold f_foghornref21_Step; rw [e2]; rfl
    have e6 : f_trellis_Code_From L o t s = some ((0, 0), 1) := by unfold f_trellis_Code_From; rw [e3]; rfl
    have e7 : f_foghornref21_From L o t s = some ((0, 0), 1) := by unfold f_foghornref21_From; rw [e2]; rfl
    have e8 : f_trellis_Code_Free L o t = some (0, 1) := by unfold f_trellis_Code_Free; rw [e1]; rfl
    have e9 : f_foghornref21_Free L o t = some (0, 1) := by unfold f_foghornref21_Free; rw [e2]; rfl
    have e10 : f_trellis_Code_Slips L o t = some (false, 1) := by unfold f_trellis_Code_Slips; rw [hk]; rfl
    have e11 : f_foghornref21_Slips L o t = some (false, 1) := by unfold f_foghornref21_Slips; rw [hm]; rfl
    rw [e1, e2, e4, e5, e6, e7, e8, e9, e10, e11, hk]
    simp only [Option.bind_some, bne_self_eq_false, Bool.or_self, Bool.false_eq_true, if_false, beq_self_eq_true, Bool.and_self, Bool.not_true, if_true, awake_true]

end Go.Proofs.Ytilodendgbjelaa
