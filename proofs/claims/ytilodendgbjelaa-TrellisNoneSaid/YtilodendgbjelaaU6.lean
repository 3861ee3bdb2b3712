/- TrellisNone: the plain law. -/
import Derived.Test.YtilodendgbjelaaG6
import Derived.Test.YtilodendgbjelaaGlW
set_option linter.unusedVariables false
set_option linter.unusedSimpArgs false
set_option maxRecDepth 8000
namespace Go.Proofs.Ytilodendgbjelaa
open GL

/-! ### Codes -/
structure CodeOK (n a b : Nat) : Prop where
  n2 : 2 ≤ n
  n7 : n ≤ 7
  a1 : 1 ≤ a
  b1 : 1 ≤ b
  an : a < 2 ^ n
  bn : b < 2 ^ n
  top : 2 ^ (n - 1) ≤ max a b
theorem CodeOK.pq {n a b : Nat} (h : CodeOK n a b) : ∃ q, 2 ^ (n - 1) = 2 * q ∧ 2 ^ n = 4 * q ∧ 1 ≤ q ∧ q ≤ 32 ∧ q = 2 ^ (n - 2) := by
  have h1 := h.n2
  have h2 := h.n7
  have : n = 2 ∨ n = 3 ∨ n = 4 ∨ n = 5 ∨ n = 6 ∨ n = 7 := by omega
  rcases this with rfl | rfl | rfl | rfl | rfl | rfl <;> exact ⟨_, rfl, rfl, by decide, by decide, rfl⟩
theorem len_tab0 : ∀ n : Nat, n < 8 → ∀ m : Nat, m < 128 → (decide (1 ≤ n ∧ 2 ^ (n - 1) ≤ m ∧ m < 2 ^ n) → (f_math_bits_Len32 (m : Int) == some (n : Int)) = true) := by decide +kernel
theorem len_tab (n : Nat) (hn : n < 8) (m : Nat) (hm : m < 128) (h1 : 1 ≤ n) (h2 : 2 ^ (n - 1) ≤ m) (h3 : m < 2 ^ n) : f_math_bits_Len32 (m : Int) = some (n : Int) :=
  eq_of_beq (len_tab0 n hn m hm (by simp [h1, h2, h3]))
theorem check_ok {n a b : Nat} (h : CodeOK n a b) : f_trellis_Code_Check (n : Int) (a : Int) (b : Int) = some 0 := by
  obtain ⟨q, p1, p2, q1, q2, _⟩ := h.pq
  have h1 := h.n2; have h2 := h.n7; have h3 := h.a1; have h4 := h.b1; have h5 := h.an; have h6 := h.bn; have h7 := h.top
  unfold f_trellis_Code_Check
  rw [imin_nat, imax_nat, if_neg (by simp; omega), len_tab n (by omega) (max a b) (by omega) (by omega) h7 (by omega)]
  simp
/-- parity of seven bits -/
def par (x : Nat) : Bool := (List.range 7).foldl (fun c i => c != x.testBit i) false
def al (n s : Nat) (b : Bool) : Nat := s + if b then 2 ^ (n - 1) else 0
def nx (n s : Nat) (b : Bool) : Nat := al n s b / 2
def ob (n a s : Nat) (b : Bool) : Bool := par (al n s b &&& a)
theorem al_lt {n a b : Nat} (h : CodeOK n a b) {s : Nat} (hs : s < 2 ^ (n - 1)) (c : Bool) : al n s c < 2 ^ n := by
  obtain ⟨q, p1, p2, q1, q2, _⟩ := h.pq
  unfold al; rw [p2]; split <;> omega
theorem nx_lt {n a b : Nat} (h : CodeOK n a b) {s : Nat} (hs : s < 2 ^ (n - 1)) (c : Bool) : nx n s c < 2 ^ (n - 1) := by
  have := al_lt h hs c
  obtain ⟨q, p1, p2, q1, q2, _⟩ := h.pq
  unfold nx; rw [p1]; rw [p2] at this; omega
def bitAt (l : List Bool) (i : Nat) : Bool := if i < l.length then gt l (i : Int) else false
def st (n : Nat) (l : List Bool) : Nat → Nat
  | 0 => 0
  | i + 1 => nx n (st n l i) (bitAt l i)
theorem st_lt {n a b : Nat} (h : CodeOK n a b) (l : List Bool) : ∀ i, st n l i < 2 ^ (n - 1)
  | 0 => by obtain ⟨q, p1, _, q1, _⟩ := h.pq; rw [p1]; simp only [st]; omega
  | i + 1 => nx_lt h (st_lt h l i) _
theorem st_down (n : Nat) (l : List Bool) : ∀ k, st n l (l.length + k) * 2 ^ k ≤ st n l l.length
  | 0 => by simp
  | k + 1 => by
    have ih := st_down n l k
    have : st n l (l.length + (k + 1)) = st n l (l.length + k) / 2 := by
      show nx n (st n l (l.length + k)) (bitAt l (l.length + k)) = _
      have : bitAt l (l.length + k) = false := by unfold bitAt; rw [if_neg (by omega)]
      rw [this]; simp [nx, al]
    rw [this, Nat.pow_succ, Nat.mul_comm (2 ^ k) 2, ← Nat.mul_assoc]
    exact Nat.le_trans (Nat.mul_le_mul_right _ (Nat.div_mul_le_self _ 2)) ih
theorem st_end {n a b : Nat} (h : CodeOK n a b) (l : List Bool) : st n l (l.length + (n - 1)) = 0 := by
  have h1 := st_down n l (n - 1)
  have h2 := st_lt h l l.length
  rcases Nat.eq_zero_or_pos (st n l (l.length + (n - 1))) with h0 | h0
  · exact h0
  · have := Nat.mul_le_mul_right (2 ^ (n - 1)) h0
    simp only [Nat.one_mul, Nat.succ_eq_add_one, Nat.zero_add] at this
    omega
theorem bit_read {l : List Bool} (i : Nat) : (if (decide ((i : Int) < (l.length : Int))) = true then (if 0 ≤ (i : Int) ∧ (i : Int) < (l.length : Int) then (some (gt l (i : Int))) else none) else (some false)) = some (bitAt l i) := by
  unfold bitAt
  by_cases h : i < l.length
  · rw [if_pos (by simpa using h), if_pos (by omega), if_pos h]
  · rw [if_neg (by simpa using h), if_neg h]
theorem bitAt_big {l : List Bool} {i : Nat} (h : l.length ≤ i) : bitAt l i = false := by unfold bitAt; rw [if_neg (by omega)]
theorem bitAt_lt {l : List Bool} {i : Nat} (h : i < l.length) : bitAt l i = gt l (i : Int) := by unfold bitAt; rw [if_pos h]
/-! ### The program's steps -/
theorem oc_tab : ∀ x, x < 128 → (f_trellis_Code_step_1 ((x : Nat) : Int) == some (par x)) = true := by decide +kernel
theorem oc_some {x : Nat} (h : x < 128) : f_trellis_Code_step_1 (x : Int) = some (par x) := eq_of_beq (oc_tab x h)
theorem step_ok {n a b : Nat} (h : CodeOK n a b) {s : Nat} (hs : s < 2 ^ (n - 1)) (c : Bool) :
    f_trellis_Code_step (n : Int) (a : Int) (b : Int) (s : Int) c = some (((nx n s c : Nat) : Int), ob n a s c, ob n b s c) := by
  have hal := al_lt h hs c
  obtain ⟨q, p1, p2, q1, q2, _⟩ := h.pq
  have h1 := h.n2; have h2 := h.n7; have h3 := h.a1; have h4 := h.b1; have h5 := h.an; have h6 := h.bn
  have j : f_trellis_Code_step.j1 (a : Int) (b : Int) ((al n s c : Nat) : Int) = some (((nx n s c : Nat) : Int), ob n a s c, ob n b s c) := by
    have e1 : al n s c &&& a ≤ al n s c := Nat.and_le_left
    have e2 : al n s c &&& b ≤ al n s c := Nat.and_le_left
    have hx : al n s c / 2 = nx n s c := rfl
    unfold f_trellis_Code_step.j1
    rw [iand32 (by omega) (by omega), iand32 (by omega) (by omega), oc_some (by omega), oc_some (by omega)]
    simp only [Option.bind_some]
    rw [show ((1 : Int)) = ((1 : Nat) : Int) from rfl, ishr_nat (by decide), show al n s c / 2 ^ 1 = nx n s c from hx, w64 (by omega) (by omega)]
    rfl
  unfold f_trellis_Code_step
  cases c with
  | false =>
    rw [if_neg (by simp), w32 (by omega) (by omega)]
    exact j
  | true =>
    have e1 : al n s true = s ||| 2 ^ (n - 1) := by
      have := Nat.two_pow_add_eq_or_of_lt hs 1
      simp only [al, if_true]
      rw [Nat.or_comm, Nat.add_comm]; simpa using this
    rw [if_pos rfl, w64 (by omega) (by omega), if_pos (by omega), w32 (by omega) (by omega), show (n : Int) - 1 = ((n - 1 : Nat) : Int) by omega, show ((1 : Int)) = ((1 : Nat) : Int) from rfl, ishl32 (by omega) (by omega), Nat.one_mul, ior32 (by omega) (by omega), ← e1]
    exact j
def enc (n a b : Nat) (l : List Bool) : Nat → List Bool
  | 0 => []
  | i + 1 => enc n a b l i ++ [ob n a (st n l i) (bitAt l i), ob n b (st n l i) (bitAt l i)]
theorem enc_len (n a b : Nat) (l : List Bool) : ∀ i, (enc n a b l i).length = 2 * i
  | 0 => rfl
  | i + 1 => by simp only [enc, List.length_append, enc_len n a b l i, List.length_cons, List.length_nil]; omega
theorem enc_get (n a b : Nat) (l : List Bool) : ∀ i j, j < i → gt (enc n a b l i) ((2 * j : Nat) : Int) = ob n a (st n l j) (bitAt l j) ∧ gt (enc n a b l i) ((2 * j + 1 : Nat) : Int) = ob n b (st n l j) (bitAt l j)
  | 0, j, h => by omega
  | i + 1, j, h => by
    have hl := enc_len n a b l i
    simp only [enc]
    by_cases hj : j < i
    · obtain ⟨h1, h2⟩ := enc_get n a b l i j hj
      constructor
      · rw [← h1, gt_nat (by simp only [List.length_append, hl, List.length_cons, List.length_nil]; omega), gt_nat (by omega), List.getElem_append_left (by omega)]
      · rw [← h2, gt_nat (by simp only [List.length_append, hl, List.length_cons, List.length_nil]; omega), gt_nat (by omega), List.getElem_append_left (by omega)]
    · obtain rfl : j = i := by omega
      rw [gt_nat (by simp only [List.length_append, hl, List.length_cons, List.length_nil]; omega), gt_nat (by simp only [List.length_append, hl, List.length_cons, List.length_nil]; omega), List.getElem_append_right (by omega), List.getElem_append_right (by omega)]
      simp only [hl, Nat.sub_self, show 2 * j + 1 - 2 * j = 1 by omega]
      exact ⟨rfl, rfl⟩
theorem through_enc {n a b : Nat} (h : CodeOK n a b) (l : List Bool) (hl : l.length + n - 1 ≤ 16384) :
    f_trellis_Code_through (n : Int) (a : Int) (b : Int) l (n : Int) (a : Int) (b : Int) [] = some (0, enc n a b l (l.length + n - 1)) := by
  have h1 := h.n2; have h2 := h.n7
  have key : ∀ k i : Nat, i + k = l.length + n - 1 → loop (f_trellis_Code_through.s1 (n : Int) l (n : Int) (a : Int) (b : Int)) (enc n a b l i, ((st n l i : Nat) : Int), (i : Int)) = some (enc n a b l (l.length + n - 1)) := by
    intro k
    induction k with
    | zero =>
      intro i hi
      obtain rfl : i = l.length + n - 1 := by omega
      apply loop_done
      simp only [f_trellis_Code_through.s1, f_trellis_Code_through.s1c]
      rw [w64 (x := (l.length : Int) + (n : Int)) (by omega) (by omega), w64 (by omega) (by omega), if_neg (by simp; omega)]
    | succ k ih =>
      intro i hi
      rw [← ih (i + 1) (by omega)]
      apply loop_step
      simp only [f_trellis_Code_through.s1, f_trellis_Code_through.s1c]
      rw [w64 (x := (l.length : Int) + (n : Int)) (by omega) (by omega), w64 (x := (l.length : Int) + (n : Int) - 1) (by omega) (by omega), if_pos (by simp; omega), bit_read]
      simp only [Option.bind_some]
      rw [step_ok h (st_lt h l i)]
      simp only [Option.bind_some, f_trellis_Code_Encode_1]
      rw [if_pos (by rw [enc_len]; simp; omega), w64 (by omega) (by omega)]
      rfl
  unfold f_trellis_Code_through
  rw [check_ok h]
  simp only [Option.bind_some]
  rw [if_neg (by simp), w64 (x := (l.length : Int) + (n : Int)) (by omega) (by omega), w64 (x := (l.length : Int) + (n : Int) - 1) (by omega) (by omega), if_neg (by simp; omega)]
  have := key (l.length + n - 1) 0 (by omega)
  rw [show enc n a b l 0 = [] from rfl, show ((st n l 0 : Nat) : Int) = 0 from rfl, show ((0 : Nat) : Int) = 0 from rfl] at this
  rw [this]
  rfl
theorem encode_ok {n a b : Nat} (h : CodeOK n a b) (l : List Bool) (hl : l.length + n - 1 ≤ 16384) :
    f_trellis_Code_Encode (n : Int) (a : Int) (b : Int) l = some (enc n a b l (l.length + n - 1), 0) := by
  unfold f_trellis_Code_Encode
  rw [through_enc h l hl]
  rfl
/-! ### Sums over places -/
def fs (f : Nat → Nat) : Nat → Nat
  | 0 => 0
  | m + 1 => fs f m + f m
theorem fs_add (f : Nat → Nat) (i : Nat) : ∀ k, fs f (i + k) = fs f i + fs (fun t => f (i + t)) k
  | 0 => by simp [fs]
  | k + 1 => by rw [← Nat.add_assoc]; simp only [fs]; rw [fs_add f i k]; omega
theorem fs_congr {f g : Nat → Nat} : ∀ {m}, (∀ i, i < m → f i = g i) → fs f m = fs g m
  | 0, _ => rfl
  | m + 1, h => by simp only [fs]; rw [fs_congr fun i hi => h i (by omega), h m (by omega)]
theorem fs_le {f g : Nat → Nat} : ∀ {m}, (∀ i, i < m → f i ≤ g i) → fs f m ≤ fs g m
  | 0, _ => Nat.le_refl _
  | m + 1, h => by have := fs_le (f := f) (g := g) (m := m) fun i hi => h i (by omega); have := h m (by omega); simp only [fs]; omega
theorem fs_plus (f g : Nat → Nat) : ∀ m, fs (fun i => f i + g i) m = fs f m + fs g m
  | 0 => rfl
  | m + 1 => by simp only [fs]; rw [fs_plus f g m]; omega
theorem fs_zero : ∀ m, fs (fun _ => 0) m = 0
  | 0 => rfl
  | m + 1 => by simp only [fs]; rw [fs_zero m]
theorem fs_upd {f g : Nat → Nat} {p : Nat} : ∀ {m}, p < m → (∀ i, i < m → i ≠ p → g i = f i) → fs g m + f p = fs f m + g p
  | 0, h, _ => by omega
  | m + 1, h, hg => by
    simp only [fs]
    by_cases hp : p = m
    · subst hp
      rw [fs_congr (m := p) fun i hi => hg i (by omega) (by omega)]; omega
    · have := fs_upd (m := m) (by omega) fun i hi hn => hg i (by omega) hn
      have := hg m (by omega) (by omega)
      omega
theorem fs_mono (f : Nat → Nat) {i j : Nat} (h : i ≤ j) : fs f i ≤ fs f j := by
  obtain ⟨k, rfl⟩ := Nat.exists_eq_add_of_le h
  rw [fs_add]; omega
theorem fs_two (f : Nat → Nat) : ∀ t, fs f (2 * t) = fs (fun i => f (2 * i) + f (2 * i + 1)) t
  | 0 => rfl
  | t + 1 => by rw [show 2 * (t + 1) = 2 * t + 1 + 1 by omega]; simp only [fs]; rw [fs_two f t]; omega

/-! ### A code is linear -/
theorem par_xor (x y : Nat) : par (x ^^^ y) = (par x ^^ par y) := by
  have key : ∀ (l : List Nat) (p q : Bool), l.foldl (fun c i => c != (x ^^^ y).testBit i) (p ^^ q) = (l.foldl (fun c i => c != x.testBit i) p ^^ l.foldl (fun c i => c != y.testBit i) q) := by
    intro l
    induction l with
    | nil => intro p q; rfl
    | cons i l ih =>
      intro p q
      simp only [List.foldl_cons]
      rw [← ih]
      congr 1
      rw [Nat.testBit_xor]
      cases p <;> cases q <;> cases x.testBit i <;> cases y.testBit i <;> rfl
  exact key _ false false
theorem and_xor (x y a : Nat) : (x ^^^ y) &&& a = (x &&& a) ^^^ (y &&& a) := by
  apply Nat.eq_of_testBit_eq
  intro i
  simp only [Nat.testBit_and, Nat.testBit_xor]
  cases x.testBit i <;> cases y.testBit i <;> cases a.testBit i <;> rfl
theorem xor_half (x y : Nat) : (x ^^^ y) / 2 = (x / 2) ^^^ (y / 2) := by
  have := Nat.shiftRight_xor_distrib (a := x) (b := y) (i := 1)
  simpa [Nat.shiftRight_eq_div_pow] using this
theorem al_xor {n s : Nat} (hs : s < 2 ^ (n - 1)) (c : Bool) : al n s c = s ^^^ (if c then 2 ^ (n - 1) else 0) := by
  cases c with
  | false => simp [al]
  | true =>
    have h1 := Nat.two_pow_add_eq_or_of_lt hs 1
    simp only [Nat.mul_one] at h1
    simp only [al, if_true]
    rw [Nat.add_comm, h1]
    apply Nat.eq_of_testBit_eq
    intro i
    simp only [Nat.testBit_or, Nat.testBit_xor, Nat.testBit_two_pow]
    by_cases hi : n - 1 = i
    · subst hi
      rw [Nat.testBit_lt_two_pow hs]; simp
    · simp [hi]
theorem al_lin {n s s' : Nat} (hs : s < 2 ^ (n - 1)) (hs' : s' < 2 ^ (n - 1)) (c c' : Bool) : al n (s ^^^ s') (c ^^ c') = al n s c ^^^ al n s' c' := by
  rw [al_xor hs, al_xor hs', al_xor (Nat.xor_lt_two_pow hs hs')]
  have e : (if (c ^^ c') = true then 2 ^ (n - 1) else 0) = (if c = true then 2 ^ (n - 1) else 0) ^^^ (if c' = true then 2 ^ (n - 1) else 0) := by
    cases c <;> cases c' <;> simp
  rw [e]
  generalize (if c = true then 2 ^ (n - 1) else 0) = u
  generalize (if c' = true then 2 ^ (n - 1) else 0) = v
  ac_rfl
theorem nx_lin {n s s' : Nat} (hs : s < 2 ^ (n - 1)) (hs' : s' < 2 ^ (n - 1)) (c c' : Bool) : nx n (s ^^^ s') (c ^^ c') = nx n s c ^^^ nx n s' c' := by
  unfold nx; rw [al_lin hs hs', xor_half]
theorem ob_lin {n a s s' : Nat} (hs : s < 2 ^ (n - 1)) (hs' : s' < 2 ^ (n - 1)) (c c' : Bool) : ob n a (s ^^^ s') (c ^^ c') = (ob n a s c ^^ ob n a s' c') := by
  unfold ob; rw [al_lin hs hs', and_xor, par_xor]
/-- where two messages are unlike -/
def dif (l m : List Bool) : List Bool := List.zipWith (· ^^ ·) l m
theorem dif_len {l m : List Bool} (h : l.length = m.length) : (dif l m).length = l.length := by unfold dif; rw [List.length_zipWith]; omega
theorem dif_bit {l m : List Bool} (h : l.length = m.length) (i : Nat) : bitAt (dif l m) i = (bitAt l i ^^ bitAt m i) := by
  have hl := dif_len h
  unfold bitAt
  by_cases hi : i < l.length
  · rw [if_pos (by omega), if_pos hi, if_pos (by omega), gt_nat (by omega), gt_nat hi, gt_nat (by omega)]
    simp [dif]
  · rw [if_neg (by omega), if_neg hi, if_neg (by omega)]; rfl
theorem st_lin {n a b : Nat} (hc : CodeOK n a b) {l m : List Bool} (h : l.length = m.length) : ∀ i, st n (dif l m) i = st n l i ^^^ st n m i
  | 0 => by simp [st]
  | i + 1 => by
    simp only [st]
    rw [st_lin hc h i, dif_bit h, nx_lin (st_lt hc l i) (st_lt hc m i)]
/-- how many of two are true; what a step weighs -/
def bn (x : Bool) : Nat := if x then 1 else 0
def wt (n a b s : Nat) (c : Bool) : Nat := bn (ob n a s c) + bn (ob n b s c)
theorem wt_le (n a b s : Nat) (c : Bool) : wt n a b s c ≤ 2 := by
  unfold wt bn; split <;> split <;> omega
/-- in how many places what two messages are coded is unlike, after so many steps -/
def dst (n a b : Nat) (l m : List Bool) (T : Nat) : Nat := fs (fun t => bn (ob n a (st n l t) (bitAt l t) ^^ ob n a (st n m t) (bitAt m t)) + bn (ob n b (st n l t) (bitAt l t) ^^ ob n b (st n m t) (bitAt m t))) T
theorem dst_wt {n a b : Nat} (hc : CodeOK n a b) {l m : List Bool} (h : l.length = m.length) (T : Nat) : dst n a b l m T = fs (fun t => wt n a b (st n (dif l m) t) (bitAt (dif l m) t)) T := by
  unfold dst
  apply fs_congr
  intro t _
  unfold wt
  rw [st_lin hc h, dif_bit h, ob_lin (st_lt hc l t) (st_lt hc m t), ob_lin (st_lt hc l t) (st_lt hc m t)]
/-! ### Ways out of nought and back -/
/-- a way from the state behind the first true bit, over states that are not nought -/
structure Way (n : Nat) (q : Nat → Nat) (c : Nat → Bool) (m : Nat) : Prop where
  start : q 0 = nx n 0 true
  step : ∀ i, i < m → q (i + 1) = nx n (q i) (c i)
  pos : ∀ i, i < m → q i ≠ 0
def wy (n a b : Nat) (q : Nat → Nat) (c : Nat → Bool) (m : Nat) : Nat := wt n a b 0 true + fs (fun i => wt n a b (q i) (c i)) m
theorem Way.less {n : Nat} {q : Nat → Nat} {c : Nat → Bool} {m k : Nat} (h : Way n q c m) (hk : k ≤ m) : Way n q c k :=
  ⟨h.start, fun i hi => h.step i (by omega), fun i hi => h.pos i (by omega)⟩
theorem Way.lt {n a b : Nat} (hc : CodeOK n a b) {q : Nat → Nat} {c : Nat → Bool} {m : Nat} (h : Way n q c m) : ∀ i, i ≤ m → q i < 2 ^ (n - 1)
  | 0, _ => by rw [h.start]; exact nx_lt hc (by obtain ⟨q, p1, _, q1, _⟩ := hc.pq; omega) _
  | i + 1, hi => by rw [h.step i (by omega)]; exact nx_lt hc (Way.lt hc h i (by omega)) _
theorem pigeon : ∀ (m : Nat) (f : Nat → Nat), (∀ i, i ≤ m → f i < m) → ∃ i j, i < j ∧ j ≤ m ∧ f i = f j
  | 0, f, h => absurd (h 0 (Nat.le_refl _)) (by omega)
  | m + 1, f, h => by
    by_cases hd : ∃ i, i ≤ m ∧ f i = f (m + 1)
    · obtain ⟨i, hi, he⟩ := hd
      exact ⟨i, m + 1, by omega, Nat.le_refl _, he⟩
    · have hd' : ∀ i, i ≤ m → f i ≠ f (m + 1) := fun i hi he => hd ⟨i, hi, he⟩
      obtain ⟨i, j, h1, h2, h3⟩ := pigeon m (fun i => if f i = m then f (m + 1) else f i) (fun i hi => by
        have h1 := h i (by omega); have h2 := hd' i hi; have h3 := h (m + 1) (by omega)
        try simp only
        split <;> omega)
      refine ⟨i, j, h1, by omega, ?_⟩
      have e1 := hd' i (by omega); have e2 := hd' j h2
      try dsimp only at h3
      split at h3 <;> split at h3 <;> omega
/-- a way that is longer than there are states has a shorter one that weighs no more -/
theorem way_short {n a b : Nat} (hc : CodeOK n a b) : ∀ (m : Nat) (q : Nat → Nat) (c : Nat → Bool), Way n q c m → ∃ m' q' c', m' ≤ 2 ^ (n - 1) ∧ Way n q' c' m' ∧ q' m' = q m ∧ wy n a b q' c' m' ≤ wy n a b q c m := by
  intro m
  induction m using Nat.strongRecOn with
  | _ m ih =>
    intro q c h
    by_cases hm : m ≤ 2 ^ (n - 1)
    · exact ⟨m, q, c, hm, h, rfl, Nat.le_refl _⟩
    · obtain ⟨i, j, h1, h2, h3⟩ := pigeon (2 ^ (n - 1)) q (fun i hi => h.lt hc i (by omega))
      obtain ⟨d, hd⟩ := Nat.exists_eq_add_of_lt h1
      have hj : j = i + (d + 1) := by omega
      have key : Way n (fun t => if t ≤ i then q t else q (t + (d + 1))) (fun t => if t < i then c t else c (t + (d + 1))) (m - (d + 1)) := by
        refine ⟨by simp only [Nat.zero_le, if_true]; exact h.start, fun t ht => ?_, fun t ht => ?_⟩
        · try simp only
          by_cases ht1 : t < i
          · rw [if_pos (by omega), if_pos (by omega), if_pos ht1]; exact h.step t (by omega)
          · rw [if_neg (by omega), if_neg ht1]
            by_cases ht2 : t = i
            · subst ht2
              rw [if_pos (Nat.le_refl _), h3, hj, show t + 1 + (d + 1) = t + (d + 1) + 1 by omega]
              exact h.step _ (by omega)
            · rw [if_neg (by omega), show t + 1 + (d + 1) = t + (d + 1) + 1 by omega]
              exact h.step _ (by omega)
        · try simp only
          split
          · exact h.pos t (by omega)
          · exact h.pos _ (by omega)
      obtain ⟨m', q', c', k1, k2, k3, k4⟩ := ih (m - (d + 1)) (by omega) _ _ key
      refine ⟨m', q', c', k1, k2, k3.trans ?_, Nat.le_trans k4 ?_⟩
      · try simp only
        by_cases he : m - (d + 1) ≤ i
        · have : m - (d + 1) = i := by omega
          rw [if_pos he, this, h3, show j = m by omega]
        · rw [if_neg he, show m - (d + 1) + (d + 1) = m by omega]
      · unfold wy
        have e1 : m = j + (m - j) := by omega
        have e2 : m - (d + 1) = i + (m - j) := by omega
        have f1 := fs_add (fun t => wt n a b (q t) (c t)) j (m - j)
        rw [← e1] at f1
        rw [e2, fs_add, f1]
        have g1 : fs (fun t => wt n a b (if t ≤ i then q t else q (t + (d + 1))) (if t < i then c t else c (t + (d + 1)))) i = fs (fun t => wt n a b (q t) (c t)) i :=
          fs_congr fun t ht => by rw [if_pos (by omega), if_pos ht]
        have g2 : fs (fun t => wt n a b (if i + t ≤ i then q (i + t) else q (i + t + (d + 1))) (if i + t < i then c (i + t) else c (i + t + (d + 1)))) (m - j) = fs (fun t => wt n a b (q (j + t)) (c (j + t))) (m - j) :=
          fs_congr fun t ht => by
            rw [if_neg (show ¬ i + t < i by omega), show i + t + (d + 1) = j + t by omega]
            split
            · rw [show t = 0 by omega, Nat.add_zero, Nat.add_zero, h3]
            · rfl
        have g3 := fs_mono (fun t => wt n a b (q t) (c t)) (show i ≤ j by omega)
        simp only at g1 g2 g3 ⊢
        rw [g1, g2]
        omega

/-! ### The least weights, round by round -/
/-- a number that is the weight of a way to a state -/
def Att (n a b : Nat) (x s : Nat) : Prop := ∃ m q c, Way n q c m ∧ q m = s ∧ wy n a b q c m = x
theorem Att.on {n a b x s : Nat} (h : Att n a b x s) (hs : s ≠ 0) (d : Bool) : Att n a b (x + wt n a b s d) (nx n s d) := by
  obtain ⟨m, q, c, hw, he, hx⟩ := h
  refine ⟨m + 1, fun t => if t ≤ m then q t else nx n s d, fun t => if t < m then c t else d, ⟨by simp only [Nat.zero_le, if_true]; exact hw.start, fun t ht => ?_, fun t ht => ?_⟩, ?_, ?_⟩
  · try simp only
    by_cases h1 : t < m
    · rw [if_pos (by omega), if_pos (by omega), if_pos h1]; exact hw.step t h1
    · obtain rfl : t = m := by omega
      rw [if_neg (by omega), if_pos (Nat.le_refl _), if_neg (by omega), he]
  · try simp only
    rw [if_pos (by omega)]
    by_cases h1 : t < m
    · exact hw.pos t h1
    · obtain rfl : t = m := by omega
      rw [he]; exact hs
  · try simp only
    rw [if_neg (by omega)]
  · unfold wy at hx ⊢
    simp only [fs]
    rw [if_pos (Nat.le_refl _), if_neg (Nat.lt_irrefl _), he, ← hx]
    have : fs (fun i => wt n a b (if i ≤ m then q i else nx n s d) (if i < m then c i else d)) m = fs (fun i => wt n a b (q i) (c i)) m :=
      fs_congr fun t ht => by rw [if_pos (by omega), if_pos ht]
    rw [this]; omega
structure Lst (n a b F : Nat) (L : List Int) : Prop where
  len : 2 ^ (n - 1) ≤ L.length
  bd : ∀ s : Nat, s < 2 ^ (n - 1) → 0 ≤ gt L (s : Int) ∧ gt L (s : Int) ≤ F
  att : ∀ s : Nat, s < 2 ^ (n - 1) → gt L (s : Int) < F → Att n a b (gt L (s : Int)).toNat s
def LeL (n : Nat) (L L' : List Int) : Prop := L'.length = L.length ∧ ∀ s : Nat, s < 2 ^ (n - 1) → gt L' (s : Int) ≤ gt L (s : Int)
theorem LeL.trans {n : Nat} {L L' L'' : List Int} (h : LeL n L L') (k : LeL n L' L'') : LeL n L L'' := ⟨k.1.trans h.1, fun s hs => Int.le_trans (k.2 s hs) (h.2 s hs)⟩
theorem LeL.refl (n : Nat) (L : List Int) : LeL n L L := ⟨rfl, fun _ _ => Int.le_refl _⟩
theorem gt_set_nat {L : List Int} {i j : Nat} (hi : i < L.length) (hj : j < L.length) (v : Int) : gt (L.set i v) (j : Int) = if i = j then v else gt L (j : Int) := by
  rw [gt_nat (by rw [List.length_set]; exact hj), gt_nat hj, List.getElem_set]
/-- one number is made less -/
theorem Lst.relax {n a b F : Nat} (hc : CodeOK n a b) (hF : F ≤ 1048576) {L : List Int} (h : Lst n a b F L) {s : Nat} (hs : s < 2 ^ (n - 1)) (h0 : s ≠ 0) (d : Bool) {v : Int}
    (hv : v = if gt L (s : Int) + (wt n a b s d : Nat) < gt L ((nx n s d : Nat) : Int) then gt L (s : Int) + (wt n a b s d : Nat) else gt L ((nx n s d : Nat) : Int)) :
    Lst n a b F (L.set (nx n s d) v) ∧ LeL n L (L.set (nx n s d) v) ∧ gt (L.set (nx n s d) v) ((nx n s d : Nat) : Int) ≤ gt L (s : Int) + (wt n a b s d : Nat) := by
  have hn := nx_lt hc hs d
  have hl := h.len
  have b1 := h.bd s hs
  have b2 := h.bd _ hn
  have hle : v ≤ gt L ((nx n s d : Nat) : Int) := by rw [hv]; split <;> omega
  have hle2 : v ≤ gt L (s : Int) + (wt n a b s d : Nat) := by rw [hv]; split <;> omega
  have hv0 : 0 ≤ v := by rw [hv]; split <;> omega
  refine ⟨⟨by rw [List.length_set]; exact hl, fun t ht => ?_, fun t ht => ?_⟩, ⟨List.length_set, fun t ht => ?_⟩, ?_⟩
  · rw [gt_set_nat (by omega) (by omega)]
    split
    · omega
    · exact h.bd t ht
  · rw [gt_set_nat (by omega) (by omega)]
    split
    · rename_i e; subst e
      intro hlt
      rw [hv] at hlt ⊢
      split
      · rename_i hlt2
        have hsF : gt L (s : Int) < F := by omega
        have := (h.att s hs hsF).on h0 d
        have e : (gt L (s : Int)).toNat + wt n a b s d = (gt L (s : Int) + (wt n a b s d : Nat)).toNat := by omega
        rw [← e]; exact this
      · rename_i hlt2
        rw [if_neg hlt2] at hlt
        exact h.att _ hn hlt
    · exact h.att t ht
  · rw [gt_set_nat (by omega) (by omega)]
    split
    · rename_i e; subst e; exact hle
    · exact Int.le_refl _
  · rw [gt_set_nat (by omega) (by omega), if_pos rfl]; exact hle2
/-- all edges out of a state, of all states -/
def Edge (n a b : Nat) (L L' : List Int) (s : Nat) : Prop := ∀ d, gt L' ((nx n s d : Nat) : Int) ≤ gt L (s : Int) + (wt n a b s d : Nat)
theorem Edge.mono {n a b : Nat} (hc : CodeOK n a b) {L0 L L' L'' : List Int} {s : Nat} (hs : s < 2 ^ (n - 1)) (h : Edge n a b L L' s) (h0 : LeL n L0 L) (h1 : LeL n L' L'') : Edge n a b L0 L'' s := fun d => by
  have := h d; have := h0.2 s hs; have := h1.2 _ (nx_lt hc hs d); omega
/-- all ways of so many steps are counted -/
def Cnt (n a b r : Nat) (L : List Int) : Prop := ∀ m q c, m ≤ r → Way n q c m → gt L ((q m : Nat) : Int) ≤ (wy n a b q c m : Nat)
theorem Cnt.next {n a b r : Nat} (hc : CodeOK n a b) {L L' : List Int} (h : Cnt n a b r L) (hl : LeL n L L') (he : ∀ s : Nat, s < 2 ^ (n - 1) → s ≠ 0 → Edge n a b L L' s) : Cnt n a b (r + 1) L' := by
  intro m q c hm hw
  cases m with
  | zero => exact Int.le_trans (hl.2 _ (hw.lt hc 0 (Nat.le_refl _))) (h 0 q c (by omega) hw)
  | succ m =>
    have h1 := h m q c (by omega) (hw.less (by omega))
    have h2 := he (q m) (hw.lt hc m (by omega)) (hw.pos m (by omega)) (c m)
    rw [← hw.step m (by omega)] at h2
    unfold wy at h1 ⊢
    simp only [fs]
    omega
theorem Cnt.mono {n a b r : Nat} (hc : CodeOK n a b) {L L' : List Int} (h : Cnt n a b r L) (hl : LeL n L L') : Cnt n a b r L' := fun m q c hm hw => Int.le_trans (hl.2 _ (hw.lt hc m (Nat.le_refl _))) (h m q c hm hw)
/-- the least: it is a way's weight, and no way weighs less -/
structure Least (n a b : Nat) (x : Nat) : Prop where
  att : Att n a b x 0
  le : ∀ m q c, Way n q c m → q m = 0 → x ≤ wy n a b q c m
theorem Least.uniq {n a b x y : Nat} (h : Least n a b x) (k : Least n a b y) : x = y := by
  obtain ⟨m, q, c, w1, w2, w3⟩ := h.att
  obtain ⟨m', q', c', v1, v2, v3⟩ := k.att
  have := h.le m' q' c' v1 v2
  have := k.le m q c w1 w2
  omega
/-- by false bits all ways end -/
theorem att_zero {n a b : Nat} (hc : CodeOK n a b) : ∃ x, Att n a b x 0 ∧ x ≤ 16 := by
  have h1 := hc.n2; have h7 := hc.n7
  obtain ⟨p, p1, p2, p3, p4, p5⟩ := hc.pq
  have e0 : nx n 0 true = 2 ^ (n - 2) := by
    unfold nx al; simp only [if_true]; rw [p1, ← p5]; omega
  have key : ∀ k, k ≤ n - 2 → ∃ x, Att n a b x (2 ^ (n - 2 - k)) ∧ x ≤ 2 + 2 * k := by
    intro k
    induction k with
    | zero => intro _; exact ⟨wt n a b 0 true, ⟨0, fun _ => nx n 0 true, fun _ => false, ⟨rfl, fun i hi => by omega, fun i hi => by omega⟩, e0, by simp [wy, fs]⟩, wt_le ..⟩
    | succ k ih =>
      intro hk
      obtain ⟨x, hx, hb⟩ := ih (by omega)
      have hp : 2 ^ (n - 2 - k) = 2 * 2 ^ (n - 2 - (k + 1)) := by rw [show n - 2 - k = n - 2 - (k + 1) + 1 by omega, Nat.pow_succ, Nat.mul_comm]
      have := hx.on (by have := Nat.two_pow_pos (n - 2 - k); omega) false
      have e : nx n (2 ^ (n - 2 - k)) false = 2 ^ (n - 2 - (k + 1)) := by unfold nx al; simp only [Bool.false_eq_true, if_false]; omega
      rw [e] at this
      have := wt_le n a b (2 ^ (n - 2 - k)) false
      exact ⟨_, ‹Att n a b _ _›, by omega⟩
  obtain ⟨x, hx, hb⟩ := key (n - 2) (Nat.le_refl _)
  rw [show n - 2 - (n - 2) = 0 by omega] at hx
  have h3 := hx.on (by decide) false
  have e : nx n (2 ^ 0) false = 0 := by unfold nx al; simp
  rw [e] at h3
  have := wt_le n a b (2 ^ 0) false
  exact ⟨_, h3, by omega⟩
theorem least_of {n a b F : Nat} (hc : CodeOK n a b) (hF : 16 < F) {L : List Int} (h : Lst n a b F L) (hcn : Cnt n a b (2 ^ (n - 1)) L) : Least n a b (gt L 0).toNat := by
  have h0 : 0 < 2 ^ (n - 1) := Nat.two_pow_pos _
  have b0 := h.bd 0 h0
  rw [show ((0 : Nat) : Int) = 0 from rfl] at b0
  have le : ∀ m q c, Way n q c m → q m = 0 → (gt L 0).toNat ≤ wy n a b q c m := fun m q c hw hq => by
    obtain ⟨m', q', c', k1, k2, k3, k4⟩ := way_short hc m q c hw
    have := hcn m' q' c' k1 k2
    rw [k3, hq, show ((0 : Nat) : Int) = 0 from rfl] at this
    omega
  refine ⟨?_, le⟩
  obtain ⟨x, ⟨m, q, c, w1, w2, w3⟩, hx⟩ := att_zero hc
  have := le m q c w1 w2
  have := h.att 0 h0
  rw [show ((0 : Nat) : Int) = 0 from rfl] at this
  exact this (by omega)
/-- what is coded unlike weighs as much at least -/
theorem far_apart {n a b x : Nat} (hc : CodeOK n a b) (h : Least n a b x) {l : List Bool} {t0 T : Nat} (ht : bitAt l t0 = true) (hT : l.length + (n - 1) ≤ T) : x ≤ fs (fun t => wt n a b (st n l t) (bitAt l t)) T := by
  -- the first true bit
  have hlt : t0 < l.length := by
    apply Classical.byContradiction
    intro hn
    unfold bitAt at ht
    rw [if_neg hn] at ht; cases ht
  have h2 := hc.n2
  have first : ∀ k, (∃ t, t ≤ k ∧ bitAt l t = true) → ∃ t, t ≤ k ∧ bitAt l t = true ∧ ∀ i, i < t → bitAt l i = false := by
    intro k
    induction k with
    | zero => rintro ⟨t, h1, h2⟩; exact ⟨0, Nat.le_refl _, by rwa [show t = 0 by omega] at h2, fun i hi => by omega⟩
    | succ k ih =>
      rintro ⟨t, h1, h2⟩
      by_cases hk : ∃ t, t ≤ k ∧ bitAt l t = true
      · obtain ⟨t, e1, e2, e3⟩ := ih hk; exact ⟨t, by omega, e2, e3⟩
      · refine ⟨t, h1, h2, fun i hi => ?_⟩
        cases hb : bitAt l i with
        | false => rfl
        | true => exact absurd ⟨i, by omega, hb⟩ hk
  obtain ⟨t, ht1, ht2, ht3⟩ := first t0 ⟨t0, Nat.le_refl _, ht⟩
  have hz : ∀ i, i ≤ t → st n l i = 0 := by
    intro i
    induction i with
    | zero => intro _; rfl
    | succ i ih => intro hi; simp only [st]; rw [ih (by omega), ht3 i (by omega)]; simp [nx, al]
  -- where it comes back
  have hend : st n l (l.length + (n - 1)) = 0 := st_end hc l
  have back : ∀ k, st n l (t + 1 + k) = 0 → ∃ m, m ≤ k ∧ st n l (t + 1 + m) = 0 ∧ ∀ i, i < m → st n l (t + 1 + i) ≠ 0 := by
    intro k
    induction k with
    | zero => intro h; exact ⟨0, Nat.le_refl _, h, fun i hi => by omega⟩
    | succ k ih =>
      intro h
      by_cases hk : ∃ m, m ≤ k ∧ st n l (t + 1 + m) = 0
      · have : ∀ j, (∃ m, m ≤ j ∧ st n l (t + 1 + m) = 0) → ∃ m, m ≤ j ∧ st n l (t + 1 + m) = 0 ∧ ∀ i, i < m → st n l (t + 1 + i) ≠ 0 := by
          intro j
          induction j with
          | zero => rintro ⟨m, g1, g2⟩; exact ⟨0, Nat.le_refl _, by rwa [show m = 0 by omega] at g2, fun i hi => by omega⟩
          | succ j ihj =>
            rintro ⟨m, g1, g2⟩
            by_cases hj : ∃ m, m ≤ j ∧ st n l (t + 1 + m) = 0
            · obtain ⟨m, e1, e2, e3⟩ := ihj hj; exact ⟨m, by omega, e2, e3⟩
            · exact ⟨m, g1, g2, fun i hi he => hj ⟨i, by omega, he⟩⟩
        obtain ⟨m, e1, e2, e3⟩ := this k hk
        exact ⟨m, by omega, e2, e3⟩
      · exact ⟨k + 1, Nat.le_refl _, h, fun i hi he => hk ⟨i, by omega, he⟩⟩
  obtain ⟨m, hm1, hm2, hm3⟩ := back (l.length + (n - 1) - (t + 1)) (by rw [show t + 1 + (l.length + (n - 1) - (t + 1)) = l.length + (n - 1) by omega]; exact hend)
  have hw : Way n (fun i => st n l (t + 1 + i)) (fun i => bitAt l (t + 1 + i)) m := by
    refine ⟨?_, fun i hi => rfl, hm3⟩
    show nx n (st n l t) (bitAt l t) = _
    rw [hz t (Nat.le_refl _), ht2]
  have hle := h.le m _ _ hw hm2
  unfold wy at hle
  try dsimp only at hle
  have e1 : fs (fun t => wt n a b (st n l t) (bitAt l t)) (t + 1 + m) ≤ fs (fun t => wt n a b (st n l t) (bitAt l t)) T := fs_mono _ (by omega)
  have e2 := fs_add (fun t => wt n a b (st n l t) (bitAt l t)) (t + 1) m
  try dsimp only at e2
  have e3 : fs (fun t => wt n a b (st n l t) (bitAt l t)) (t + 1) = fs (fun t => wt n a b (st n l t) (bitAt l t)) t + wt n a b 0 true := by
    simp only [fs]; rw [hz t (Nat.le_refl _), ht2]
  omega
theorem top_tab : ∀ n : Nat, n < 8 → ∀ a : Nat, a < 128 → (decide (1 ≤ n ∧ 2 ^ (n - 1) ≤ a ∧ a < 2 ^ n) → par (2 ^ (n - 1) &&& a) = true) := by decide +kernel
theorem wt_first {n a b : Nat} (hc : CodeOK n a b) : 1 ≤ wt n a b 0 true := by
  have h1 := hc.n2; have h2 := hc.n7; have h5 := hc.an; have h6 := hc.bn; have h7 := hc.top
  have hp : 2 ^ n ≤ 128 := by obtain ⟨q, p1, p2, q1, q2, _⟩ := hc.pq; omega
  have e : ∀ a, ob n a 0 true = par (2 ^ (n - 1) &&& a) := fun a => by unfold ob al; simp
  unfold wt
  rw [e a, e b]
  by_cases ha : 2 ^ (n - 1) ≤ a
  · rw [top_tab n (by omega) a (by omega) (by simp only [decide_eq_true_eq]; omega)]; simp [bn]
  · rw [top_tab n (by omega) b (by omega) (by simp only [decide_eq_true_eq]; omega)]; simp [bn]
theorem least_pos {n a b x : Nat} (hc : CodeOK n a b) (h : Least n a b x) : 1 ≤ x := by
  obtain ⟨m, q, c, w1, w2, w3⟩ := h.att
  have := wt_first hc
  unfold wy at w3; omega
theorem states_ok {n a b : Nat} (h : CodeOK n a b) : f_trellis_Code_States (n : Int) (a : Int) (b : Int) = some (((2 ^ (n - 1) : Nat) : Int), 0) := by
  obtain ⟨q, p1, p2, q1, q2, _⟩ := h.pq
  have h1 := h.n2; have h2 := h.n7
  unfold f_trellis_Code_States
  rw [check_ok h]
  simp only [Option.bind_some]
  rw [if_neg (by simp), w64 (by omega) (by omega), if_pos (by omega), show (n : Int) - 1 = ((n - 1 : Nat) : Int) by omega, show ((1 : Int)) = ((1 : Nat) : Int) from rfl, ishl64 (by omega) (by omega), Nat.one_mul]
/-! ### The program's Free -/
theorem weight_ok (x y : Bool) : f_trellis_Code_Free_1 [x, y] = some ((bn x + bn y : Nat) : Int) := by
  unfold f_trellis_Code_Free_1
  cases x <;> cases y <;> (rw [loop_step (f := f_trellis_Code_Free_1.s1 _) (s' := (_, 1)) rfl, loop_step (f := f_trellis_Code_Free_1.s1 _) (s' := (_, 2)) rfl, loop_done (f := f_trellis_Code_Free_1.s1 _) (r := _) rfl]; rfl)
theorem imin_if (x y : Int) : imin x y = if y < x then y else x := rfl
theorem free_s4 {n a b : Nat} (hc : CodeOK n a b) {L : List Int} (h : Lst n a b 1048576 L) (hl : L.length = 64) {s : Nat} (hs : s < 2 ^ (n - 1)) (h0 : s ≠ 0) :
    ∃ L', loop (f_trellis_Code_Free.s4 (n : Int) (a : Int) (b : Int) (s : Int)) (L, 0) = some L' ∧ Lst n a b 1048576 L' ∧ LeL n L L' ∧ Edge n a b L L' s := by
  have hp : 2 ^ (n - 1) ≤ 64 := by obtain ⟨q, p1, p2, q1, q2, _⟩ := hc.pq; omega
  have one : ∀ (L : List Int), Lst n a b 1048576 L → L.length = 64 → ∀ (d : Bool) (t : Nat), t < 2 → gt [false, true] (t : Int) = d →
      ∃ L', f_trellis_Code_Free.s4 (n : Int) (a : Int) (b : Int) (s : Int) (L, (t : Int)) = some (.inl (L', ((t + 1 : Nat) : Int))) ∧ Lst n a b 1048576 L' ∧ LeL n L L' ∧ gt L' ((nx n s d : Nat) : Int) ≤ gt L (s : Int) + (wt n a b s d : Nat) := by
    intro L h hl d t ht hd
    have hn := nx_lt hc hs d
    have b1 := h.bd s hs
    have hwl := wt_le n a b s d
    obtain ⟨r1, r2, r3⟩ := h.relax hc (Nat.le_refl _) hs h0 d rfl
    refine ⟨_, ?_, r1, r2, r3⟩
    simp only [f_trellis_Code_Free.s4, f_trellis_Code_Free.s4c]
    rw [if_pos (by rw [decide_eq_true_eq]; show (t : Int) < 2; omega), if_pos (by show 0 ≤ (t : Int) ∧ (t : Int) < 2; omega), hd, step_ok hc hs d]
    simp only [Option.bind_some]
    rw [if_pos (by omega), if_pos (by omega), weight_ok]
    simp only [Option.bind_some]
    rw [if_pos (by omega), Int.toNat_natCast, imin_if, w64 (x := (t : Int) + 1) (by omega) (by omega)]
    rw [show bn (ob n a s d) + bn (ob n b s d) = wt n a b s d from rfl, w64 (by omega) (by omega)]
    rfl
  obtain ⟨L1, a1, a2, a3, a4⟩ := one L h hl false 0 (by omega) rfl
  obtain ⟨L2, c1, c2, c3, c4⟩ := one L1 a2 (by rw [a3.1, hl]) true 1 (by omega) rfl
  refine ⟨L2, ?_, c2, a3.trans c3, fun d => ?_⟩
  · rw [show ((0 : Nat) : Int) = 0 from rfl] at a1
    rw [loop_step a1, loop_step c1]
    apply loop_done
    simp only [f_trellis_Code_Free.s4, f_trellis_Code_Free.s4c]
    rw [if_neg (by simp)]
  · cases d with
    | false => have := c3.2 _ (nx_lt hc hs false); omega
    | true => have := a3.2 _ hs; omega
theorem free_s3 {n a b : Nat} (hc : CodeOK n a b) {L : List Int} (h : Lst n a b 1048576 L) (hl : L.length = 64) :
    ∃ L', loop (f_trellis_Code_Free.s3 (n : Int) (a : Int) (b : Int) (((2 ^ (n - 1) : Nat) : Int), 0)) (L, 1) = some L' ∧ Lst n a b 1048576 L' ∧ LeL n L L' ∧ ∀ s : Nat, s < 2 ^ (n - 1) → s ≠ 0 → Edge n a b L L' s := by
  have hp : 2 ^ (n - 1) ≤ 64 := by obtain ⟨q, p1, p2, q1, q2, _⟩ := hc.pq; omega
  have hp1 : 2 ≤ 2 ^ (n - 1) := by obtain ⟨q, p1, p2, q1, q2, _⟩ := hc.pq; omega
  generalize hP : 2 ^ (n - 1) = P at *
  have key : ∀ k s : Nat, s + k = P → 1 ≤ s → ∀ L1, Lst n a b 1048576 L1 → L1.length = 64 → LeL n L L1 → (∀ r : Nat, r < s → r ≠ 0 → Edge n a b L L1 r) →
      ∃ L', loop (f_trellis_Code_Free.s3 (n : Int) (a : Int) (b : Int) ((P : Int), 0)) (L1, (s : Int)) = some L' ∧ Lst n a b 1048576 L' ∧ LeL n L L' ∧ ∀ r : Nat, r < P → r ≠ 0 → Edge n a b L L' r := by
    intro k
    induction k with
    | zero =>
      intro s hs h1 L1 g1 g2 g3 g4
      obtain rfl : s = P := by omega
      refine ⟨L1, loop_done ?_, g1, g3, g4⟩
      simp only [f_trellis_Code_Free.s3, f_trellis_Code_Free.s3c]
      rw [if_neg (by simp)]
    | succ k ih =>
      intro s hs h1 L1 g1 g2 g3 g4
      obtain ⟨L2, e1, e2, e3, e4⟩ := free_s4 hc g1 g2 (s := s) (by omega) (by omega)
      obtain ⟨L', f1, f2, f3, f4⟩ := ih (s + 1) (by omega) (by omega) L2 e2 (by rw [e3.1, g2]) (g3.trans e3) (fun r hr h0 => by
        by_cases hrs : r < s
        · exact (g4 r hrs h0).mono hc (by omega) (LeL.refl n L) e3
        · obtain rfl : r = s := by omega
          exact e4.mono hc (by omega) g3 (LeL.refl n L2))
      refine ⟨L', ?_, f2, f3, f4⟩
      rw [← f1]
      apply loop_step
      simp only [f_trellis_Code_Free.s3, f_trellis_Code_Free.s3c]
      rw [if_pos (by rw [decide_eq_true_eq]; omega), e1]
      simp only [Option.bind_some]
      rw [w64 (by omega) (by omega)]; rfl
  exact key (P - 1) 1 (by omega) (by omega) L h hl (LeL.refl n L) (fun r hr h0 => by omega)
theorem free_s2 {n a b : Nat} (hc : CodeOK n a b) {L : List Int} (h : Lst n a b 1048576 L) (hl : L.length = 64) (h0 : Cnt n a b 0 L) :
    ∃ L', loop (f_trellis_Code_Free.s2 (n : Int) (a : Int) (b : Int) (((2 ^ (n - 1) : Nat) : Int), 0)) (L, 0) = some L' ∧ Lst n a b 1048576 L' ∧ Cnt n a b (2 ^ (n - 1)) L' := by
  have hp : 2 ^ (n - 1) ≤ 64 := by obtain ⟨q, p1, p2, q1, q2, _⟩ := hc.pq; omega
  have key : ∀ k s : Nat, s + k = 2 ^ (n - 1) → ∀ L1, Lst n a b 1048576 L1 → L1.length = 64 → Cnt n a b s L1 →
      ∃ L', loop (f_trellis_Code_Free.s2 (n : Int) (a : Int) (b : Int) (((2 ^ (n - 1) : Nat) : Int), 0)) (L1, (s : Int)) = some L' ∧ Lst n a b 1048576 L' ∧ Cnt n a b (2 ^ (n - 1)) L' := by
    intro k
    induction k with
    | zero =>
      intro s hs L1 g1 g2 g3
      obtain rfl : s = 2 ^ (n - 1) := by omega
      refine ⟨L1, loop_done ?_, g1, g3⟩
      simp only [f_trellis_Code_Free.s2, f_trellis_Code_Free.s2c]
      rw [if_neg (by simp)]
    | succ k ih =>
      intro s hs L1 g1 g2 g3
      obtain ⟨L2, e1, e2, e3, e4⟩ := free_s3 hc g1 g2
      obtain ⟨L', f1, f2, f3⟩ := ih (s + 1) (by omega) L2 e2 (by rw [e3.1, g2]) (g3.next hc e3 e4)
      refine ⟨L', ?_, f2, f3⟩
      rw [← f1]
      apply loop_step
      simp only [f_trellis_Code_Free.s2, f_trellis_Code_Free.s2c]
      rw [if_pos (by rw [decide_eq_true_eq]; omega), e1]
      simp only [Option.bind_some]
      rw [w64 (by omega) (by omega)]; rfl
  exact key (2 ^ (n - 1)) 0 (by omega) L h hl h0
theorem free_s1 : loop f_trellis_Code_Free.s1 (List.replicate 64 0, 0) = some (List.replicate 64 1048576) := by
  have := loop_for (f := f_trellis_Code_Free.s1) 64 (fun t => List.replicate t 1048576 ++ List.replicate (64 - t) 0) (List.replicate 64 1048576) (fun t ht => ?_) ?_
  · rw [← this]; rfl
  · simp only [f_trellis_Code_Free.s1, f_trellis_Code_Free.s1c]
    rw [if_pos (by rw [decide_eq_true_eq]; omega), if_pos (by omega), w64 (by omega) (by omega), Int.toNat_natCast, List.set_append_right _ _ (by simp only [List.length_replicate]; omega)]
    have e2 : List.replicate (64 - t) (0 : Int) = 0 :: List.replicate (64 - (t + 1)) 0 := by
      rw [← List.replicate_succ]; congr 1; omega
    rw [e2, List.replicate_succ', List.append_assoc]
    simp only [List.length_replicate, Nat.sub_self, List.set_cons_zero]
    rfl
  · simp only [f_trellis_Code_Free.s1, f_trellis_Code_Free.s1c]
    rw [if_neg (by decide)]
    rfl
theorem lst_start {n a b F : Nat} (hc : CodeOK n a b) (hF : 2 ≤ F) {m : Nat} (hm : 2 ^ (n - 1) ≤ m) : Lst n a b F ((List.replicate m (F : Int)).set (nx n 0 true) ((wt n a b 0 true : Nat) : Int)) ∧ Cnt n a b 0 ((List.replicate m (F : Int)).set (nx n 0 true) ((wt n a b 0 true : Nat) : Int)) := by
  have hn := nx_lt hc (s := 0) (Nat.two_pow_pos _) true
  have hw := wt_le n a b 0 true
  have hg : ∀ s : Nat, s < 2 ^ (n - 1) → gt ((List.replicate m (F : Int)).set (nx n 0 true) ((wt n a b 0 true : Nat) : Int)) (s : Int) = if nx n 0 true = s then ((wt n a b 0 true : Nat) : Int) else (F : Int) := fun s hs => by
    rw [gt_set_nat (by rw [List.length_replicate]; omega) (by rw [List.length_replicate]; omega), gt_nat (by rw [List.length_replicate]; omega), List.getElem_replicate]
  refine ⟨⟨by rw [List.length_set, List.length_replicate]; exact hm, fun s hs => ?_, fun s hs => ?_⟩, ?_⟩
  · rw [hg s hs]; split <;> omega
  · rw [hg s hs]
    split
    · rename_i e
      intro _
      rw [Int.toNat_natCast]
      exact ⟨0, fun _ => nx n 0 true, fun _ => false, ⟨rfl, fun i hi => by omega, fun i hi => by omega⟩, e, by simp [wy, fs]⟩
    · intro h; omega
  · intro k q c hk hq
    obtain rfl : k = 0 := by omega
    rw [hq.start, hg _ hn, if_pos rfl]
    simp [wy, fs]
theorem free_ok {n a b : Nat} (hc : CodeOK n a b) : ∃ x : Nat, f_trellis_Code_Free (n : Int) (a : Int) (b : Int) = some ((x : Int), 0) ∧ Least n a b x := by
  have hp : 2 ^ (n - 1) ≤ 64 := by obtain ⟨q, p1, p2, q1, q2, _⟩ := hc.pq; omega
  have hn := nx_lt hc (s := 0) (Nat.two_pow_pos _) true
  obtain ⟨s1, s2⟩ := lst_start hc (F := 1048576) (by decide) hp
  obtain ⟨L', e1, e2, e3⟩ := free_s2 hc s1 (by rw [List.length_set, List.length_replicate]) s2
  have b0 := e2.bd 0 (Nat.two_pow_pos _)
  rw [show ((0 : Nat) : Int) = 0 from rfl] at b0
  refine ⟨(gt L' 0).toNat, ?_, least_of hc (by decide) e2 e3⟩
  unfold f_trellis_Code_Free
  rw [states_ok hc]
  simp only [Option.bind_some]
  rw [if_neg (by simp), free_s1]
  have hst := step_ok hc (s := 0) (Nat.two_pow_pos _) true
  rw [show ((0 : Nat) : Int) = 0 from rfl] at hst
  simp only [Option.bind_some]
  rw [hst]
  simp only [Option.bind_some]
  rw [weight_ok]
  simp only [Option.bind_some]
  rw [if_pos (by omega), Int.toNat_natCast, show bn (ob n a 0 true) + bn (ob n b 0 true) = wt n a b 0 true from rfl, show ((1048576 : Nat) : Int) = 1048576 from rfl] at *
  rw [e1]
  simp only [Option.bind_some]
  rw [Int.toNat_of_nonneg b0.1]
/-! ### What was coded so -/
theorem bl2 : ∀ x y c d : Bool, ((x == c) && (y == d)) = true → ((x != c) || (y != d)) = false := by decide
theorem bl3 : ∀ x y c d : Bool, ¬ ((x == c) && (y == d)) = true → ((x != c) || (y != d)) = true := by decide
theorem bl4 : ∀ x y p q : Bool, (p || q) = true → ((x != (x ^^ p)) || (y != (y ^^ q))) = true := by decide
theorem ob_zero (n a : Nat) : ob n a 0 false = false := by
  have : al n 0 false = 0 := by simp [al]
  unfold ob
  rw [this, Nat.zero_and]; rfl
theorem ob_flip {n a b : Nat} (hc : CodeOK n a b) (x : Nat) {s : Nat} (hs : s < 2 ^ (n - 1)) : ob n x s true = (ob n x s false ^^ ob n x 0 true) := by
  have := ob_lin (a := x) hs (Nat.two_pow_pos (n - 1)) false true
  rw [Nat.xor_zero] at this
  exact this
theorem flip_some {n a b : Nat} (hc : CodeOK n a b) : (ob n a 0 true || ob n b 0 true) = true := by
  have := wt_first hc
  unfold wt bn at this
  cases h1 : ob n a 0 true <;> cases h2 : ob n b 0 true <;> simp [h1, h2] at this ⊢
def X (n a b : Nat) (c : List Bool) : Nat → Option (List Bool × Nat)
  | 0 => some ([], 0)
  | i + 1 => (X n a b c i).bind fun p =>
    let bit := (ob n a p.2 false != gt c ((2 * i : Nat) : Int)) || (ob n b p.2 false != gt c ((2 * i + 1 : Nat) : Int))
    if ((ob n a p.2 bit != gt c ((2 * i : Nat) : Int)) || (ob n b p.2 bit != gt c ((2 * i + 1 : Nat) : Int))) = true then none else some (p.1 ++ [bit], nx n p.2 bit)
theorem X_none {n a b : Nat} {c : List Bool} {i : Nat} (h : X n a b c i = none) : ∀ k, X n a b c (i + k) = none
  | 0 => h
  | k + 1 => by rw [← Nat.add_assoc]; simp only [X]; rw [X_none h k]; rfl
theorem bitAt_app {l : List Bool} (x : Bool) {t : Nat} (ht : t < l.length) : bitAt (l ++ [x]) t = bitAt l t := by
  unfold bitAt
  rw [if_pos (by simp; omega), if_pos ht, gt_nat (by simp; omega), gt_nat ht, List.getElem_append_left ht]
theorem bitAt_last (l : List Bool) (x : Bool) : bitAt (l ++ [x]) l.length = x := by
  unfold bitAt
  rw [if_pos (by simp), gt_nat (by simp), List.getElem_append_right (Nat.le_refl _)]; simp
theorem st_congr {n : Nat} {l m : List Bool} : ∀ i, (∀ t, t < i → bitAt l t = bitAt m t) → st n l i = st n m i
  | 0, _ => rfl
  | i + 1, h => by simp only [st]; rw [st_congr i fun t ht => h t (by omega), h i (by omega)]
theorem X_some {n a b : Nat} (hc : CodeOK n a b) {c : List Bool} : ∀ i out s, X n a b c i = some (out, s) → out.length = i ∧ s = st n out i ∧ ∀ t, t < i → gt c ((2 * t : Nat) : Int) = ob n a (st n out t) (bitAt out t) ∧ gt c ((2 * t + 1 : Nat) : Int) = ob n b (st n out t) (bitAt out t)
  | 0, out, s, h => by
    simp only [X, Option.some.injEq, Prod.mk.injEq] at h
    obtain ⟨rfl, rfl⟩ := h
    exact ⟨rfl, rfl, fun t ht => by omega⟩
  | i + 1, out, s, h => by
    simp only [X] at h
    cases hx : X n a b c i with
    | none => rw [hx] at h; cases h
    | some p =>
      obtain ⟨o, s0⟩ := p
      obtain ⟨h1, h2, h3⟩ := X_some hc i o s0 hx
      rw [hx] at h
      simp only [Option.bind_some] at h
      generalize ((ob n a s0 false != gt c ((2 * i : Nat) : Int)) || (ob n b s0 false != gt c ((2 * i + 1 : Nat) : Int))) = bit at h
      split at h
      · cases h
      · rename_i hne
        simp only [Option.some.injEq, Prod.mk.injEq] at h
        obtain ⟨rfl, rfl⟩ := h
        have hst : ∀ t, t ≤ i → st n (o ++ [bit]) t = st n o t := fun t ht => st_congr t fun j hj => bitAt_app bit (by omega)
        have hlast : bitAt (o ++ [bit]) i = bit := by rw [← h1]; exact bitAt_last o bit
        refine ⟨by simp [h1], ?_, fun t ht => ?_⟩
        · simp only [st]; rw [hst i (Nat.le_refl _), hlast, ← h2]
        · by_cases hti : t < i
          · rw [hst t (by omega), bitAt_app bit (by omega)]; exact h3 t hti
          · obtain rfl : t = i := by omega
            rw [hst t (Nat.le_refl _), hlast, ← h2]
            simp only [Bool.or_eq_true, not_or, bne_iff_ne, ne_eq, Decidable.not_not] at hne
            exact ⟨hne.1.symm, hne.2.symm⟩
theorem X_lt {n a b : Nat} (hc : CodeOK n a b) {c : List Bool} {i : Nat} {out : List Bool} {s : Nat} (h : X n a b c i = some (out, s)) : s < 2 ^ (n - 1) := by
  rw [(X_some hc i out s h).2.1]; exact st_lt hc out i
def EX (n a b : Nat) (c : List Bool) : List Bool × Int :=
  match X n a b c (c.length / 2) with
  | none => ([], 6)
  | some (out, s) => if c.length % 2 = 1 ∨ c.length / 2 < n - 1 ∨ s ≠ 0 then ([], 6) else (out.take (c.length / 2 - (n - 1)), 0)
def exR (r : Option (List Bool × Nat)) : (List Bool × Int) ⊕ (List Bool × Int) :=
  match r with
  | none => .inr ([], 6)
  | some (o, s) => .inl (o, (s : Int))
theorem exact_ok {n a b : Nat} (hc : CodeOK n a b) (c : List Bool) (hl : c.length ≤ 32768) : f_trellis_Code_Exact (n : Int) (a : Int) (b : Int) c = some (EX n a b c) := by
  have h2 := hc.n2; have h7 := hc.n7
  have hh : IntKind.i64.wrap (((c.length : Int)).tdiv 2) = ((c.length / 2 : Nat) : Int) := by
    rw [show (2 : Int) = ((2 : Nat) : Int) from rfl, tdiv_nat, w64 (by omega) (by omega)]
  obtain ⟨T, hT⟩ : ∃ T, T = c.length / 2 := ⟨_, rfl⟩
  rw [← hT] at hh
  have key : ∀ k i out s, i + k = T → X n a b c i = some (out, s) → loop (f_trellis_Code_Exact.s1 (n : Int) (a : Int) (b : Int) c) (out, (s : Int), (i : Int)) = some (exR (X n a b c T)) := by
    intro k
    induction k with
    | zero =>
      intro i out s hi hx
      obtain rfl : i = T := by omega
      rw [hx]
      apply loop_done
      simp only [f_trellis_Code_Exact.s1, f_trellis_Code_Exact.s1c]
      rw [hh, if_neg (by simp)]; rfl
    | succ k ih =>
      intro i out s hi hx
      have hs := X_lt hc hx
      have hol := (X_some hc i out s hx).1
      have e0 : IntKind.i64.wrap (2 * (i : Int)) = ((2 * i : Nat) : Int) := by rw [w64 (by omega) (by omega)]; omega
      have e1 : IntKind.i64.wrap (((2 * i : Nat) : Int) + 1) = ((2 * i + 1 : Nat) : Int) := by rw [w64 (by omega) (by omega)]; rfl
      have rd : ∀ x y z w : Bool, (if (x != z) = true then some true else (if 0 ≤ ((2 * i + 1 : Nat) : Int) ∧ ((2 * i + 1 : Nat) : Int) < (c.length : Int) then some (y != w) else none)) = some ((x != z) || (y != w)) := fun x y z w => by
        rw [if_pos (show 0 ≤ ((2 * i + 1 : Nat) : Int) ∧ ((2 * i + 1 : Nat) : Int) < (c.length : Int) by omega)]; cases x <;> cases z <;> simp
      have body : f_trellis_Code_Exact.s1 (n : Int) (a : Int) (b : Int) c (out, (s : Int), (i : Int)) = match X n a b c (i + 1) with
          | none => some (.inr (.inr ([], 6)))
          | some (o, s') => some (.inl (o, (s' : Int), ((i + 1 : Nat) : Int))) := by
        simp only [f_trellis_Code_Exact.s1, f_trellis_Code_Exact.s1c]
        rw [hh, if_pos (by rw [decide_eq_true_eq]; omega), step_ok hc hs false]
        simp only [Option.bind_some]
        rw [e0, e1, if_pos (by omega), rd]
        simp only [Option.bind_some]
        have hXX : X n a b c (i + 1) = if ((ob n a s ((ob n a s false != gt c ((2 * i : Nat) : Int)) || (ob n b s false != gt c ((2 * i + 1 : Nat) : Int))) != gt c ((2 * i : Nat) : Int)) || (ob n b s ((ob n a s false != gt c ((2 * i : Nat) : Int)) || (ob n b s false != gt c ((2 * i + 1 : Nat) : Int))) != gt c ((2 * i + 1 : Nat) : Int))) = true then none else some (out ++ [((ob n a s false != gt c ((2 * i : Nat) : Int)) || (ob n b s false != gt c ((2 * i + 1 : Nat) : Int)))], nx n s ((ob n a s false != gt c ((2 * i : Nat) : Int)) || (ob n b s false != gt c ((2 * i + 1 : Nat) : Int)))) := by
          simp only [X]; rw [hx]; rfl
        rw [hXX]
        generalize ((ob n a s false != gt c ((2 * i : Nat) : Int)) || (ob n b s false != gt c ((2 * i + 1 : Nat) : Int))) = bit
        rw [step_ok hc hs bit]
        simp only [Option.bind_some]
        rw [if_pos (by omega), rd]
        simp only [Option.bind_some]
        split
        · rfl
        · rw [if_pos (by simp only [List.length_cons, List.length_nil]; omega), w64 (by omega) (by omega)]
          rfl
      cases hx1 : X n a b c (i + 1) with
      | none =>
        rw [hx1] at body
        rw [loop_done body]
        have := X_none hx1 k
        rw [show i + 1 + k = T by omega] at this
        rw [this]; rfl
      | some p =>
        obtain ⟨o, s'⟩ := p
        rw [hx1] at body
        rw [loop_step body]
        exact ih (i + 1) o s' (by omega) hx1
  have := key T 0 [] 0 (by omega) rfl
  rw [show ((0 : Nat) : Int) = 0 from rfl] at this
  unfold f_trellis_Code_Exact
  rw [check_ok hc]
  simp only [Option.bind_some]
  rw [if_neg (by simp; omega), this]
  simp only [Option.bind_some]
  have hE : EX n a b c = match X n a b c T with
      | none => ([], 6)
      | some (out, s) => if c.length % 2 = 1 ∨ T < n - 1 ∨ s ≠ 0 then ([], 6) else (out.take (T - (n - 1)), 0) := by unfold EX; rw [← hT]
  rw [hE]
  cases hx : X n a b c T with
  | none => rfl
  | some p =>
    obtain ⟨o, s⟩ := p
    have hol := (X_some hc T o s hx).1
    simp only [exR, sm]
    have ei : iand .i64 (c.length : Int) 1 = ((c.length % 2 : Nat) : Int) := by
      rw [show (1 : Int) = ((1 : Nat) : Int) from rfl, iand64 (by omega) (by omega), Nat.and_one_is_mod]
    rw [hh, ei, w64 (x := (n : Int) - 1) (by omega) (by omega)]
    by_cases hcond : c.length % 2 = 1 ∨ T < n - 1 ∨ s ≠ 0
    · rw [if_pos hcond, if_pos]
      simp only [Bool.or_eq_true, decide_eq_true_eq, bne_iff_ne, ne_eq]
      omega
    · rw [if_neg hcond, if_neg]
      · rw [w64 (x := (T : Int) - (n : Int)) (by omega) (by omega), w64 (by omega) (by omega), if_pos (by simp only [List.append_nil]; omega), List.append_nil, show ((T : Int) - (n : Int) + 1).toNat = T - (n - 1) by omega]
      · simp only [Bool.or_eq_true, decide_eq_true_eq, bne_iff_ne, ne_eq]
        omega
/-- of what is coded the message -/
theorem exact_enc {n a b : Nat} (hc : CodeOK n a b) (l : List Bool) : EX n a b (enc n a b l (l.length + (n - 1))) = (l, 0) := by
  obtain ⟨T, hT⟩ : ∃ T, T = l.length + (n - 1) := ⟨_, rfl⟩
  have key : ∀ i, i ≤ T → X n a b (enc n a b l T) i = some ((List.range i).map (bitAt l), st n l i) := by
    intro i
    induction i with
    | zero => intro _; rfl
    | succ i ih =>
      intro hi
      obtain ⟨g1, g2⟩ := enc_get n a b l T i (by omega)
      have hs := st_lt hc l i
      simp only [X]
      rw [ih (by omega)]
      simp only [Option.bind_some]
      rw [g1, g2]
      have hbit : ((ob n a (st n l i) false != ob n a (st n l i) (bitAt l i)) || (ob n b (st n l i) false != ob n b (st n l i) (bitAt l i))) = bitAt l i := by
        cases hb : bitAt l i with
        | false => simp
        | true =>
          rw [ob_flip hc a hs, ob_flip hc b hs]
          exact bl4 _ _ _ _ (flip_some hc)
      rw [hbit, if_neg (by simp), List.range_succ, List.map_append]
      rfl
  have hl := enc_len n a b l T
  unfold EX
  rw [← hT, hl, show 2 * T / 2 = T by omega, key T (Nat.le_refl _)]
  simp only
  rw [if_neg (by rw [hT, st_end hc]; omega)]
  congr 1
  apply List.ext_getElem
  · simp; omega
  · intro i h1 h2
    simp only [List.getElem_take, List.getElem_map, List.getElem_range]
    rw [bitAt_lt h2, gt_nat h2]
/-- what is told is coded so -/
theorem exact_only {n a b : Nat} (hc : CodeOK n a b) {c m : List Bool} (h : EX n a b c = (m, 0)) : c.length = 2 * (m.length + (n - 1)) ∧ enc n a b m (m.length + (n - 1)) = c := by
  unfold EX at h
  cases hx : X n a b c (c.length / 2) with
  | none => rw [hx] at h; simp at h
  | some p =>
    obtain ⟨o, s⟩ := p
    rw [hx] at h
    simp only at h
    split at h
    · simp at h
    · rename_i hcond
      obtain ⟨h1, h2, h3⟩ := X_some hc _ o s hx
      simp only [Prod.mk.injEq, and_true] at h
      have hml : m.length = c.length / 2 - (n - 1) := by rw [← h, List.length_take]; omega
      have hT : m.length + (n - 1) = c.length / 2 := by omega
      have hcl : c.length = 2 * (m.length + (n - 1)) := by omega
      refine ⟨hcl, ?_⟩
      -- the last bits are false
      have hs0 : st n o (c.length / 2) = 0 := by rw [← h2]; omega
      have hb : ∀ t, t < c.length / 2 → bitAt o t = bitAt m t := fun t ht => by
        by_cases htm : t < m.length
        · rw [bitAt_lt htm, bitAt_lt (by omega), gt_nat (by omega), gt_nat htm]
          simp [← h]
        · rw [bitAt_big (l := m) (by omega)]
          cases hb : bitAt o t with
          | false => rfl
          | true =>
            exfalso
            have low : ∀ k, k ≤ n - 2 → 2 ^ (n - 2 - k) ≤ st n o (t + 1 + k) := by
              intro k
              induction k with
              | zero =>
                intro _
                show 2 ^ (n - 2) ≤ nx n (st n o t) (bitAt o t)
                obtain ⟨q, p1, p2, q1, q2, q3⟩ := hc.pq
                rw [hb]; unfold nx al; rw [if_pos rfl, p1, ← q3]; omega
              | succ k ih =>
                intro hk
                have := ih (by omega)
                have hp : 2 ^ (n - 2 - k) = 2 * 2 ^ (n - 2 - (k + 1)) := by rw [show n - 2 - k = n - 2 - (k + 1) + 1 by omega, Nat.pow_succ, Nat.mul_comm]
                show 2 ^ (n - 2 - (k + 1)) ≤ nx n (st n o (t + 1 + k)) (bitAt o (t + 1 + k))
                have hdv : st n o (t + 1 + k) / 2 ≤ nx n (st n o (t + 1 + k)) (bitAt o (t + 1 + k)) := Nat.div_le_div_right (Nat.le_add_right _ _)
                omega
            have := low (c.length / 2 - (t + 1)) (by omega)
            rw [show t + 1 + (c.length / 2 - (t + 1)) = c.length / 2 by omega, hs0] at this
            have := Nat.two_pow_pos (n - 2 - (c.length / 2 - (t + 1)))
            omega
      apply List.ext_getElem
      · rw [enc_len]; omega
      · intro i k1 k2
        obtain ⟨g1, g2⟩ := enc_get n a b m (m.length + (n - 1)) (i / 2) (by omega)
        obtain ⟨f1, f2⟩ := h3 (i / 2) (by omega)
        rw [hb _ (by omega), st_congr (n := n) (l := o) (m := m) (i / 2) fun t ht => hb t (by omega)] at f1 f2
        rw [← f1] at g1; rw [← f2] at g2
        by_cases hi : i % 2 = 0
        · rw [show 2 * (i / 2) = i by omega, gt_nat k1, gt_nat k2] at g1; exact g1
        · rw [show 2 * (i / 2) + 1 = i by omega, gt_nat k1, gt_nat k2] at g2; exact g2
/-! ### awake -/
theorem same_self (l : List Bool) (hl : l.length < 9223372036854775807) : f_foghornref21_Same l l = some true := by
  unfold f_foghornref21_Same
  rw [if_neg (by simp)]
  have := loop_for1 (f := f_foghornref21_Same.s1 l l) l.length (.inl ()) (fun i hi => ?_) ?_
  · rw [this]; rfl
  · simp only [f_foghornref21_Same.s1, f_foghornref21_Same.s1c]
    rw [if_pos (by simpa using hi), if_pos (by omega), if_pos (by omega), if_neg (by simp), w64 (by omega) (by omega)]
    rfl
  · simp only [f_foghornref21_Same.s1, f_foghornref21_Same.s1c]
    rw [if_neg (by simp)]
theorem awake_true : f_foghornlaw21_awake = some true := by
  unfold f_foghornlaw21_awake
  have hc : CodeOK 3 7 5 := ⟨by decide, by decide, by decide, by decide, by decide, by decide, by decide⟩
  have h1 := encode_ok hc [true] (by decide)
  rw [show ((3 : Nat) : Int) = 3 from rfl, show ((7 : Nat) : Int) = 7 from rfl, show ((5 : Nat) : Int) = 5 from rfl] at h1
  have h2 : enc 3 7 5 [true] ([true].length + 3 - 1) = [true, true, true, false, true, true] := by decide +kernel
  rw [h1, h2]
  simp only [Option.bind_some, beq_self_eq_true, if_true]
  rw [same_self _ (by decide)]
  rfl
theorem encode_long {n a b : Nat} (h : CodeOK n a b) (l : List Bool) (hl : l.length < 140737488351233) (hs : ¬ l.length + n - 1 ≤ 16384) : f_trellis_Code_Encode (n : Int) (a : Int) (b : Int) l = some ([], 1) := by
  have h1 := h.n2; have h2 := h.n7
  unfold f_trellis_Code_Encode f_trellis_Code_through
  rw [check_ok h]
  simp only [Option.bind_some]
  rw [if_neg (by simp), w64 (x := (l.length : Int) + (n : Int)) (by omega) (by omega), w64 (x := (l.length : Int) + (n : Int) - 1) (by omega) (by omega), if_pos (by rw [decide_eq_true_eq]; omega)]
  rfl
theorem walk_long {n a b : Nat} (h : CodeOK n a b) (l : List Bool) (hl : l.length < 140737488351233) (hs : ¬ l.length + n - 1 ≤ 16384) : f_trellis_Code_Walk (n : Int) (a : Int) (b : Int) l = some ([], 1) := by
  have h1 := h.n2; have h2 := h.n7
  unfold f_trellis_Code_Walk f_trellis_Code_through_36
  rw [check_ok h]
  simp only [Option.bind_some]
  rw [if_neg (by simp), w64 (x := (l.length : Int) + (n : Int)) (by omega) (by omega), w64 (x := (l.length : Int) + (n : Int) - 1) (by omega) (by omega), if_pos (by rw [decide_eq_true_eq]; omega)]
  rfl
/-! ### The certificates -/
theorem pot_le {n a b : Nat} (φ : Nat → Nat) (h0 : φ (nx n 0 true) ≤ wt n a b 0 true) (hC : CodeOK n a b)
    (hs : ∀ s : Nat, s < 2 ^ (n - 1) → s ≠ 0 → ∀ d : Bool, φ (nx n s d) ≤ φ s + wt n a b s d) {q : Nat → Nat} {c : Nat → Bool} : ∀ m, Way n q c m → φ (q m) ≤ wy n a b q c m
  | 0, h => by rw [h.start]; simpa [wy, fs] using h0
  | m + 1, h => by
    have ih := pot_le φ h0 hC hs m (h.less (Nat.le_succ m))
    have hl := h.lt hC m (Nat.le_succ m)
    have hp := h.pos m (Nat.lt_succ_self m)
    have := hs (q m) hl hp (c m)
    rw [h.step m (Nat.lt_succ_self m)]
    have e : wy n a b q c (m + 1) = wy n a b q c m + wt n a b (q m) (c m) := by simp only [wy, fs]; omega
    omega
theorem att_first (n a b : Nat) : Att n a b (wt n a b 0 true) (nx n 0 true) :=
  ⟨0, fun _ => nx n 0 true, fun _ => true, ⟨rfl, fun i hi => absurd hi (Nat.not_lt_zero i), fun i hi => absurd hi (Nat.not_lt_zero i)⟩, rfl, by simp [wy, fs]⟩
theorem att_next {n a b x s : Nat} (d : Bool) (y t : Nat) (h : Att n a b x s) (hs : s ≠ 0) (hy : x + wt n a b s d = y) (ht : nx n s d = t) : Att n a b y t := by
  have := h.on hs d
  rw [hy, ht] at this; exact this
theorem c3 : CodeOK 3 7 5 := ⟨by decide, by decide, by decide, by decide, by decide, by decide, by decide⟩
theorem c7 : CodeOK 7 121 91 := ⟨by decide, by decide, by decide, by decide, by decide, by decide, by decide⟩
def phi3 (s : Nat) : Nat := [5, 3, 2, 3].getD s 0
theorem att3 : Att 3 7 5 5 0 := (att_next false 5 0 (att_next false 3 1 (show Att 3 7 5 2 2 by have := att_first 3 7 5; rwa [show wt 3 7 5 0 true = 2 by decide +kernel, show nx 3 0 true = 2 by decide +kernel] at this) (by decide) (by decide +kernel) (by decide +kernel)) (by decide) (by decide +kernel) (by decide +kernel))
theorem tab3 : ∀ s : Nat, s < 2 ^ (3 - 1) → s ≠ 0 → ∀ d : Bool, phi3 (nx 3 s d) ≤ phi3 s + wt 3 7 5 s d := by decide +kernel
theorem least3 : Least 3 7 5 5 := ⟨att3, fun m q c h he => by
  have := pot_le phi3 (by decide +kernel) c3 tab3 m h
  rw [he, show phi3 0 = 5 by decide] at this; exact this⟩
theorem free3 : f_trellis_Code_Free 3 7 5 = some (5, 0) := by
  obtain ⟨x, h1, h2⟩ := free_ok c3
  rw [h2.uniq least3] at h1
  exact h1
def phi7 (s : Nat) : Nat := [10, 8, 7, 7, 7, 5, 6, 6, 5, 7, 4, 8, 4, 6, 5, 7, 3, 7, 6, 6, 4, 4, 7, 7, 4, 6, 5, 7, 5, 7, 6, 6, 2, 8, 5, 7, 5, 5, 4, 6, 3, 7, 4, 8, 6, 6, 7, 7, 3, 5, 6, 4, 4, 6, 7, 7, 4, 4, 5, 7, 5, 5, 6, 6].getD s 0
theorem att7 : Att 7 121 91 10 0 := (att_next false 10 0 (att_next false 8 1 (att_next false 7 2 (att_next false 5 5 (att_next false 4 10 (att_next false 4 21 (att_next true 4 42 (att_next false 4 20 (att_next true 3 40 (att_next false 3 16 (show Att 7 121 91 2 32 by have := att_first 7 121 91; rwa [show wt 7 121 91 0 true = 2 by decide +kernel, show nx 7 0 true = 32 by decide +kernel] at this) (by decide) (by decide +kernel) (by decide +kernel)) (by decide) (by decide +kernel) (by decide +kernel)) (by decide) (by decide +kernel) (by decide +kernel)) (by decide) (by decide +kernel) (by decide +kernel)) (by decide) (by decide +kernel) (by decide +kernel)) (by decide) (by decide +kernel) (by decide +kernel)) (by decide) (by decide +kernel) (by decide +kernel)) (by decide) (by decide +kernel) (by decide +kernel)) (by decide) (by decide +kernel) (by decide +kernel)) (by decide) (by decide +kernel) (by decide +kernel))
theorem tab7 : ∀ s : Nat, s < 2 ^ (7 - 1) → s ≠ 0 → ∀ d : Bool, phi7 (nx 7 s d) ≤ phi7 s + wt 7 121 91 s d := by decide +kernel
theorem least7 : Least 7 121 91 10 := ⟨att7, fun m q c h he => by
  have := pot_le phi7 (by decide +kernel) c7 tab7 m h
  rw [he, show phi7 0 = 10 by decide] at this; exact this⟩
theorem free7 : f_trellis_Code_Free 7 121 91 = some (10, 0) := by
  obtain ⟨x, h1, h2⟩ := free_ok c7
  rw [h2.uniq least7] at h1
  exact h1
theorem slip_step {a b r : Int} (hb : 0 < b) (h : loopN (f_trellis_Code_Slips.s2 b) 12 a = some r) : f_trellis_Code_Slips.s1 (a, b) = some (.inl (b, r)) := by
  simp only [f_trellis_Code_Slips.s1, f_trellis_Code_Slips.s1c]
  rw [if_pos (by rw [decide_eq_true_eq]; exact hb), loop_iff.2 ⟨_, h⟩]; rfl
theorem slip_end (a : Int) : f_trellis_Code_Slips.s1 (a, 0) = some (.inr a) := by
  simp only [f_trellis_Code_Slips.s1, f_trellis_Code_Slips.s1c]
  rw [if_neg (by simp)]
theorem slip_of {n a b g : Int} {r : Bool} (hc : f_trellis_Code_Check n a b = some 0) (h : loop f_trellis_Code_Slips.s1 (a, b) = some g) (hg : ((f_math_bits_OnesCount32 g).bind fun k => some (decide (1 < k))) = some r) : f_trellis_Code_Slips n a b = some (r, 0) := by
  unfold f_trellis_Code_Slips
  rw [hc, Option.bind_some, if_neg (by decide), h, Option.bind_some]
  cases hk : f_math_bits_OnesCount32 g with
  | none => rw [hk] at hg; cases hg
  | some k => rw [hk] at hg; simp only [Option.bind_some, Option.some.injEq] at hg ⊢; rw [hg]
theorem slips_3_7_5 : f_trellis_Code_Slips 3 7 5 = some (false, 0) :=
  slip_of (g := 1) (by decide +kernel) (by
    refine (loop_step (slip_step (a := 7) (b := 5) (r := 2) (by decide) (by decide +kernel))).trans ?_
    refine (loop_step (slip_step (a := 5) (b := 2) (r := 1) (by decide) (by decide +kernel))).trans ?_
    refine (loop_step (slip_step (a := 2) (b := 1) (r := 0) (by decide) (by decide +kernel))).trans ?_
    exact loop_done (slip_end _)) (by decide +kernel)
theorem slips_7_121_91 : f_trellis_Code_Slips 7 121 91 = some (false, 0) :=
  slip_of (g := 1) (by decide +kernel) (by
    refine (loop_step (slip_step (a := 121) (b := 91) (r := 34) (by decide) (by decide +kernel))).trans ?_
    refine (loop_step (slip_step (a := 91) (b := 34) (r := 31) (by decide) (by decide +kernel))).trans ?_
    refine (loop_step (slip_step (a := 34) (b := 31) (r := 3) (by decide) (by decide +kernel))).trans ?_
    refine (loop_step (slip_step (a := 31) (b := 3) (r := 1) (by decide) (by decide +kernel))).trans ?_
    refine (loop_step (slip_step (a := 3) (b := 1) (r := 0) (by decide) (by decide +kernel))).trans ?_
    exact loop_done (slip_end _)) (by decide +kernel)
theorem slips_3_6_5 : f_trellis_Code_Slips 3 6 5 = some (true, 0) :=
  slip_of (g := 3) (by decide +kernel) (by
    refine (loop_step (slip_step (a := 6) (b := 5) (r := 3) (by decide) (by decide +kernel))).trans ?_
    refine (loop_step (slip_step (a := 5) (b := 3) (r := 0) (by decide) (by decide +kernel))).trans ?_
    exact loop_done (slip_end _)) (by decide +kernel)
theorem slips_2_1_2 : f_trellis_Code_Slips 2 1 2 = some (false, 0) :=
  slip_of (g := 1) (by decide +kernel) (by
    refine (loop_step (slip_step (a := 1) (b := 2) (r := 1) (by decide) (by decide +kernel))).trans ?_
    refine (loop_step (slip_step (a := 2) (b := 1) (r := 0) (by decide) (by decide +kernel))).trans ?_
    exact loop_done (slip_end _)) (by decide +kernel)
theorem mk0F (n : Int) (m : Nat) (z : Bool) (h : n = (m : Int)) : mk0 n z = List.replicate m z := by rw [mk0_eq, h, Int.toNat_natCast]
theorem tn_e1 : f_trellis_Code_Encode 3 7 5 (mk0 16383 false) = some ([], 1) := by
  rw [mk0F 16383 16383 false rfl]
  exact encode_long c3 _ (by rw [List.length_replicate]; decide) (by rw [List.length_replicate]; decide)
theorem tn_w1 : f_trellis_Code_Walk 3 7 5 (mk0 16383 false) = some ([], 1) := by
  rw [mk0F 16383 16383 false rfl]
  exact walk_long c3 _ (by rw [List.length_replicate]; decide) (by rw [List.length_replicate]; decide)
theorem tn_p : ∃ p t, f_trellis_Code_Encode 3 7 5 (mk0 16382 false) = some (p, 0) ∧ p.length = 32768 ∧ f_trellis_Code_Exact 3 7 5 p = some (t, 0) ∧ t.length = 16382 := by
  rw [mk0F 16382 16382 false rfl]
  generalize hm : List.replicate 16382 false = l
  have hl : l.length = 16382 := by rw [← hm, List.length_replicate]
  have h1 := encode_ok c3 l (by rw [hl]; decide)
  have e : l.length + 3 - 1 = l.length + (3 - 1) := by omega
  rw [e] at h1
  have hlen : (enc 3 7 5 l (l.length + (3 - 1))).length = 32768 := by rw [enc_len, hl]
  refine ⟨enc 3 7 5 l (l.length + (3 - 1)), l, h1, hlen, ?_, hl⟩
  have h2 := exact_ok c3 (enc 3 7 5 l (l.length + (3 - 1))) (by rw [hlen]; decide)
  rw [exact_enc c3 l] at h2
  exact h2
theorem chk3 : f_trellis_Code_Check 3 7 5 = some 0 := check_ok c3
theorem tn_x : f_trellis_Code_Exact 3 7 5 (mk0 32769 false) = some ([], 1) := by
  rw [mk0F 32769 32769 false rfl]
  unfold f_trellis_Code_Exact
  rw [chk3, Option.bind_some, if_pos (by rw [List.length_replicate]; decide)]
theorem tn_z : f_trellis_Code_Encode 0 0 0 [] = some ([], 1) := by
  unfold f_trellis_Code_Encode f_trellis_Code_through
  rw [show f_trellis_Code_Check 0 0 0 = some 1 by decide +kernel]; rfl
theorem tn_s : f_trellis_Code_Step 3 7 5 4 true = some (0, false, false, 1) := by
  unfold f_trellis_Code_Step f_trellis_Code_state
  rw [show f_trellis_Code_States 3 7 5 = some (4, 0) from states_ok c3]; rfl
theorem tn_f : f_trellis_Code_From 3 7 5 (-1) = some ((0, 0), 1) := by
  unfold f_trellis_Code_From f_trellis_Code_state
  rw [show f_trellis_Code_States 3 7 5 = some (4, 0) from states_ok c3]; rfl
theorem tn_l : loop f_foghornlaw21_TrellisNone.s1 0 = some (.inl ()) := loop_iff.2 ⟨6, by decide +kernel⟩
theorem bind_eq {α β : Type} {x : Option α} {v : α} {f : α → Option β} {r : Option β} (h : x = some v) (k : f v = r) : x.bind f = r := by rw [h]; exact k
theorem ite_eq {α : Type} {c : Prop} [Decidable c] {x y r : α} (h : c) (k : x = r) : ite c x y = r := by rw [if_pos h]; exact k
theorem ite_eqN {α : Type} {c : Prop} [Decidable c] {x y r : α} (h : ¬ c) (k : y = r) : ite c x y = r := by rw [if_neg h]; exact k
theorem sm_eqL {α β γ : Type} {a : α} {f : α → γ} {g : β → γ} {r : γ} (k : f a = r) : sm (Sum.inl a : α ⊕ β) f g = r := k
theorem none_true : f_foghornlaw21_TrellisNone = some true := by
  obtain ⟨p, t, h1, h2, h3, h4⟩ := tn_p
  unfold f_foghornlaw21_TrellisNone
  refine bind_eq (show f_trellis_Short = some (3, 7, 5) from rfl) ?_
  refine bind_eq (show f_trellis_Long = some (7, 121, 91) from rfl) ?_
  refine bind_eq free3 ?_
  refine bind_eq free7 ?_
  refine bind_eq slips_3_7_5 ?_
  refine bind_eq slips_7_121_91 ?_
  refine bind_eq slips_3_6_5 ?_
  refine bind_eq slips_2_1_2 ?_
  refine bind_eq (show f_trellis_Code_States 7 121 91 = some (64, 0) from states_ok c7) ?_
  refine ite_eq (by decide) ?_
  refine bind_eq tn_e1 ?_
  refine ite_eq (by decide) ?_
  refine bind_eq h1 ?_
  refine ite_eq (by decide) ?_
  refine bind_eq tn_w1 ?_
  refine ite_eq (by decide) ?_
  refine bind_eq tn_x ?_
  refine bind_eq h3 ?_
  refine bind_eq tn_z ?_
  refine bind_eq tn_s ?_
  refine bind_eq tn_f ?_
  refine ite_eqN (by decide) ?_
  refine bind_eq tn_l ?_
  refine sm_eqL ?_
  refine bind_eq (v := true) ?_ ?_
  · refine ite_eq ?_ ?_
    · have e1 : ((p.length : Int) == (32768 : Int)) = true := by rw [h2]; decide
      have e2 : ((t.length : Int) == (16382 : Int)) = true := by rw [h4]; decide
      try dsimp only
      rw [e1, e2]; decide
    · exact bind_eq chk3 rfl
  · refine bind_eq (v := true) ?_ rfl
    refine ite_eq rfl ?_
    exact bind_eq awake_true rfl

end Go.Proofs.Ytilodendgbjelaa
