/- HardReach: the plain law. -/
import Derived.Test.YthajdlihjobcoaaG11
import Derived.Test.YthajdlihjobcoaaGlW
set_option linter.unusedVariables false
set_option linter.unusedSimpArgs false
set_option maxRecDepth 8000
namespace Go.Proofs.Ythajdlihjobcoaa
open GL

/-! ### Codes -/
structure CodeOK (n a b : Nat) : Prop where
  n2 : 2 ≤ n
  n7 : n ≤ 7
  a1 : 1 ≤ a
  b1 : 1 ≤ b
  an : a < 2 ^ n
  bn : b < 2 ^ n
  top : 2 ^ (n - 1) ≤ max a b
theorem CodeOK.pq {n a b : Nat} (h : CodeOK n a b) : ∃ q, 2 ^ (n - 1) = 2 * q ∧ 2 ^ n = 4 * q ∧ 1 ≤ q ∧ q ≤ 32 ∧ q = 2 ^ (n - 2) := by
  have h1 := h.n2
  have h2 := h.n7
  have : n = 2 ∨ n = 3 ∨ n = 4 ∨ n = 5 ∨ n = 6 ∨ n = 7 := by omega
  rcases this with rfl | rfl | rfl | rfl | rfl | rfl <;> exact ⟨_, rfl, rfl, by decide, by decide, rfl⟩
theorem len_tab0 : ∀ n : Nat, n < 8 → ∀ m : Nat, m < 128 → (decide (1 ≤ n ∧ 2 ^ (n - 1) ≤ m ∧ m < 2 ^ n) → (f_math_bits_Len32 (m : Int) == some (n : Int)) = true) := by decide +kernel
theorem len_tab (n : Nat) (hn : n < 8) (m : Nat) (hm : m < 128) (h1 : 1 ≤ n) (h2 : 2 ^ (n - 1) ≤ m) (h3 : m < 2 ^ n) : f_math_bits_Len32 (m : Int) = some (n : Int) :=
  eq_of_beq (len_tab0 n hn m hm (by simp [h1, h2, h3]))
theorem check_ok {n a b : Nat} (h : CodeOK n a b) : f_trellis_Code_Check (n : Int) (a : Int) (b : Int) = some 0 := by
  obtain ⟨q, p1, p2, q1, q2, _⟩ := h.pq
  have h1 := h.n2; have h2 := h.n7; have h3 := h.a1; have h4 := h.b1; have h5 := h.an; have h6 := h.bn; have h7 := h.top
  unfold f_trellis_Code_Check
  rw [imin_nat, imax_nat, if_neg (by simp; omega), len_tab n (by omega) (max a b) (by omega) (by omega) h7 (by omega)]
  simp
/-- parity of seven bits -/
def par (x : Nat) : Bool := (List.range 7).foldl (fun c i => c != x.testBit i) false
theorem ones_tab : ∀ x : Nat, x < 128 → ((f_math_bits_OnesCount32 (x : Int)).map (fun q => IntKind.u32.wrap (iand .i64 q 1)) == some (if par x then 1 else 0)) = true := by decide +kernel
theorem ones_some {x : Nat} (h : x < 128) : ∃ q, f_math_bits_OnesCount32 (x : Int) = some q ∧ IntKind.u32.wrap (iand .i64 q 1) = if par x then 1 else 0 := by
  have := eq_of_beq (ones_tab x h)
  cases hh : f_math_bits_OnesCount32 (x : Int) with
  | none => rw [hh] at this; cases this
  | some y => rw [hh] at this; exact ⟨y, rfl, Option.some.inj this⟩
def al (n s : Nat) (b : Bool) : Nat := s + if b then 2 ^ (n - 1) else 0
def nx (n s : Nat) (b : Bool) : Nat := al n s b / 2
def ob (n a s : Nat) (b : Bool) : Bool := par (al n s b &&& a)
theorem al_lt {n a b : Nat} (h : CodeOK n a b) {s : Nat} (hs : s < 2 ^ (n - 1)) (c : Bool) : al n s c < 2 ^ n := by
  obtain ⟨q, p1, p2, q1, q2, _⟩ := h.pq
  unfold al; rw [p2]; split <;> omega
theorem nx_lt {n a b : Nat} (h : CodeOK n a b) {s : Nat} (hs : s < 2 ^ (n - 1)) (c : Bool) : nx n s c < 2 ^ (n - 1) := by
  have := al_lt h hs c
  obtain ⟨q, p1, p2, q1, q2, _⟩ := h.pq
  unfold nx; rw [p1]; rw [p2] at this; omega
/-- one bit against one mark -/
def un (b : Bool) (m : Int) : Nat := if (m != 2 && ((if b then (1 : Int) else 0) != m)) = true then 1 else 0
theorem un_le (b : Bool) (m : Int) : un b m ≤ 1 := by
  unfold un
  generalize (m != 2 && ((if b then (1 : Int) else 0) != m)) = z
  cases z <;> simp
theorem unlike_ok (b : Bool) (m : Int) : f_hard_unlike (if b then (1 : Int) else 0) m = some ((un b m : Nat) : Int) := by
  unfold f_hard_unlike un
  have : IntKind.u8.wrap (if b = true then (1 : Int) else 0) = if b then (1 : Int) else 0 := by cases b <;> decide
  rw [this]
  generalize (m != 2 && ((if b then (1 : Int) else 0) != m)) = z
  cases z <;> rfl
theorem hstep_ok {n a b : Nat} (h : CodeOK n a b) {s : Nat} (hs : s < 2 ^ (n - 1)) (c : Bool) (ms : List Int) (hm : 2 ≤ ms.length) :
    f_hard_step (n : Int) (a : Int) (b : Int) (s : Int) (if c then (1 : Int) else 0) ms = some (((nx n s c : Nat) : Int), ((un (ob n a s c) (gt ms 0) + un (ob n b s c) (gt ms 1) : Nat) : Int)) := by
  have hal := al_lt h hs c
  obtain ⟨q, p1, p2, q1, q2, _⟩ := h.pq
  have h1 := h.n2; have h2 := h.n7; have h3 := h.a1; have h4 := h.b1; have h5 := h.an; have h6 := h.bn
  have eal : ior .u32 (ishl .u32 (if c then (1 : Int) else 0) (IntKind.i64.wrap ((n : Int) - 1))) (s : Int) = ((al n s c : Nat) : Int) := by
    rw [w64 (by omega) (by omega), show (n : Int) - 1 = ((n - 1 : Nat) : Int) by omega]
    cases c with
    | false =>
      simp only [Bool.false_eq_true, if_false]
      rw [show ((0 : Int)) = ((0 : Nat) : Int) from rfl, ishl32 (by omega) (by omega), Nat.zero_mul, ior32 (by omega) (by omega), Nat.zero_or]; rfl
    | true =>
      simp only [if_true]
      rw [show ((1 : Int)) = ((1 : Nat) : Int) from rfl, ishl32 (by omega) (by omega), Nat.one_mul, ior32 (by omega) (by omega)]
      have := Nat.two_pow_add_eq_or_of_lt hs 1
      have e : 2 ^ (n - 1) ||| s = al n s true := by
        simp only [al, if_true]
        rw [Nat.add_comm]; simpa using this.symm
      rw [e]
  have e1 : al n s c &&& a ≤ al n s c := Nat.and_le_left
  have e2 : al n s c &&& b ≤ al n s c := Nat.and_le_left
  obtain ⟨x, hx, hx2⟩ := ones_some (x := al n s c &&& a) (by omega)
  obtain ⟨y, hy, hy2⟩ := ones_some (x := al n s c &&& b) (by omega)
  have hna : al n s c / 2 = nx n s c := rfl
  unfold f_hard_step
  rw [eal, w64 (by omega) (by omega), if_pos (by omega), iand32 (by omega) (by omega), iand32 (by omega) (by omega), hx, hy]
  simp only [Option.bind_some]
  rw [hx2, hy2, unlike_ok, unlike_ok]
  simp only [Option.bind_some]
  rw [if_pos (by omega), if_pos (by omega)]
  rw [show ((1 : Int)) = ((1 : Nat) : Int) from rfl, ishr_nat (by decide), show al n s c / 2 ^ 1 = nx n s c from hna, ← Int.natCast_add]
  have l1 := un_le (par (al n s c &&& a)) (gt ms 0)
  have l2 := un_le (par (al n s c &&& b)) (gt ms ((1 : Nat) : Int))
  rw [w32s (by omega) (by omega)]
  rfl

/-! ### What a way costs -/
def cst (n a b : Nat) (ms : List Int) (t s : Nat) (c : Bool) : Nat := un (ob n a s c) (gt ms ((2 * t : Nat) : Int)) + un (ob n b s c) (gt ms ((2 * t + 1 : Nat) : Int))
theorem cst_le (n a b : Nat) (ms : List Int) (t s : Nat) (c : Bool) : cst n a b ms t s c ≤ 2 := by
  have h1 := un_le (ob n a s c) (gt ms ((2 * t : Nat) : Int))
  have h2 := un_le (ob n b s c) (gt ms ((2 * t + 1 : Nat) : Int))
  unfold cst; omega
theorem drop_gt {ms : List Int} {i j : Nat} (h : i + j < ms.length) : gt ((ms.drop i).take (ms.length - i)) (j : Int) = gt ms ((i + j : Nat) : Int) := by
  rw [gt_nat (by simp; omega), gt_nat h]; simp
theorem hstep_at {n a b : Nat} (h : CodeOK n a b) {s : Nat} (hs : s < 2 ^ (n - 1)) (c : Bool) (ms : List Int) (t : Nat) (ht : 2 * t + 1 < ms.length) :
    f_hard_step (n : Int) (a : Int) (b : Int) (s : Int) (if c then (1 : Int) else 0) ((ms.drop (2 * t)).take (ms.length - 2 * t)) = some (((nx n s c : Nat) : Int), ((cst n a b ms t s c : Nat) : Int)) := by
  rw [hstep_ok h hs c _ (by simp; omega)]
  have h0 := drop_gt (ms := ms) (i := 2 * t) (j := 0) (by omega)
  have h1 := drop_gt (ms := ms) (i := 2 * t) (j := 1) (by omega)
  rw [show ((0 : Nat) : Int) = 0 from rfl] at h0
  rw [show ((1 : Nat) : Int) = 1 from rfl] at h1
  rw [h0, h1]; rfl
/-- the least from a state on, k steps before the end -/
def D (n a b : Nat) (ms : List Int) (T N F : Nat) : Nat → Nat → Nat
  | 0, s => if s = 0 then 0 else F
  | k + 1, s => if T - (k + 1) < N then min (cst n a b ms (T - (k + 1)) s false + D n a b ms T N F k (nx n s false)) (cst n a b ms (T - (k + 1)) s true + D n a b ms T N F k (nx n s true))
      else cst n a b ms (T - (k + 1)) s false + D n a b ms T N F k (nx n s false)
theorem D_le (n a b : Nat) (ms : List Int) (T N F : Nat) : ∀ k s, D n a b ms T N F k s ≤ F + 2 * k
  | 0, s => by simp only [D]; split <;> omega
  | k + 1, s => by
    have h1 := D_le n a b ms T N F k (nx n s false)
    have h2 := cst_le n a b ms (T - (k + 1)) s false
    simp only [D]; split <;> omega
/-- the bit that is told at a state; the state come to -/
def bitOf (n a b : Nat) (ms : List Int) (T N F t s : Nat) : Bool := decide (cst n a b ms t s false + D n a b ms T N F (T - (t + 1)) (nx n s false) ≠ D n a b ms T N F (T - t) s)
def pst (n a b : Nat) (ms : List Int) (T N F : Nat) : Nat → Nat
  | 0 => 0
  | t + 1 => nx n (pst n a b ms T N F t) (bitOf n a b ms T N F t (pst n a b ms T N F t))
def msgN (n a b : Nat) (ms : List Int) (T N F M : Nat) : List Bool := (List.range M).map fun t => bitOf n a b ms T N F t (pst n a b ms T N F t)
theorem pst_lt {n a b : Nat} (h : CodeOK n a b) (ms : List Int) (T N F : Nat) : ∀ t, pst n a b ms T N F t < 2 ^ (n - 1)
  | 0 => by obtain ⟨q, p1, _, q1, _⟩ := h.pq; rw [p1]; simp only [pst]; omega
  | t + 1 => nx_lt h (pst_lt h ms T N F t) _

/-! ### Tables -/
def tab (T : Nat) (f : Nat → Nat → Int) : List (List Int) := (List.range (T + 1)).map fun t => (List.range 64).map fun s => f t s
theorem tab_len (T : Nat) (f : Nat → Nat → Int) : (tab T f).length = T + 1 := by simp [tab]
theorem tab_row {T : Nat} {f : Nat → Nat → Int} {t : Nat} (ht : t ≤ T) : gt (tab T f) (t : Int) = (List.range 64).map fun s => f t s := by
  rw [gt_nat (by rw [tab_len]; omega)]; simp [tab]
theorem tab_get {T : Nat} {f : Nat → Nat → Int} {t s : Nat} (ht : t ≤ T) (hs : s < 64) : gt (gt (tab T f) (t : Int)) (s : Int) = f t s := by
  rw [tab_row ht, gt_nat (by simpa using hs)]; simp
def upd (f : Nat → Nat → Int) (t s : Nat) (v : Int) : Nat → Nat → Int := fun t' s' => if t' = t ∧ s' = s then v else f t' s'
theorem tab_set {T : Nat} {f : Nat → Nat → Int} {t s : Nat} (v : Int) (ht : t ≤ T) (hs : s < 64) : (tab T f).set t ((gt (tab T f) (t : Int)).set s v) = tab T (upd f t s v) := by
  rw [tab_row ht]
  apply List.ext_getElem
  · simp [tab]
  · intro i h1 h2
    simp only [List.getElem_set]
    split
    · rename_i h; subst h
      apply List.ext_getElem
      · simp [tab]
      · intro j h3 h4
        simp only [List.getElem_set, tab, List.getElem_map, List.getElem_range, upd]
        by_cases hj : s = j
        · subst hj; simp
        · simp [hj, Ne.symm hj]
    · rename_i h
      simp only [tab, List.getElem_map, List.getElem_range, upd]
      apply List.map_congr_left
      intro j _
      rw [if_neg (by omega)]
theorem tab_congr {T : Nat} {f g : Nat → Nat → Int} (h : ∀ t s, t ≤ T → s < 64 → f t s = g t s) : tab T f = tab T g := by
  unfold tab
  apply List.map_congr_left
  intro t ht
  apply List.map_congr_left
  intro s hs
  exact h t s (by simp at ht; omega) (by simpa using hs)
theorem tab_zero (T : Nat) : List.replicate (T + 1) (List.replicate 64 (0 : Int)) = tab T (fun _ _ => 0) := by
  unfold tab
  apply List.ext_getElem
  · simp
  · intro i h1 h2
    rw [List.getElem_replicate, List.getElem_map]
    apply List.ext_getElem
    · simp
    · intro j h3 h4; simp only [List.getElem_replicate, List.getElem_map]
/-! ### The path -/
structure Fit (n a b : Nat) (ms : List Int) (T N : Nat) : Prop extends CodeOK n a b where
  len : ms.length = 2 * T
  tn : T = N + (n - 1)
  max : T ≤ 16384
  mks : ∀ m ∈ ms, 0 ≤ m ∧ m ≤ 2
theorem contains_ok (ms : List Int) (hl : ms.length < 140737488351233) : f_slices_ContainsFunc_hard_Mark_hard_Mark ms = some (decide (∃ m ∈ ms, 2 < m)) := by
  have key : ∀ k i : Nat, i + k = ms.length → (∀ j : Nat, j < i → ¬ 2 < gt ms (j : Int)) →
      ∃ r, loop (f_slices_IndexFunc_hard_Mark_hard_Mark.s1 ms) (i : Int) = some r ∧ ((r = .inl () ∧ ∀ j : Nat, j < ms.length → ¬ 2 < gt ms (j : Int)) ∨ ∃ j : Nat, r = .inr (j : Int) ∧ j < ms.length ∧ 2 < gt ms (j : Int)) := by
    intro k
    induction k with
    | zero =>
      intro i hi hj
      obtain rfl : i = ms.length := by omega
      refine ⟨_, loop_done (r := .inl ()) ?_, .inl ⟨rfl, hj⟩⟩
      simp only [f_slices_IndexFunc_hard_Mark_hard_Mark.s1, f_slices_IndexFunc_hard_Mark_hard_Mark.s1c]
      rw [if_neg (by simp)]
    | succ k ih =>
      intro i hi hj
      by_cases hm : 2 < gt ms (i : Int)
      · refine ⟨_, loop_done (r := .inr (i : Int)) ?_, .inr ⟨i, rfl, by omega, hm⟩⟩
        simp only [f_slices_IndexFunc_hard_Mark_hard_Mark.s1, f_slices_IndexFunc_hard_Mark_hard_Mark.s1c, f_hard_fits_1]
        rw [if_pos (by simp; omega), if_pos (by omega)]
        simp only [Option.bind_some]
        rw [if_pos (by simpa using hm)]
      · obtain ⟨r, h1, h2⟩ := ih (i + 1) (by omega) (fun j hj' => by
          by_cases hji : j < i
          · exact hj j hji
          · obtain rfl : j = i := by omega
            exact hm)
        refine ⟨r, ?_, h2⟩
        rw [← h1]
        apply loop_step
        simp only [f_slices_IndexFunc_hard_Mark_hard_Mark.s1, f_slices_IndexFunc_hard_Mark_hard_Mark.s1c, f_hard_fits_1]
        rw [if_pos (by simp; omega), if_pos (by omega)]
        simp only [Option.bind_some]
        rw [if_neg (by simpa using hm), w64 (by omega) (by omega)]
        rfl
  obtain ⟨r, h1, h2⟩ := key ms.length 0 (by omega) (fun j hj => by omega)
  rw [show ((0 : Nat) : Int) = 0 from rfl] at h1
  unfold f_slices_ContainsFunc_hard_Mark_hard_Mark f_slices_IndexFunc_hard_Mark_hard_Mark
  rw [h1]
  rcases h2 with ⟨rfl, hn⟩ | ⟨j, rfl, hj, hm⟩
  · simp only [Option.bind_some, sm]
    congr 1
    rw [decide_eq_false (by omega)]
    symm
    rw [decide_eq_false_iff_not]
    rintro ⟨m, hm, h3⟩
    obtain ⟨j, hj, rfl⟩ := List.mem_iff_getElem.1 hm
    exact hn j hj (by rw [gt_nat hj]; exact h3)
  · simp only [Option.bind_some, sm]
    congr 1
    rw [decide_eq_true (by omega)]
    symm
    rw [decide_eq_true_eq]
    exact ⟨_, List.getElem_mem hj, by rw [← gt_nat hj]; exact hm⟩
theorem fits_ok {n a b T N : Nat} {ms : List Int} (h : Fit n a b ms T N) : f_hard_fits (n : Int) (a : Int) (b : Int) ms = some true := by
  have h1 := h.n2; have h2 := h.n7; have h3 := h.len; have h4 := h.tn; have h5 := h.max
  unfold f_hard_fits
  rw [check_ok h.toCodeOK]
  simp only [Option.bind_some]
  have e1 : ((ms.length : Int)).tmod 2 = 0 := by rw [show (2 : Int) = ((2 : Nat) : Int) from rfl, tmod_nat]; omega
  rw [e1, w64 (x := (n : Int) - 1) (by omega) (by omega), w64 (by omega) (by omega), if_neg (by simp; omega), contains_ok ms (by omega)]
  simp only [Option.bind_some]
  rw [decide_eq_false]
  · rfl
  · rintro ⟨m, hm, hm2⟩
    have := h.mks m hm
    omega

section
variable {n a b T N : Nat} {ms : List Int}
theorem pow_le_of (h : CodeOK n a b) : 2 ^ (n - 1) ≤ 64 := by obtain ⟨q, p1, p2, q1, q2, _⟩ := h.pq; omega
theorem sh_ok (h : CodeOK n a b) : ishl .u32 (1 : Int) (IntKind.i64.wrap ((n : Int) - 1)) = ((2 ^ (n - 1) : Nat) : Int) := by
  have h1 := h.n2; have h2 := h.n7; have := pow_le_of h
  rw [w64 (by omega) (by omega), show (n : Int) - 1 = ((n - 1 : Nat) : Int) by omega, show ((1 : Int)) = ((1 : Nat) : Int) from rfl, ishl32 (by omega) (by omega), Nat.one_mul]
theorem half_ok (h : Fit n a b ms T N) : IntKind.i64.wrap (((ms.length : Int)).tdiv 2) = (T : Int) := by
  have h3 := h.len; have h5 := h.max
  rw [show (2 : Int) = ((2 : Nat) : Int) from rfl, tdiv_nat, w64 (by omega) (by omega), h3]; omega
theorem many_ok (h : Fit n a b ms T N) : IntKind.i64.wrap ((T : Int) - IntKind.i64.wrap ((n : Int) - 1)) = (N : Int) := by
  have h1 := h.n2; have h2 := h.n7; have h4 := h.tn; have h5 := h.max
  rw [w64 (x := (n : Int) - 1) (by omega) (by omega), w64 (by omega) (by omega)]; omega
theorem path_s1 (h : Fit n a b ms T N) : loop (f_hard_Path.s1 (n : Int) ms) (tab T (fun _ _ => 0), 0) = some (tab T fun t s => if t = T ∧ s < 2 ^ (n - 1) then 1048576 else 0) := by
  have hp := pow_le_of h.toCodeOK
  have key := loop_for (f := f_hard_Path.s1 (n : Int) ms) (2 ^ (n - 1)) (fun j => tab T fun t s => if t = T ∧ s < j then 1048576 else 0) (tab T fun t s => if t = T ∧ s < 2 ^ (n - 1) then 1048576 else 0) (fun j hj => ?_) ?_
  · simpa using key
  · simp only [f_hard_Path.s1, f_hard_Path.s1c]
    rw [sh_ok h.toCodeOK, half_ok h, tab_len, if_pos (by rw [decide_eq_true_eq]; omega), if_pos (by omega), if_pos (by omega), Int.toNat_natCast, Int.toNat_natCast, tab_set _ (Nat.le_refl _) (by omega), w32 (by omega) (by omega)]
    congr 3
    apply tab_congr
    intro t s ht hs
    simp only [upd]
    by_cases h1 : t = T ∧ s = j
    · rw [if_pos h1, if_pos ⟨h1.1, by omega⟩]
    · rw [if_neg h1]
      by_cases h2 : t = T ∧ s < j
      · rw [if_pos h2, if_pos ⟨h2.1, by omega⟩]
      · rw [if_neg h2, if_neg (by omega)]
  · simp only [f_hard_Path.s1, f_hard_Path.s1c]
    rw [sh_ok h.toCodeOK, if_neg (by simp)]

def Gk (n a b : Nat) (ms : List Int) (T N k : Nat) : Nat → Nat → Int := fun t s => if T - k ≤ t ∧ t ≤ T ∧ s < 2 ^ (n - 1) then ((D n a b ms T N 1048576 (T - t) s : Nat) : Int) else 0
theorem path_s3 (h : Fit n a b ms T N) {k : Nat} (hk : k < T) :
    loop (f_hard_Path.s3 (n : Int) (a : Int) (b : Int) ms ((T - (k + 1) : Nat) : Int)) (tab T (Gk n a b ms T N k), 0) = some (tab T (Gk n a b ms T N (k + 1))) := by
  have hp := pow_le_of h.toCodeOK
  have h1 := h.n2; have h2 := h.n7; have h3 := h.len; have h4 := h.tn; have h5 := h.max
  obtain ⟨t, ht⟩ : ∃ t, t = T - (k + 1) := ⟨_, rfl⟩
  rw [← ht]
  have htT : t + 1 ≤ T := by omega
  have hkt : T - (t + 1) = k := by omega
  have key := loop_for (f := f_hard_Path.s3 (n : Int) (a : Int) (b : Int) ms (t : Int)) (2 ^ (n - 1))
    (fun j => tab T fun t' s => if t' = t ∧ s < j then ((D n a b ms T N 1048576 (k + 1) s : Nat) : Int) else Gk n a b ms T N k t' s) (tab T (Gk n a b ms T N (k + 1))) (fun j hj => ?_) ?_
  · refine Eq.trans (congrArg (fun x => loop _ (x, (0 : Int))) ?_) key
    apply tab_congr
    intro t' s _ _
    simp
  · obtain ⟨f, hf⟩ : ∃ f : Nat → Nat → Int, f = fun t' s => if t' = t ∧ s < j then ((D n a b ms T N 1048576 (k + 1) s : Nat) : Int) else Gk n a b ms T N k t' s := ⟨_, rfl⟩
    have e2t : IntKind.i64.wrap (2 * (t : Int)) = ((2 * t : Nat) : Int) := by rw [w64 (by omega) (by omega)]; omega
    have et1 : IntKind.i64.wrap ((t : Int) + 1) = ((t + 1 : Nat) : Int) := by rw [w64 (by omega) (by omega)]; rfl
    have ej1 : IntKind.u32.wrap ((j : Int) + 1) = ((j + 1 : Nat) : Int) := by rw [w32 (by omega) (by omega)]; rfl
    have hnx : ∀ c, nx n j c < 2 ^ (n - 1) := fun c => nx_lt h.toCodeOK hj c
    have hfn : ∀ (g : Nat → Nat → Int) (c : Bool), (∀ s, g (t + 1) s = f (t + 1) s) → g (t + 1) (nx n j c) = ((D n a b ms T N 1048576 k (nx n j c) : Nat) : Int) := fun g c hg => by
      rw [hg, hf]
      simp only [Gk]
      rw [if_neg (by omega), if_pos ⟨by omega, by omega, hnx c⟩, hkt]
    have hDl : ∀ c, D n a b ms T N 1048576 k (nx n j c) ≤ 1048576 + 2 * k := fun c => D_le n a b ms T N _ k _
    have hcl : ∀ c, cst n a b ms t j c ≤ 2 := fun c => cst_le n a b ms t j c
    have hs0 := hstep_at h.toCodeOK hj false ms t (by omega)
    have hs1 := hstep_at h.toCodeOK hj true ms t (by omega)
    simp only [Bool.false_eq_true, if_false] at hs0
    simp only [if_true] at hs1
    simp only [← hf]
    simp only [f_hard_Path.s3, f_hard_Path.s3c]
    rw [sh_ok h.toCodeOK, half_ok h, many_ok h, e2t, et1, ej1, if_pos (by rw [decide_eq_true_eq]; omega), if_pos (by omega), Int.toNat_natCast, hs0]
    simp only [Option.bind_some]
    have n0 := hnx false
    have n1 := hnx true
    have d0 := hDl false; have d1 := hDl true; have c0 := hcl false; have c1 := hcl true
    simp only [tab_len]
    rw [if_pos (by omega), if_pos (by omega), if_pos (by omega), if_pos (by omega)]
    rw [tab_get (f := f) (t := t + 1) (s := nx n j false) htT (by omega), hfn f false (fun _ => rfl)]
    simp only [Int.toNat_natCast]
    rw [tab_set _ (by omega) (by omega), w32s (x := ((cst n a b ms t j false : Nat) : Int) + ((D n a b ms T N 1048576 k (nx n j false) : Nat) : Int)) (by omega) (by omega)]
    obtain ⟨x0, hx0⟩ : ∃ x, x = ((cst n a b ms t j false : Nat) : Int) + ((D n a b ms T N 1048576 k (nx n j false) : Nat) : Int) := ⟨_, rfl⟩
    rw [← hx0]
    have hDk : D n a b ms T N 1048576 (k + 1) j = if t < N then min (cst n a b ms t j false + D n a b ms T N 1048576 k (nx n j false)) (cst n a b ms t j true + D n a b ms T N 1048576 k (nx n j true)) else cst n a b ms t j false + D n a b ms T N 1048576 k (nx n j false) := by
      simp only [D, ← ht]
    by_cases hN : t < N
    · rw [if_pos (by simp; omega), if_pos (by omega), hs1]
      simp only [Option.bind_some, tab_len]
      rw [if_pos (by omega), if_pos (by omega), if_pos (by omega), if_pos (by omega), if_pos (by omega), if_pos (by omega)]
      rw [tab_get (f := upd f t j x0) (t := t + 1) (s := nx n j true) htT (by omega), hfn (upd f t j x0) true (fun s => by simp only [upd]; rw [if_neg (by omega)])]
      rw [w32s (x := ((cst n a b ms t j true : Nat) : Int) + ((D n a b ms T N 1048576 k (nx n j true) : Nat) : Int)) (by omega) (by omega)]
      rw [tab_get (f := upd f t j x0) (t := t) (s := j) (by omega) (by omega), tab_set _ (by omega) (by omega)]
      have hv : imin (upd f t j x0 t j) (((cst n a b ms t j true : Nat) : Int) + ((D n a b ms T N 1048576 k (nx n j true) : Nat) : Int)) = ((D n a b ms T N 1048576 (k + 1) j : Nat) : Int) := by
        simp only [upd, and_self, if_true]
        rw [hx0, ← Int.natCast_add, ← Int.natCast_add, imin_nat, hDk, if_pos hN]
      rw [hv]
      congr 3
      apply tab_congr
      intro t' s _ _
      simp only [upd, hf]
      by_cases hh : t' = t ∧ s = j
      · rw [if_pos hh, if_pos ⟨hh.1, by omega⟩, hh.2]
      · rw [if_neg hh, if_neg hh]
        by_cases hh2 : t' = t ∧ s < j
        · rw [if_pos hh2, if_pos ⟨hh2.1, by omega⟩]
        · rw [if_neg hh2, if_neg (by omega)]
    · rw [if_neg (by simp; omega)]
      have hv : x0 = ((D n a b ms T N 1048576 (k + 1) j : Nat) : Int) := by rw [hx0, hDk, if_neg hN]; omega
      rw [hv]
      congr 3
      apply tab_congr
      intro t' s _ _
      simp only [upd, hf]
      by_cases hh : t' = t ∧ s = j
      · rw [if_pos hh, if_pos ⟨hh.1, by omega⟩, hh.2]
      · rw [if_neg hh]
        by_cases hh2 : t' = t ∧ s < j
        · rw [if_pos hh2, if_pos ⟨hh2.1, by omega⟩]
        · rw [if_neg hh2, if_neg (by omega)]
  · simp only [f_hard_Path.s3, f_hard_Path.s3c]
    rw [sh_ok h.toCodeOK, if_neg (by simp)]
    congr 2
    apply tab_congr
    intro t' s _ _
    simp only [Gk]
    by_cases hh : t' = t
    · subst hh
      by_cases hs : s < 2 ^ (n - 1)
      · rw [if_pos ⟨rfl, hs⟩, if_pos ⟨by omega, by omega, hs⟩, show T - t' = k + 1 by omega]
      · rw [if_neg (by omega), if_neg (by omega), if_neg (by omega)]
    · rw [if_neg (by omega)]
      by_cases hs : T - k ≤ t' ∧ t' ≤ T ∧ s < 2 ^ (n - 1)
      · rw [if_pos hs, if_pos (by omega)]
      · rw [if_neg hs, if_neg (by omega)]
theorem path_s2 (h : Fit n a b ms T N) : loop (f_hard_Path.s2 (n : Int) (a : Int) (b : Int) ms) (tab T (Gk n a b ms T N 0), (T : Int) - 1) = some (tab T (Gk n a b ms T N T)) := by
  have h5 := h.max
  have key : ∀ j k : Nat, k + j = T → loop (f_hard_Path.s2 (n : Int) (a : Int) (b : Int) ms) (tab T (Gk n a b ms T N k), (T : Int) - 1 - (k : Int)) = some (tab T (Gk n a b ms T N T)) := by
    intro j
    induction j with
    | zero =>
      intro k hk
      obtain rfl : k = T := by omega
      apply loop_done
      simp only [f_hard_Path.s2, f_hard_Path.s2c]
      rw [if_neg (by simp; omega)]
    | succ j ih =>
      intro k hk
      rw [← ih (k + 1) (by omega)]
      apply loop_step
      simp only [f_hard_Path.s2, f_hard_Path.s2c]
      rw [if_pos (by simp; omega), show (T : Int) - 1 - (k : Int) = ((T - (k + 1) : Nat) : Int) by omega, path_s3 h (by omega)]
      simp only [Option.bind_some]
      rw [w64 (by omega) (by omega), show ((T - (k + 1) : Nat) : Int) - 1 = (T : Int) - 1 - ((k + 1 : Nat) : Int) by omega]
  have := key T 0 (by omega)
  simpa using this
theorem path_s4 (h : Fit n a b ms T N) : loop (f_hard_Path.s4 (n : Int) (a : Int) (b : Int) ms (tab T (Gk n a b ms T N T))) (List.replicate N false, 0, 0) = some (msgN n a b ms T N 1048576 N) := by
  have hp := pow_le_of h.toCodeOK
  have h1 := h.n2; have h2 := h.n7; have h3 := h.len; have h4 := h.tn; have h5 := h.max
  obtain ⟨B, hB⟩ : ∃ B : Nat → Bool, B = fun t => bitOf n a b ms T N 1048576 t (pst n a b ms T N 1048576 t) := ⟨_, rfl⟩
  have key : ∀ k i : Nat, i + k = N → loop (f_hard_Path.s4 (n : Int) (a : Int) (b : Int) ms (tab T (Gk n a b ms T N T))) ((List.range N).map (fun t => if t < i then B t else false), ((pst n a b ms T N 1048576 i : Nat) : Int), (i : Int)) = some (msgN n a b ms T N 1048576 N) := by
    intro k
    induction k with
    | zero =>
      intro i hi
      obtain rfl : i = N := by omega
      apply loop_done
      simp only [f_hard_Path.s4, f_hard_Path.s4c]
      rw [half_ok h, many_ok h, if_neg (by simp)]
      congr 2
      unfold msgN
      apply List.map_congr_left
      intro t ht
      rw [if_pos (by simpa using ht), hB]
    | succ k ih =>
      intro i hi
      rw [← ih (i + 1) (by omega)]
      apply loop_step
      have hs := pst_lt h.toCodeOK ms T N 1048576 i
      obtain ⟨s, hse⟩ : ∃ s, s = pst n a b ms T N 1048576 i := ⟨_, rfl⟩
      rw [← hse] at hs ⊢
      have e2t : IntKind.i64.wrap (2 * (i : Int)) = ((2 * i : Nat) : Int) := by rw [w64 (by omega) (by omega)]; omega
      have et1 : IntKind.i64.wrap ((i : Int) + 1) = ((i + 1 : Nat) : Int) := by rw [w64 (by omega) (by omega)]; rfl
      have n0 := nx_lt h.toCodeOK hs false
      have n1 := nx_lt h.toCodeOK hs true
      have hs0 := hstep_at h.toCodeOK hs false ms i (by omega)
      have hs1 := hstep_at h.toCodeOK hs true ms i (by omega)
      simp only [Bool.false_eq_true, if_false] at hs0
      simp only [if_true] at hs1
      have g1 : gt (gt (tab T (Gk n a b ms T N T)) ((i + 1 : Nat) : Int)) ((nx n s false : Nat) : Int) = ((D n a b ms T N 1048576 (T - (i + 1)) (nx n s false) : Nat) : Int) := by
        rw [tab_get (by omega) (by omega)]; simp only [Gk]; rw [if_pos ⟨by omega, by omega, n0⟩]
      have g2 : gt (gt (tab T (Gk n a b ms T N T)) (i : Int)) (s : Int) = ((D n a b ms T N 1048576 (T - i) s : Nat) : Int) := by
        rw [tab_get (by omega) (by omega)]; simp only [Gk]; rw [if_pos ⟨by omega, by omega, hs⟩]
      have hDl := D_le n a b ms T N 1048576 (T - (i + 1)) (nx n s false)
      have hcl := cst_le n a b ms i s false
      have hbit : ((IntKind.i32.wrap (((cst n a b ms i s false : Nat) : Int) + ((D n a b ms T N 1048576 (T - (i + 1)) (nx n s false) : Nat) : Int))) != ((D n a b ms T N 1048576 (T - i) s : Nat) : Int)) = B i := by
        rw [w32s (by omega) (by omega), hB]
        simp only [← hse, bitOf]
        rw [Bool.eq_iff_iff, bne_iff_ne, decide_eq_true_eq]
        constructor <;> intro h9 h10 <;> apply h9 <;> omega
      have hset : ((List.range N).map (fun t => if t < i then B t else false)).set i (B i) = (List.range N).map (fun t => if t < i + 1 then B t else false) := by
        apply List.ext_getElem
        · simp
        · intro j j1 j2
          simp only [List.getElem_set, List.getElem_map, List.getElem_range]
          by_cases hji : i = j
          · subst hji; simp
          · rw [if_neg hji]
            by_cases hlt : j < i
            · rw [if_pos hlt, if_pos (by omega)]
            · rw [if_neg hlt, if_neg (by omega)]
      have hget : gt ((List.range N).map (fun t => if t < i + 1 then B t else false)) (i : Int) = B i := by
        rw [gt_nat (by simp; omega)]; simp
      have hps : pst n a b ms T N 1048576 (i + 1) = nx n s (B i) := by
        rw [hB]; simp only [pst, ← hse]
      simp only [f_hard_Path.s4, f_hard_Path.s4c]
      rw [half_ok h, many_ok h, e2t, et1, if_pos (by simp; omega), if_pos (by omega), Int.toNat_natCast, hs0]
      simp only [Option.bind_some, tab_len]
      rw [if_pos (by omega), if_pos (by omega), if_pos (by omega), if_pos (by omega), if_pos (by simp; omega), g1, g2, hbit, Int.toNat_natCast, hset, if_pos (by simp; omega), hget, hps]
      cases hBi : B i with
      | false => rw [if_neg (by simp)]
      | true => rw [if_pos rfl, if_pos (by omega), hs1]; rfl
  have := key N 0 (by omega)
  rw [show ((0 : Nat) : Int) = 0 from rfl] at this
  refine Eq.trans (congrArg (fun x => loop _ (x, (0 : Int), (0 : Int))) ?_) this
  apply List.ext_getElem
  · simp
  · intro j j1 j2; simp
theorem path_ok (h : Fit n a b ms T N) : f_hard_Path (n : Int) (a : Int) (b : Int) ms = some (msgN n a b ms T N 1048576 N, ((D n a b ms T N 1048576 T 0 : Nat) : Int), 0) := by
  have hp := pow_le_of h.toCodeOK
  have h1 := h.n2; have h2 := h.n7; have h3 := h.len; have h4 := h.tn; have h5 := h.max
  have ht1 : IntKind.i64.wrap ((T : Int) + 1) = ((T + 1 : Nat) : Int) := by rw [w64 (by omega) (by omega)]; rfl
  have hDl := D_le n a b ms T N 1048576 T 0
  unfold f_hard_Path
  rw [fits_ok h]
  simp only [Option.bind_some]
  rw [if_neg (by simp), half_ok h, many_ok h, ht1, w64 (x := (n : Int) - 1) (by omega) (by omega), if_pos (by omega), if_pos (by omega), Int.toNat_natCast, tab_zero, path_s1 h]
  simp only [Option.bind_some]
  rw [tab_len, if_pos (by omega), Int.toNat_natCast, show ((0 : Int)).toNat = 0 from rfl, tab_set _ (Nat.le_refl _) (by omega), w64 (x := (T : Int) - 1) (by omega) (by omega)]
  have e0 : tab T (upd (fun t s => if t = T ∧ s < 2 ^ (n - 1) then 1048576 else 0) T 0 0) = tab T (Gk n a b ms T N 0) := by
    obtain ⟨q, p1, p2, q1, q2, _⟩ := h.pq
    apply tab_congr
    intro t s ht hs
    simp only [upd, Gk]
    by_cases hh : t = T ∧ s = 0
    · rw [if_pos hh, if_pos (by omega), hh.1, hh.2]; simp [D]
    · rw [if_neg hh]
      by_cases hh2 : t = T ∧ s < 2 ^ (n - 1)
      · rw [if_pos hh2, if_pos (by omega), hh2.1]; simp only [Nat.sub_self, D]; rw [if_neg (by omega)]; rfl
      · rw [if_neg hh2, if_neg (by omega)]
  rw [e0, path_s2 h]
  simp only [Option.bind_some]
  rw [if_pos (by omega), Int.toNat_natCast, path_s4 h]
  simp only [Option.bind_some, tab_len]
  rw [if_pos (by omega)]
  have g0 : gt (gt (tab T (Gk n a b ms T N T)) 0) 0 = ((D n a b ms T N 1048576 T 0 : Nat) : Int) := by
    have := tab_get (f := Gk n a b ms T N T) (T := T) (t := 0) (s := 0) (by omega) (by omega)
    rw [show ((0 : Nat) : Int) = 0 from rfl] at this
    rw [this]
    simp only [Gk]
    obtain ⟨q, p1, p2, q1, q2, _⟩ := h.pq
    rw [if_pos ⟨by omega, by omega, by omega⟩, Nat.sub_zero]
  rw [g0, w64 (by omega) (by omega)]
end
/-! ### The way of a message, and its cost -/
def bitAt (l : List Bool) (i : Nat) : Bool := if i < l.length then gt l (i : Int) else false
def st (n : Nat) (l : List Bool) : Nat → Nat
  | 0 => 0
  | i + 1 => nx n (st n l i) (bitAt l i)
theorem st_lt {n a b : Nat} (h : CodeOK n a b) (l : List Bool) : ∀ i, st n l i < 2 ^ (n - 1)
  | 0 => by obtain ⟨q, p1, _, q1, _⟩ := h.pq; rw [p1]; simp only [st]; omega
  | i + 1 => nx_lt h (st_lt h l i) _
theorem st_down (n : Nat) (l : List Bool) : ∀ k, st n l (l.length + k) * 2 ^ k ≤ st n l l.length
  | 0 => by simp
  | k + 1 => by
    have ih := st_down n l k
    have : st n l (l.length + (k + 1)) = st n l (l.length + k) / 2 := by
      show nx n (st n l (l.length + k)) (bitAt l (l.length + k)) = _
      have : bitAt l (l.length + k) = false := by unfold bitAt; rw [if_neg (by omega)]
      rw [this]; simp [nx, al]
    rw [this, Nat.pow_succ, Nat.mul_comm (2 ^ k) 2, ← Nat.mul_assoc]
    exact Nat.le_trans (Nat.mul_le_mul_right _ (Nat.div_mul_le_self _ 2)) ih
theorem st_end {n a b : Nat} (h : CodeOK n a b) (l : List Bool) : st n l (l.length + (n - 1)) = 0 := by
  have h1 := st_down n l (n - 1)
  have h2 := st_lt h l l.length
  rcases Nat.eq_zero_or_pos (st n l (l.length + (n - 1))) with h0 | h0
  · exact h0
  · have := Nat.mul_le_mul_right (2 ^ (n - 1)) h0
    simp only [Nat.one_mul, Nat.succ_eq_add_one, Nat.zero_add] at this
    omega
theorem bit_read {l : List Bool} (i : Nat) : (if (decide ((i : Int) < (l.length : Int))) = true then (if 0 ≤ (i : Int) ∧ (i : Int) < (l.length : Int) then (some (gt l (i : Int))) else none) else (some false)) = some (bitAt l i) := by
  unfold bitAt
  by_cases h : i < l.length
  · rw [if_pos (by simpa using h), if_pos (by omega), if_pos h]
  · rw [if_neg (by simpa using h), if_neg h]
def cs (n a b : Nat) (ms : List Int) (l : List Bool) : Nat → Nat
  | 0 => 0
  | t + 1 => cs n a b ms l t + cst n a b ms t (st n l t) (bitAt l t)
theorem cs_le (n a b : Nat) (ms : List Int) (l : List Bool) : ∀ t, cs n a b ms l t ≤ 2 * t
  | 0 => by simp [cs]
  | t + 1 => by have := cs_le n a b ms l t; have := cst_le n a b ms t (st n l t) (bitAt l t); simp only [cs]; omega
theorem cost_loop {n a b T N : Nat} {ms : List Int} (h : Fit n a b ms T N) (l : List Bool) : loop (f_hard_Cost.s1 (n : Int) (a : Int) (b : Int) l ms) (0, 0, 0) = some ((cs n a b ms l T : Nat) : Int) := by
  have h1 := h.n2; have h2 := h.n7; have h3 := h.len; have h4 := h.tn; have h5 := h.max
  have key : ∀ k i : Nat, i + k = T → loop (f_hard_Cost.s1 (n : Int) (a : Int) (b : Int) l ms) (((st n l i : Nat) : Int), ((cs n a b ms l i : Nat) : Int), (i : Int)) = some ((cs n a b ms l T : Nat) : Int) := by
    intro k
    induction k with
    | zero =>
      intro i hi
      obtain rfl : i = T := by omega
      apply loop_done
      simp only [f_hard_Cost.s1, f_hard_Cost.s1c]
      rw [half_ok h, if_neg (by simp)]
    | succ k ih =>
      intro i hi
      rw [← ih (i + 1) (by omega)]
      apply loop_step
      have hs := st_lt h.toCodeOK l i
      have hcs := cs_le n a b ms l i
      have hcl := cst_le n a b ms i (st n l i) (bitAt l i)
      have e2t : IntKind.i64.wrap (2 * (i : Int)) = ((2 * i : Nat) : Int) := by rw [w64 (by omega) (by omega)]; omega
      have et1 : IntKind.i64.wrap ((i : Int) + 1) = ((i + 1 : Nat) : Int) := by rw [w64 (by omega) (by omega)]; rfl
      have hst := hstep_at h.toCodeOK hs (bitAt l i) ms i (by omega)
      have ec : IntKind.i32.wrap (((cs n a b ms l i : Nat) : Int) + ((cst n a b ms i (st n l i) (bitAt l i) : Nat) : Int)) = ((cs n a b ms l (i + 1) : Nat) : Int) := by
        rw [w32s (by omega) (by omega)]; rfl
      simp only [f_hard_Cost.s1, f_hard_Cost.s1c, f_hard_Cost.j1]
      rw [half_ok h, if_pos (by rw [decide_eq_true_eq]; omega), bit_read]
      simp only [Option.bind_some]
      rw [e2t, et1]
      have hnx : nx n (st n l i) (bitAt l i) = st n l (i + 1) := rfl
      rw [← hnx]
      cases hb : bitAt l i with
      | false =>
        rw [hb] at hst ec
        simp only [Bool.false_eq_true, if_false] at hst ⊢
        rw [if_pos (by omega), Int.toNat_natCast, hst]
        simp only [Option.bind_some]
        rw [ec]
      | true =>
        rw [hb] at hst ec
        simp only [if_true] at hst ⊢
        rw [if_pos (by omega), Int.toNat_natCast, hst]
        simp only [Option.bind_some]
        rw [ec]
  exact key T 0 (by omega)
theorem cost_ok {n a b T N : Nat} {ms : List Int} (h : Fit n a b ms T N) (l : List Bool) (hl : l.length = N) : f_hard_Cost (n : Int) (a : Int) (b : Int) l ms = some (((cs n a b ms l T : Nat) : Int), 0) := by
  have h5 := h.max
  have hcs := cs_le n a b ms l T
  unfold f_hard_Cost
  rw [fits_ok h]
  simp only [Option.bind_some]
  rw [half_ok h, many_ok h, if_neg (by simp [hl]), cost_loop h l]
  simp only [Option.bind_some]
  rw [w64 (by omega) (by omega)]
/-! ### Thinned, filled (as in HardThins) -/
theorem index_some (keep : List Bool) (hl : keep.length < 140737488351233) : ∃ r, f_slices_Index_bool_bool keep true = some r ∧ (0 ≤ r ↔ true ∈ keep) := by
  obtain ⟨r, h1, h2⟩ := loop_inv (f := f_slices_Index_bool_bool.s1 keep true) (fun t : Int => 0 ≤ t ∧ t ≤ keep.length ∧ ∀ j : Nat, (j : Int) < t → keep[j]? = some false) (fun t => keep.length - t.toNat)
    (fun r : Unit ⊕ Int => match r with | .inl _ => true ∉ keep | .inr t => 0 ≤ t ∧ true ∈ keep) (by
      rintro t ⟨h1, h2, h3⟩
      simp only [f_slices_Index_bool_bool.s1, f_slices_Index_bool_bool.s1c]
      by_cases ht : t < keep.length
      · rw [if_pos (by simpa using ht), if_pos (by omega)]
        have hg : keep[t.toNat]? = some (gt keep t) := gt_of h1 ht
        by_cases hk : (true == gt keep t) = true
        · rw [if_pos hk]
          have hk' : gt keep t = true := by simpa using hk
          exact .inr ⟨_, rfl, h1, by rw [← hk']; exact gt_mem h1 ht⟩
        · rw [if_neg hk, w64 (by omega) (by omega)]
          have hk' : gt keep t = false := by simpa using hk
          refine .inl ⟨_, rfl, ⟨by omega, by omega, fun j hj => ?_⟩, by omega⟩
          by_cases hjt : (j : Int) < t
          · exact h3 j hjt
          · obtain rfl : j = t.toNat := by omega
            rw [hg, hk']
      · rw [if_neg (by simpa using ht)]
        refine .inr ⟨_, rfl, fun hm => ?_⟩
        obtain ⟨j, hj, hj'⟩ := List.getElem_of_mem hm
        have := h3 j (by omega)
        rw [List.getElem?_eq_getElem hj, hj'] at this
        simp at this) 0 ⟨by omega, by omega, fun j hj => by omega⟩
  unfold f_slices_Index_bool_bool
  rw [h1]
  cases r with
  | inl u => exact ⟨-1, rfl, fun h => absurd h (by decide), fun h => absurd h h2⟩
  | inr t => exact ⟨t, rfl, fun _ => h2.2, fun _ => h2.1⟩
theorem pattern_hard (keep : List Bool) (hl : keep.length < 140737488351233) : f_hard_pattern keep = some (decide (true ∈ keep ∧ keep.length ≤ 64)) := by
  unfold f_hard_pattern f_slices_Contains_bool_bool
  obtain ⟨r, h1, h2⟩ := index_some keep hl
  rw [h1]
  by_cases h : keep.length ≤ 64
  · rw [if_pos (by simpa using (by omega : (keep.length : Int) ≤ 64))]
    simp [h, h2]
  · rw [if_neg (by simpa using (by omega : ¬ (keep.length : Int) ≤ 64))]
    simp [h]
def keepAt (keep : List Bool) (i : Nat) : Bool := gt keep ((i : Int).tmod keep.length)
theorem keepAt_bd (keep : List Bool) (hk : 0 < keep.length) (i : Nat) : 0 ≤ (i : Int).tmod keep.length ∧ (i : Int).tmod keep.length < keep.length := by
  rw [Int.tmod_eq_emod_of_nonneg (by omega)]
  exact ⟨Int.emod_nonneg _ (by omega), Int.emod_lt_of_pos _ (by omega)⟩
def cnt (keep : List Bool) : Nat → Nat
  | 0 => 0
  | i + 1 => cnt keep i + if keepAt keep i then 1 else 0
theorem cnt_mono (keep : List Bool) : ∀ d i, cnt keep i ≤ cnt keep (i + d)
  | 0, i => Nat.le_refl _
  | d + 1, i => by
    have := cnt_mono keep d i
    rw [← Nat.add_assoc, cnt]
    omega
theorem cnt_le (keep : List Bool) : ∀ i, cnt keep i ≤ i
  | 0 => Nat.le_refl _
  | i + 1 => by have := cnt_le keep i; rw [cnt]; split <;> omega
/-- the mark at place j -/
def mkF (l keep : List Bool) (j : Nat) : Int := if keepAt keep j then (if gt l (cnt keep j : Int) then 1 else 0) else 2
theorem fill_hard (l keep : List Bool) (hk : 0 < keep.length) (hl : l.length < 140737488351233) (n : Nat) (hn : n ≤ 32768) :
    ∃ r, loop (f_hard_Fill.s1 l keep (n : Int)) (List.replicate n (0 : Int), 0, 0) = some r ∧
      match r with
      | .inl q => q.2 = (cnt keep n : Int) ∧ q.1 = (List.range n).map (mkF l keep) ∧ cnt keep n ≤ l.length
      | .inr q => q = ([], 1) ∧ l.length < cnt keep n := by
  have key : ∀ m t : Nat, t + m = n → cnt keep t ≤ l.length → ∃ r, loop (f_hard_Fill.s1 l keep (n : Int)) ((List.range t).map (mkF l keep) ++ List.replicate m (0 : Int), (cnt keep t : Int), (t : Int)) = some r ∧
      match r with
      | .inl q => q.2 = (cnt keep n : Int) ∧ q.1 = (List.range n).map (mkF l keep) ∧ cnt keep n ≤ l.length
      | .inr q => q = ([], 1) ∧ l.length < cnt keep n := by
    intro m
    induction m with
    | zero =>
      intro t ht hc
      obtain rfl : t = n := by omega
      refine ⟨.inl ((List.range t).map (mkF l keep), (cnt keep t : Int)), loop_done ?_, rfl, rfl, hc⟩
      simp only [f_hard_Fill.s1, f_hard_Fill.s1c]
      rw [if_neg (by simp)]; simp
    | succ m ih =>
      intro t ht hc
      have hb := keepAt_bd keep hk t
      have hlen : ((List.range t).map (mkF l keep) ++ List.replicate (m + 1) (0 : Int)).length = n := by simp; omega
      have hset : ∀ v : Int, ((List.range t).map (mkF l keep) ++ List.replicate (m + 1) (0 : Int)).set (t : Int).toNat v = (List.range t).map (mkF l keep) ++ v :: List.replicate m 0 := by
        intro v
        rw [Int.toNat_natCast, List.set_append_right _ _ (by simp)]
        simp [List.replicate_succ]
      have hnext : (List.range (t + 1)).map (mkF l keep) ++ List.replicate m (0 : Int) = (List.range t).map (mkF l keep) ++ mkF l keep t :: List.replicate m 0 := by
        rw [List.range_succ, List.map_append]; simp
      have htn : (t : Int) < n := by omega
      have hct := cnt_le keep t
      by_cases h : keepAt keep t = true
      · have hcs : cnt keep (t + 1) = cnt keep t + 1 := by rw [cnt, h]; rfl
        by_cases he : cnt keep t = l.length
        · refine ⟨.inr ([], 1), loop_done ?_, rfl, ?_⟩
          · simp only [f_hard_Fill.s1, f_hard_Fill.s1c]
            have h' : gt keep ((t : Int).tmod keep.length) = true := h
            rw [if_pos (by simpa using htn), if_pos (by omega), if_pos hb, h', if_neg (by simp), if_pos (by simp; omega)]
          · have := cnt_mono keep m (t + 1)
            rw [show t + 1 + m = n by omega] at this
            omega
        · obtain ⟨r, h1, h2⟩ := ih (t + 1) (by omega) (by omega)
          refine ⟨r, (loop_step ?_).trans h1, h2⟩
          simp only [f_hard_Fill.s1, f_hard_Fill.s1c]
          have h' : gt keep ((t : Int).tmod keep.length) = true := h
          rw [if_pos (by simpa using htn), if_pos (by omega), if_pos hb, h', if_neg (by simp), if_neg (by simp; omega), if_pos (by omega), hnext, hcs, w64 (x := (cnt keep t : Int) + 1) (by omega) (by omega), w64 (x := (t : Int) + 1) (by omega) (by omega)]
          by_cases hg : gt l (cnt keep t : Int) = true
          · rw [if_pos hg, if_pos (by rw [hlen]; omega), hset]
            simp [mkF, h, hg]
          · rw [if_neg hg]
            have : (List.range t).map (mkF l keep) ++ List.replicate (m + 1) (0 : Int) = (List.range t).map (mkF l keep) ++ mkF l keep t :: List.replicate m 0 := by
              simp [mkF, h, hg, List.replicate_succ]
            rw [this]; rfl
      · have hcs : cnt keep (t + 1) = cnt keep t := by rw [cnt, if_neg h]; rfl
        obtain ⟨r, h1, h2⟩ := ih (t + 1) (by omega) (by omega)
        refine ⟨r, (loop_step ?_).trans h1, h2⟩
        simp only [f_hard_Fill.s1, f_hard_Fill.s1c]
        have h' : gt keep ((t : Int).tmod keep.length) = false := by simpa [keepAt] using h
        rw [if_pos (by simpa using htn), if_pos (by omega), if_pos hb, h', if_pos (by simp), if_pos (by rw [hlen]; omega), hset, hnext, hcs, w64 (x := (t : Int) + 1) (by omega) (by omega)]
        simp [mkF, h]
  have := key n 0 (by omega) (by simp [cnt])
  simpa [cnt] using this
def marks (l : List Bool) : List Int := l.map fun b => if b then 1 else 0
theorem marks_hard (l : List Bool) (hl : l.length < 140737488351233) : f_hard_Marks l = some (marks l) := by
  unfold f_hard_Marks
  rw [if_pos (by omega), Int.toNat_natCast]
  have := loop_for (f := f_hard_Marks.s1 l) l.length (fun t => (marks l).take t ++ List.replicate (l.length - t) 0) (marks l) (fun t ht => ?_) ?_
  · simp only [List.take_zero, List.nil_append, Nat.sub_zero] at this
    rw [this]; rfl
  · simp only [f_hard_Marks.s1, f_hard_Marks.s1c]
    have hm : (marks l).length = l.length := by simp [marks]
    have e : (marks l).take (t + 1) = (marks l).take t ++ [if gt l (t : Int) then 1 else 0] := by
      rw [List.take_succ_eq_append_getElem (by simpa [marks] using ht), gt_nat ht]; simp [marks]
    have e2 : List.replicate (l.length - t) (0 : Int) = 0 :: List.replicate (l.length - (t + 1)) 0 := by
      rw [← List.replicate_succ]; congr 1; omega
    have hlen : ((marks l).take t).length = t := by simp [hm]; omega
    rw [if_pos (by simpa using ht), if_pos (by omega), w64 (by omega) (by omega), e, e2]
    by_cases h : gt l (t : Int) = true
    · rw [if_pos h, if_pos (by simp [hm]; omega), if_pos h, Int.toNat_natCast, List.set_append_right _ _ (by omega), hlen]; simp
    · rw [if_neg h, if_neg h]; simp
  · simp only [f_hard_Marks.s1, f_hard_Marks.s1c]
    rw [if_neg (by simp), List.take_of_length_le (by simp [marks])]; simp
theorem bits_self (a : List Bool) (h : a.length < 140737488351233) : f_foghornlaw22_sameBits a a = some true := by
  unfold f_foghornlaw22_sameBits
  rw [if_neg (by simp)]
  have := loop_same (f := f_foghornlaw22_sameBits.s1 a a) a (· != ·) (by simp) (by omega) false (fun i => rfl)
  rw [this]; rfl
theorem marks_self (a : List Int) (h : a.length < 140737488351233) : f_foghornlaw22_sameMarks a a = some true := by
  unfold f_foghornlaw22_sameMarks
  rw [if_neg (by simp)]
  have := loop_same (f := f_foghornlaw22_sameMarks.s1 a a) a (· != ·) (by simp) (by omega) false (fun i => rfl)
  rw [this]; rfl
theorem fill_ok (l keep : List Bool) (n : Nat) (hn : n ≤ 32768) (hl : l.length < 140737488351233) (hk : true ∈ keep) (hk2 : keep.length ≤ 64) (hc : cnt keep n = l.length) :
    f_hard_Fill l keep (n : Int) = some ((List.range n).map (mkF l keep), 0) := by
  have hk0 : 0 < keep.length := List.length_pos_of_mem hk
  unfold f_hard_Fill
  rw [pattern_hard keep (by omega)]
  simp only [Option.bind_some, hk, hk2, and_self, decide_true, Bool.not_true, Bool.false_or]
  rw [if_neg (by simp; omega), if_pos (by omega), Int.toNat_natCast]
  obtain ⟨r, h1, h2⟩ := fill_hard l keep hk0 hl n hn
  rw [h1]
  cases r with
  | inl q =>
    obtain ⟨h3, h4, h5⟩ := h2
    simp only [Option.bind_some, sm]
    rw [if_neg (by rw [h3, hc]; simp), h4]
  | inr q => obtain ⟨_, h3⟩ := h2; omega
theorem fit_w : Fit 3 7 5 [1, 1, 0, 0, 1, 1] 3 1 := ⟨⟨by decide, by decide, by decide, by decide, by decide, by decide, by decide⟩, rfl, rfl, by decide, by decide⟩
theorem works_true : f_foghornlaw22_works = some true := by
  unfold f_foghornlaw22_works f_foghornlaw22_short
  have hm : marks [true, true, false, false, true, true] = [1, 1, 0, 0, 1, 1] := by decide
  have hp := path_ok fit_w
  have hc := cost_ok fit_w [true] rfl
  have hf := fill_ok [true, false, true] [true, true, false] 4 (by decide) (by decide) (by decide) (by decide) (by decide)
  rw [show msgN 3 7 5 [1, 1, 0, 0, 1, 1] 3 1 1048576 1 = [true] from by decide +kernel, show D 3 7 5 [1, 1, 0, 0, 1, 1] 3 1 1048576 3 0 = 1 from by decide +kernel] at hp
  rw [show cs 3 7 5 [1, 1, 0, 0, 1, 1] [true] 3 = 1 from by decide +kernel] at hc
  rw [show (List.range 4).map (mkF [true, false, true] [true, true, false]) = [1, 0, 2, 1] from by decide +kernel] at hf
  rw [show ((3 : Nat) : Int) = 3 from rfl, show ((7 : Nat) : Int) = 7 from rfl, show ((5 : Nat) : Int) = 5 from rfl, show ((1 : Nat) : Int) = 1 from rfl] at hp hc
  rw [show ((4 : Nat) : Int) = 4 from rfl] at hf
  rw [marks_hard _ (by decide), hm]
  simp only [Option.bind_some]
  rw [hp, hc, hf]
  simp only [Option.bind_some, beq_self_eq_true, Bool.and_self, if_true]
  rw [bits_self _ (by decide)]
  simp only [Option.bind_some, beq_self_eq_true, Bool.and_self, if_true]
  rw [marks_self _ (by decide)]
  rfl
/-! ### None costs less -/
section
variable {n a b T N : Nat} {ms : List Int}
theorem bitAt_big {l : List Bool} {i : Nat} (h : l.length ≤ i) : bitAt l i = false := by unfold bitAt; rw [if_neg (by omega)]
theorem bitAt_lt {l : List Bool} {i : Nat} (h : i < l.length) : bitAt l i = gt l (i : Int) := by unfold bitAt; rw [if_pos h]
theorem D_step (F : Nat) {t : Nat} (ht : t < T) (s : Nat) (c : Bool) (hc : N ≤ t → c = false) : D n a b ms T N F (T - t) s ≤ cst n a b ms t s c + D n a b ms T N F (T - (t + 1)) (nx n s c) := by
  have e : T - t = (T - (t + 1)) + 1 := by omega
  rw [e]
  simp only [D]
  rw [show T - (T - (t + 1) + 1) = t by omega]
  by_cases h : t < N
  · rw [if_pos h]
    cases c with
    | false => exact Nat.min_le_left _ _
    | true => exact Nat.min_le_right _ _
  · rw [if_neg h, hc (by omega)]; exact Nat.le_refl _
theorem D_up (F : Nat) (l : List Bool) (hl : l.length = N) {t : Nat} (ht : t < T) :
    D n a b ms T N F (T - t) (st n l t) + cs n a b ms l t ≤ D n a b ms T N F (T - (t + 1)) (st n l (t + 1)) + cs n a b ms l (t + 1) := by
  have h1 := D_step (n := n) (a := a) (b := b) (ms := ms) (N := N) F ht (st n l t) (bitAt l t) (fun h => bitAt_big (by omega))
  simp only [cs]
  have h2 : nx n (st n l t) (bitAt l t) = st n l (t + 1) := rfl
  rw [h2] at h1
  omega
theorem D_mono (F : Nat) (l : List Bool) (hl : l.length = N) : ∀ k t, t + k ≤ T → D n a b ms T N F (T - t) (st n l t) + cs n a b ms l t ≤ D n a b ms T N F (T - (t + k)) (st n l (t + k)) + cs n a b ms l (t + k)
  | 0, t, _ => Nat.le_refl _
  | k + 1, t, h => by
    have h1 := D_mono F l hl k t (by omega)
    have h2 := D_up (n := n) (a := a) (b := b) (ms := ms) F l hl (show t + k < T by omega)
    rw [Nat.add_assoc] at h2
    exact Nat.le_trans h1 h2
theorem D_end (h : Fit n a b ms T N) (F : Nat) (l : List Bool) (hl : l.length = N) : D n a b ms T N F (T - T) (st n l T) + cs n a b ms l T = cs n a b ms l T := by
  have : st n l T = 0 := by have := st_end h.toCodeOK l; rw [hl, ← h.tn] at this; exact this
  rw [this, Nat.sub_self]; simp [D]
/-- no message costs less -/
theorem cs_ge (h : Fit n a b ms T N) (F : Nat) (l : List Bool) (hl : l.length = N) : D n a b ms T N F T 0 ≤ cs n a b ms l T := by
  have h1 := D_mono (n := n) (a := a) (b := b) (ms := ms) (T := T) (N := N) F l hl T 0 (by omega)
  rw [Nat.zero_add, D_end h F l hl] at h1
  simpa [st, cs] using h1
theorem msgN_len (F M : Nat) : (msgN n a b ms T N F M).length = M := by simp [msgN]
theorem msgN_get (F M : Nat) {t : Nat} (ht : t < M) : gt (msgN n a b ms T N F M) (t : Int) = bitOf n a b ms T N F t (pst n a b ms T N F t) := by
  rw [gt_nat (by rw [msgN_len]; exact ht)]; simp [msgN]
theorem msgN_st (F : Nat) : ∀ t, t ≤ N → st n (msgN n a b ms T N F N) t = pst n a b ms T N F t
  | 0, _ => rfl
  | t + 1, h => by
    have ih := msgN_st F t (by omega)
    simp only [st, pst]
    rw [ih, bitAt_lt (by rw [msgN_len]; omega), msgN_get F N (by omega)]
/-- the told one's cost is the least -/
theorem D_eq (h : Fit n a b ms T N) (F : Nat) {t : Nat} (ht : t < T) :
    D n a b ms T N F (T - t) (st n (msgN n a b ms T N F N) t) = cst n a b ms t (st n (msgN n a b ms T N F N) t) (bitAt (msgN n a b ms T N F N) t) + D n a b ms T N F (T - (t + 1)) (st n (msgN n a b ms T N F N) (t + 1)) := by
  have e : T - t = (T - (t + 1)) + 1 := by omega
  have hst : st n (msgN n a b ms T N F N) (t + 1) = nx n (st n (msgN n a b ms T N F N) t) (bitAt (msgN n a b ms T N F N) t) := rfl
  have hD : ∀ s, D n a b ms T N F (T - t) s = if t < N then min (cst n a b ms t s false + D n a b ms T N F (T - (t + 1)) (nx n s false)) (cst n a b ms t s true + D n a b ms T N F (T - (t + 1)) (nx n s true)) else cst n a b ms t s false + D n a b ms T N F (T - (t + 1)) (nx n s false) := fun s => by
    rw [e]; simp only [D]; rw [show T - (T - (t + 1) + 1) = t by omega]
  by_cases hN : t < N
  · have hb : bitAt (msgN n a b ms T N F N) t = bitOf n a b ms T N F t (st n (msgN n a b ms T N F N) t) := by
      rw [bitAt_lt (by rw [msgN_len]; omega), msgN_get F N hN, msgN_st F t (by omega)]
    rw [hst, hb]
    generalize st n (msgN n a b ms T N F N) t = s
    have hs := hD s
    rw [if_pos hN] at hs
    unfold bitOf
    by_cases hx : cst n a b ms t s false + D n a b ms T N F (T - (t + 1)) (nx n s false) = D n a b ms T N F (T - t) s
    · rw [decide_eq_false (by omega)]; exact hx.symm
    · rw [decide_eq_true (by omega), hs]; rw [hs] at hx; omega
  · rw [hst, bitAt_big (by rw [msgN_len]; omega), hD, if_neg hN]
theorem cs_msg (h : Fit n a b ms T N) (F : Nat) : cs n a b ms (msgN n a b ms T N F N) T = D n a b ms T N F T 0 := by
  have key : ∀ t, t ≤ T → D n a b ms T N F (T - t) (st n (msgN n a b ms T N F N) t) + cs n a b ms (msgN n a b ms T N F N) t = D n a b ms T N F T 0 := by
    intro t
    induction t with
    | zero => intro _; simp [st, cs]
    | succ t ih =>
      intro ht
      have h1 := ih (by omega)
      rw [D_eq h F (by omega)] at h1
      simp only [cs]
      omega
  have := key T (Nat.le_refl _)
  rw [D_end h F _ (msgN_len F N)] at this
  exact this
end

/-! ### A code out of any numbers -/
theorem u64_nat (x : Int) : ∃ m : Nat, IntKind.u64.wrap x = (m : Int) ∧ m < 18446744073709551616 := by
  refine ⟨(IntKind.u64.wrap x).toNat, ?_, ?_⟩ <;> simp [IntKind.wrap, IntKind.bits, IntKind.signed, IntKind.min, IntKind.max] <;> omega
theorem fit_ok {length one two : Int} (w1 : (Lit.int .u32 one).wf = true) (w2 : (Lit.int .u32 two).wf = true) :
    ∃ n a b : Nat, CodeOK n a b ∧ f_foghornlaw22_fit length one two = some ((n : Int), (a : Int), (b : Int)) := by
  have b1 := wf_u32 w1
  have b2 := wf_u32 w2
  obtain ⟨m, hm, hmb⟩ := u64_nat length
  obtain ⟨x, hx⟩ : ∃ m : Nat, one = (m : Int) := ⟨one.toNat, by omega⟩
  obtain ⟨y, hy⟩ : ∃ m : Nat, two = (m : Int) := ⟨two.toNat, by omega⟩
  subst hx hy
  have en : IntKind.i64.wrap (2 + IntKind.i64.wrap ((IntKind.u64.wrap length).tmod 6)) = ((m % 6 + 2 : Nat) : Int) := by
    rw [hm, show (6 : Int) = ((6 : Nat) : Int) from rfl, tmod_nat, w64 (x := ((m % 6 : Nat) : Int)) (by omega) (by omega), w64 (by omega) (by omega)]; omega
  obtain ⟨n, hn⟩ : ∃ n, n = m % 6 + 2 := ⟨_, rfl⟩
  have h2 : 2 ≤ n := by omega
  have h7 : n ≤ 7 := by omega
  obtain ⟨q, p1, p2, q1, q2⟩ : ∃ q, 2 ^ (n - 1) = 2 * q ∧ 2 ^ n = 4 * q ∧ 1 ≤ q ∧ q ≤ 32 := by
    have : n = 2 ∨ n = 3 ∨ n = 4 ∨ n = 5 ∨ n = 6 ∨ n = 7 := by omega
    refine ⟨2 ^ (n - 2), ?_⟩
    rcases this with h | h | h | h | h | h <;> rw [h] <;> decide
  have et : IntKind.u32.wrap (ishl .u32 (1 : Int) ((n : Nat) : Int) - 1) = ((2 ^ n - 1 : Nat) : Int) := by
    rw [show ishl .u32 (1 : Int) ((n : Nat) : Int) = ((2 ^ n : Nat) : Int) by rw [show ((1 : Int)) = ((1 : Nat) : Int) from rfl, ishl32 (by omega) (by omega), Nat.one_mul], w32 (by omega) (by omega)]; omega
  have et2 : ishl .u32 (1 : Int) (IntKind.i64.wrap (((n : Nat) : Int) - 1)) = ((2 ^ (n - 1) : Nat) : Int) := by
    rw [w64 (by omega) (by omega), show (n : Int) - 1 = ((n - 1 : Nat) : Int) by omega, show ((1 : Int)) = ((1 : Nat) : Int) from rfl, ishl32 (by omega) (by omega), Nat.one_mul]
  have m1 := Nat.mod_lt x (show 0 < 2 ^ n by omega)
  have m2 := Nat.mod_lt y (show 0 < 2 ^ n by omega)
  have e4 : iand .u32 (x : Int) ((2 ^ n - 1 : Nat) : Int) = ((x % 2 ^ n : Nat) : Int) := by rw [iand32 (by omega) (by omega), Nat.and_two_pow_sub_one_eq_mod]
  have e5 : iand .u32 (y : Int) ((2 ^ n - 1 : Nat) : Int) = ((y % 2 ^ n : Nat) : Int) := by rw [iand32 (by omega) (by omega), Nat.and_two_pow_sub_one_eq_mod]
  have hw : IntKind.i64.wrap ((n : Int) - 1) = ((n - 1 : Nat) : Int) := by rw [w64 (by omega) (by omega)]; omega
  obtain ⟨u, hu⟩ : ∃ u, u = x % 2 ^ n := ⟨_, rfl⟩
  obtain ⟨z, hz⟩ : ∃ z, z = y % 2 ^ n := ⟨_, rfl⟩
  rw [← hu] at m1 e4
  rw [← hz] at m2 e5
  have ho1 : 2 ^ (n - 1) ≤ u ||| 2 ^ (n - 1) := Nat.right_le_or
  have ho2 : u ||| 2 ^ (n - 1) < 2 ^ n := Nat.or_lt_two_pow m1 (by omega)
  unfold f_foghornlaw22_fit
  rw [en, ← hn, et, et2, e4, e5, hw, if_pos (by omega), if_pos (by omega), ior32 (by omega) (by omega)]
  by_cases h0 : z = 0
  · rw [if_pos (by simp [h0])]
    exact ⟨n, u ||| 2 ^ (n - 1), 1, ⟨h2, h7, by omega, by omega, ho2, by omega, by omega⟩, rfl⟩
  · rw [if_neg (by simpa using h0)]
    exact ⟨n, u ||| 2 ^ (n - 1), z, ⟨h2, h7, by omega, by omega, ho2, m2, by omega⟩, rfl⟩

/-! ### The law -/
/-! ### Sums over places -/
def fs (f : Nat → Nat) : Nat → Nat
  | 0 => 0
  | m + 1 => fs f m + f m
theorem fs_add (f : Nat → Nat) (i : Nat) : ∀ k, fs f (i + k) = fs f i + fs (fun t => f (i + t)) k
  | 0 => by simp [fs]
  | k + 1 => by rw [← Nat.add_assoc]; simp only [fs]; rw [fs_add f i k]; omega
theorem fs_congr {f g : Nat → Nat} : ∀ {m}, (∀ i, i < m → f i = g i) → fs f m = fs g m
  | 0, _ => rfl
  | m + 1, h => by simp only [fs]; rw [fs_congr fun i hi => h i (by omega), h m (by omega)]
theorem fs_le {f g : Nat → Nat} : ∀ {m}, (∀ i, i < m → f i ≤ g i) → fs f m ≤ fs g m
  | 0, _ => Nat.le_refl _
  | m + 1, h => by have := fs_le (f := f) (g := g) (m := m) fun i hi => h i (by omega); have := h m (by omega); simp only [fs]; omega
theorem fs_plus (f g : Nat → Nat) : ∀ m, fs (fun i => f i + g i) m = fs f m + fs g m
  | 0 => rfl
  | m + 1 => by simp only [fs]; rw [fs_plus f g m]; omega
theorem fs_zero : ∀ m, fs (fun _ => 0) m = 0
  | 0 => rfl
  | m + 1 => by simp only [fs]; rw [fs_zero m]
theorem fs_upd {f g : Nat → Nat} {p : Nat} : ∀ {m}, p < m → (∀ i, i < m → i ≠ p → g i = f i) → fs g m + f p = fs f m + g p
  | 0, h, _ => by omega
  | m + 1, h, hg => by
    simp only [fs]
    by_cases hp : p = m
    · subst hp
      rw [fs_congr (m := p) fun i hi => hg i (by omega) (by omega)]; omega
    · have := fs_upd (m := m) (by omega) fun i hi hn => hg i (by omega) hn
      have := hg m (by omega) (by omega)
      omega
theorem fs_mono (f : Nat → Nat) {i j : Nat} (h : i ≤ j) : fs f i ≤ fs f j := by
  obtain ⟨k, rfl⟩ := Nat.exists_eq_add_of_le h
  rw [fs_add]; omega
theorem fs_two (f : Nat → Nat) : ∀ t, fs f (2 * t) = fs (fun i => f (2 * i) + f (2 * i + 1)) t
  | 0 => rfl
  | t + 1 => by rw [show 2 * (t + 1) = 2 * t + 1 + 1 by omega]; simp only [fs]; rw [fs_two f t]; omega

/-! ### A code is linear -/
theorem par_xor (x y : Nat) : par (x ^^^ y) = (par x ^^ par y) := by
  have key : ∀ (l : List Nat) (p q : Bool), l.foldl (fun c i => c != (x ^^^ y).testBit i) (p ^^ q) = (l.foldl (fun c i => c != x.testBit i) p ^^ l.foldl (fun c i => c != y.testBit i) q) := by
    intro l
    induction l with
    | nil => intro p q; rfl
    | cons i l ih =>
      intro p q
      simp only [List.foldl_cons]
      rw [← ih]
      congr 1
      rw [Nat.testBit_xor]
      cases p <;> cases q <;> cases x.testBit i <;> cases y.testBit i <;> rfl
  exact key _ false false
theorem and_xor (x y a : Nat) : (x ^^^ y) &&& a = (x &&& a) ^^^ (y &&& a) := by
  apply Nat.eq_of_testBit_eq
  intro i
  simp only [Nat.testBit_and, Nat.testBit_xor]
  cases x.testBit i <;> cases y.testBit i <;> cases a.testBit i <;> rfl
theorem xor_half (x y : Nat) : (x ^^^ y) / 2 = (x / 2) ^^^ (y / 2) := by
  have := Nat.shiftRight_xor_distrib (a := x) (b := y) (i := 1)
  simpa [Nat.shiftRight_eq_div_pow] using this
theorem al_xor {n s : Nat} (hs : s < 2 ^ (n - 1)) (c : Bool) : al n s c = s ^^^ (if c then 2 ^ (n - 1) else 0) := by
  cases c with
  | false => simp [al]
  | true =>
    have h1 := Nat.two_pow_add_eq_or_of_lt hs 1
    simp only [Nat.mul_one] at h1
    simp only [al, if_true]
    rw [Nat.add_comm, h1]
    apply Nat.eq_of_testBit_eq
    intro i
    simp only [Nat.testBit_or, Nat.testBit_xor, Nat.testBit_two_pow]
    by_cases hi : n - 1 = i
    · subst hi
      rw [Nat.testBit_lt_two_pow hs]; simp
    · simp [hi]
theorem al_lin {n s s' : Nat} (hs : s < 2 ^ (n - 1)) (hs' : s' < 2 ^ (n - 1)) (c c' : Bool) : al n (s ^^^ s') (c ^^ c') = al n s c ^^^ al n s' c' := by
  rw [al_xor hs, al_xor hs', al_xor (Nat.xor_lt_two_pow hs hs')]
  have e : (if (c ^^ c') = true then 2 ^ (n - 1) else 0) = (if c = true then 2 ^ (n - 1) else 0) ^^^ (if c' = true then 2 ^ (n - 1) else 0) := by
    cases c <;> cases c' <;> simp
  rw [e]
  generalize (if c = true then 2 ^ (n - 1) else 0) = u
  generalize (if c' = true then 2 ^ (n - 1) else 0) = v
  ac_rfl
theorem nx_lin {n s s' : Nat} (hs : s < 2 ^ (n - 1)) (hs' : s' < 2 ^ (n - 1)) (c c' : Bool) : nx n (s ^^^ s') (c ^^ c') = nx n s c ^^^ nx n s' c' := by
  unfold nx; rw [al_lin hs hs', xor_half]
theorem ob_lin {n a s s' : Nat} (hs : s < 2 ^ (n - 1)) (hs' : s' < 2 ^ (n - 1)) (c c' : Bool) : ob n a (s ^^^ s') (c ^^ c') = (ob n a s c ^^ ob n a s' c') := by
  unfold ob; rw [al_lin hs hs', and_xor, par_xor]
/-- where two messages are unlike -/
def dif (l m : List Bool) : List Bool := List.zipWith (· ^^ ·) l m
theorem dif_len {l m : List Bool} (h : l.length = m.length) : (dif l m).length = l.length := by unfold dif; rw [List.length_zipWith]; omega
theorem dif_bit {l m : List Bool} (h : l.length = m.length) (i : Nat) : bitAt (dif l m) i = (bitAt l i ^^ bitAt m i) := by
  have hl := dif_len h
  unfold bitAt
  by_cases hi : i < l.length
  · rw [if_pos (by omega), if_pos hi, if_pos (by omega), gt_nat (by omega), gt_nat hi, gt_nat (by omega)]
    simp [dif]
  · rw [if_neg (by omega), if_neg hi, if_neg (by omega)]; rfl
theorem st_lin {n a b : Nat} (hc : CodeOK n a b) {l m : List Bool} (h : l.length = m.length) : ∀ i, st n (dif l m) i = st n l i ^^^ st n m i
  | 0 => by simp [st]
  | i + 1 => by
    simp only [st]
    rw [st_lin hc h i, dif_bit h, nx_lin (st_lt hc l i) (st_lt hc m i)]
/-- how many of two are true; what a step weighs -/
def bn (x : Bool) : Nat := if x then 1 else 0
def wt (n a b s : Nat) (c : Bool) : Nat := bn (ob n a s c) + bn (ob n b s c)
theorem wt_le (n a b s : Nat) (c : Bool) : wt n a b s c ≤ 2 := by
  unfold wt bn; split <;> split <;> omega
/-- in how many places what two messages are coded is unlike, after so many steps -/
def dst (n a b : Nat) (l m : List Bool) (T : Nat) : Nat := fs (fun t => bn (ob n a (st n l t) (bitAt l t) ^^ ob n a (st n m t) (bitAt m t)) + bn (ob n b (st n l t) (bitAt l t) ^^ ob n b (st n m t) (bitAt m t))) T
theorem dst_wt {n a b : Nat} (hc : CodeOK n a b) {l m : List Bool} (h : l.length = m.length) (T : Nat) : dst n a b l m T = fs (fun t => wt n a b (st n (dif l m) t) (bitAt (dif l m) t)) T := by
  unfold dst
  apply fs_congr
  intro t _
  unfold wt
  rw [st_lin hc h, dif_bit h, ob_lin (st_lt hc l t) (st_lt hc m t), ob_lin (st_lt hc l t) (st_lt hc m t)]
/-! ### Ways out of nought and back -/
/-- a way from the state behind the first true bit, over states that are not nought -/
structure Way (n : Nat) (q : Nat → Nat) (c : Nat → Bool) (m : Nat) : Prop where
  start : q 0 = nx n 0 true
  step : ∀ i, i < m → q (i + 1) = nx n (q i) (c i)
  pos : ∀ i, i < m → q i ≠ 0
def wy (n a b : Nat) (q : Nat → Nat) (c : Nat → Bool) (m : Nat) : Nat := wt n a b 0 true + fs (fun i => wt n a b (q i) (c i)) m
theorem Way.less {n : Nat} {q : Nat → Nat} {c : Nat → Bool} {m k : Nat} (h : Way n q c m) (hk : k ≤ m) : Way n q c k :=
  ⟨h.start, fun i hi => h.step i (by omega), fun i hi => h.pos i (by omega)⟩
theorem Way.lt {n a b : Nat} (hc : CodeOK n a b) {q : Nat → Nat} {c : Nat → Bool} {m : Nat} (h : Way n q c m) : ∀ i, i ≤ m → q i < 2 ^ (n - 1)
  | 0, _ => by rw [h.start]; exact nx_lt hc (by obtain ⟨q, p1, _, q1, _⟩ := hc.pq; omega) _
  | i + 1, hi => by rw [h.step i (by omega)]; exact nx_lt hc (Way.lt hc h i (by omega)) _
theorem pigeon : ∀ (m : Nat) (f : Nat → Nat), (∀ i, i ≤ m → f i < m) → ∃ i j, i < j ∧ j ≤ m ∧ f i = f j
  | 0, f, h => absurd (h 0 (Nat.le_refl _)) (by omega)
  | m + 1, f, h => by
    by_cases hd : ∃ i, i ≤ m ∧ f i = f (m + 1)
    · obtain ⟨i, hi, he⟩ := hd
      exact ⟨i, m + 1, by omega, Nat.le_refl _, he⟩
    · have hd' : ∀ i, i ≤ m → f i ≠ f (m + 1) := fun i hi he => hd ⟨i, hi, he⟩
      obtain ⟨i, j, h1, h2, h3⟩ := pigeon m (fun i => if f i = m then f (m + 1) else f i) (fun i hi => by
        have h1 := h i (by omega); have h2 := hd' i hi; have h3 := h (m + 1) (by omega)
        try simp only
        split <;> omega)
      refine ⟨i, j, h1, by omega, ?_⟩
      have e1 := hd' i (by omega); have e2 := hd' j h2
      try dsimp only at h3
      split at h3 <;> split at h3 <;> omega
/-- a way that is longer than there are states has a shorter one that weighs no more -/
theorem way_short {n a b : Nat} (hc : CodeOK n a b) : ∀ (m : Nat) (q : Nat → Nat) (c : Nat → Bool), Way n q c m → ∃ m' q' c', m' ≤ 2 ^ (n - 1) ∧ Way n q' c' m' ∧ q' m' = q m ∧ wy n a b q' c' m' ≤ wy n a b q c m := by
  intro m
  induction m using Nat.strongRecOn with
  | _ m ih =>
    intro q c h
    by_cases hm : m ≤ 2 ^ (n - 1)
    · exact ⟨m, q, c, hm, h, rfl, Nat.le_refl _⟩
    · obtain ⟨i, j, h1, h2, h3⟩ := pigeon (2 ^ (n - 1)) q (fun i hi => h.lt hc i (by omega))
      obtain ⟨d, hd⟩ := Nat.exists_eq_add_of_lt h1
      have hj : j = i + (d + 1) := by omega
      have key : Way n (fun t => if t ≤ i then q t else q (t + (d + 1))) (fun t => if t < i then c t else c (t + (d + 1))) (m - (d + 1)) := by
        refine ⟨by simp only [Nat.zero_le, if_true]; exact h.start, fun t ht => ?_, fun t ht => ?_⟩
        · try simp only
          by_cases ht1 : t < i
          · rw [if_pos (by omega), if_pos (by omega), if_pos ht1]; exact h.step t (by omega)
          · rw [if_neg (by omega), if_neg ht1]
            by_cases ht2 : t = i
            · subst ht2
              rw [if_pos (Nat.le_refl _), h3, hj, show t + 1 + (d + 1) = t + (d + 1) + 1 by omega]
              exact h.step _ (by omega)
            · rw [if_neg (by omega), show t + 1 + (d + 1) = t + (d + 1) + 1 by omega]
              exact h.step _ (by omega)
        · try simp only
          split
          · exact h.pos t (by omega)
          · exact h.pos _ (by omega)
      obtain ⟨m', q', c', k1, k2, k3, k4⟩ := ih (m - (d + 1)) (by omega) _ _ key
      refine ⟨m', q', c', k1, k2, k3.trans ?_, Nat.le_trans k4 ?_⟩
      · try simp only
        by_cases he : m - (d + 1) ≤ i
        · have : m - (d + 1) = i := by omega
          rw [if_pos he, this, h3, show j = m by omega]
        · rw [if_neg he, show m - (d + 1) + (d + 1) = m by omega]
      · unfold wy
        have e1 : m = j + (m - j) := by omega
        have e2 : m - (d + 1) = i + (m - j) := by omega
        have f1 := fs_add (fun t => wt n a b (q t) (c t)) j (m - j)
        rw [← e1] at f1
        rw [e2, fs_add, f1]
        have g1 : fs (fun t => wt n a b (if t ≤ i then q t else q (t + (d + 1))) (if t < i then c t else c (t + (d + 1)))) i = fs (fun t => wt n a b (q t) (c t)) i :=
          fs_congr fun t ht => by rw [if_pos (by omega), if_pos ht]
        have g2 : fs (fun t => wt n a b (if i + t ≤ i then q (i + t) else q (i + t + (d + 1))) (if i + t < i then c (i + t) else c (i + t + (d + 1)))) (m - j) = fs (fun t => wt n a b (q (j + t)) (c (j + t))) (m - j) :=
          fs_congr fun t ht => by
            rw [if_neg (show ¬ i + t < i by omega), show i + t + (d + 1) = j + t by omega]
            split
            · rw [show t = 0 by omega, Nat.add_zero, Nat.add_zero, h3]
            · rfl
        have g3 := fs_mono (fun t => wt n a b (q t) (c t)) (show i ≤ j by omega)
        simp only at g1 g2 g3 ⊢
        rw [g1, g2]
        omega

/-! ### The least weights, round by round -/
/-- a number that is the weight of a way to a state -/
def Att (n a b : Nat) (x s : Nat) : Prop := ∃ m q c, Way n q c m ∧ q m = s ∧ wy n a b q c m = x
theorem Att.on {n a b x s : Nat} (h : Att n a b x s) (hs : s ≠ 0) (d : Bool) : Att n a b (x + wt n a b s d) (nx n s d) := by
  obtain ⟨m, q, c, hw, he, hx⟩ := h
  refine ⟨m + 1, fun t => if t ≤ m then q t else nx n s d, fun t => if t < m then c t else d, ⟨by simp only [Nat.zero_le, if_true]; exact hw.start, fun t ht => ?_, fun t ht => ?_⟩, ?_, ?_⟩
  · try simp only
    by_cases h1 : t < m
    · rw [if_pos (by omega), if_pos (by omega), if_pos h1]; exact hw.step t h1
    · obtain rfl : t = m := by omega
      rw [if_neg (by omega), if_pos (Nat.le_refl _), if_neg (by omega), he]
  · try simp only
    rw [if_pos (by omega)]
    by_cases h1 : t < m
    · exact hw.pos t h1
    · obtain rfl : t = m := by omega
      rw [he]; exact hs
  · try simp only
    rw [if_neg (by omega)]
  · unfold wy at hx ⊢
    simp only [fs]
    rw [if_pos (Nat.le_refl _), if_neg (Nat.lt_irrefl _), he, ← hx]
    have : fs (fun i => wt n a b (if i ≤ m then q i else nx n s d) (if i < m then c i else d)) m = fs (fun i => wt n a b (q i) (c i)) m :=
      fs_congr fun t ht => by rw [if_pos (by omega), if_pos ht]
    rw [this]; omega
structure Lst (n a b F : Nat) (L : List Int) : Prop where
  len : 2 ^ (n - 1) ≤ L.length
  bd : ∀ s : Nat, s < 2 ^ (n - 1) → 0 ≤ gt L (s : Int) ∧ gt L (s : Int) ≤ F
  att : ∀ s : Nat, s < 2 ^ (n - 1) → gt L (s : Int) < F → Att n a b (gt L (s : Int)).toNat s
def LeL (n : Nat) (L L' : List Int) : Prop := L'.length = L.length ∧ ∀ s : Nat, s < 2 ^ (n - 1) → gt L' (s : Int) ≤ gt L (s : Int)
theorem LeL.trans {n : Nat} {L L' L'' : List Int} (h : LeL n L L') (k : LeL n L' L'') : LeL n L L'' := ⟨k.1.trans h.1, fun s hs => Int.le_trans (k.2 s hs) (h.2 s hs)⟩
theorem LeL.refl (n : Nat) (L : List Int) : LeL n L L := ⟨rfl, fun _ _ => Int.le_refl _⟩
theorem gt_set_nat {L : List Int} {i j : Nat} (hi : i < L.length) (hj : j < L.length) (v : Int) : gt (L.set i v) (j : Int) = if i = j then v else gt L (j : Int) := by
  rw [gt_nat (by rw [List.length_set]; exact hj), gt_nat hj, List.getElem_set]
/-- one number is made less -/
theorem Lst.relax {n a b F : Nat} (hc : CodeOK n a b) (hF : F ≤ 1048576) {L : List Int} (h : Lst n a b F L) {s : Nat} (hs : s < 2 ^ (n - 1)) (h0 : s ≠ 0) (d : Bool) {v : Int}
    (hv : v = if gt L (s : Int) + (wt n a b s d : Nat) < gt L ((nx n s d : Nat) : Int) then gt L (s : Int) + (wt n a b s d : Nat) else gt L ((nx n s d : Nat) : Int)) :
    Lst n a b F (L.set (nx n s d) v) ∧ LeL n L (L.set (nx n s d) v) ∧ gt (L.set (nx n s d) v) ((nx n s d : Nat) : Int) ≤ gt L (s : Int) + (wt n a b s d : Nat) := by
  have hn := nx_lt hc hs d
  have hl := h.len
  have b1 := h.bd s hs
  have b2 := h.bd _ hn
  have hle : v ≤ gt L ((nx n s d : Nat) : Int) := by rw [hv]; split <;> omega
  have hle2 : v ≤ gt L (s : Int) + (wt n a b s d : Nat) := by rw [hv]; split <;> omega
  have hv0 : 0 ≤ v := by rw [hv]; split <;> omega
  refine ⟨⟨by rw [List.length_set]; exact hl, fun t ht => ?_, fun t ht => ?_⟩, ⟨List.length_set, fun t ht => ?_⟩, ?_⟩
  · rw [gt_set_nat (by omega) (by omega)]
    split
    · omega
    · exact h.bd t ht
  · rw [gt_set_nat (by omega) (by omega)]
    split
    · rename_i e; subst e
      intro hlt
      rw [hv] at hlt ⊢
      split
      · rename_i hlt2
        have hsF : gt L (s : Int) < F := by omega
        have := (h.att s hs hsF).on h0 d
        have e : (gt L (s : Int)).toNat + wt n a b s d = (gt L (s : Int) + (wt n a b s d : Nat)).toNat := by omega
        rw [← e]; exact this
      · rename_i hlt2
        rw [if_neg hlt2] at hlt
        exact h.att _ hn hlt
    · exact h.att t ht
  · rw [gt_set_nat (by omega) (by omega)]
    split
    · rename_i e; subst e; exact hle
    · exact Int.le_refl _
  · rw [gt_set_nat (by omega) (by omega), if_pos rfl]; exact hle2
/-- all edges out of a state, of all states -/
def Edge (n a b : Nat) (L L' : List Int) (s : Nat) : Prop := ∀ d, gt L' ((nx n s d : Nat) : Int) ≤ gt L (s : Int) + (wt n a b s d : Nat)
theorem Edge.mono {n a b : Nat} (hc : CodeOK n a b) {L0 L L' L'' : List Int} {s : Nat} (hs : s < 2 ^ (n - 1)) (h : Edge n a b L L' s) (h0 : LeL n L0 L) (h1 : LeL n L' L'') : Edge n a b L0 L'' s := fun d => by
  have := h d; have := h0.2 s hs; have := h1.2 _ (nx_lt hc hs d); omega
/-- all ways of so many steps are counted -/
def Cnt (n a b r : Nat) (L : List Int) : Prop := ∀ m q c, m ≤ r → Way n q c m → gt L ((q m : Nat) : Int) ≤ (wy n a b q c m : Nat)
theorem Cnt.next {n a b r : Nat} (hc : CodeOK n a b) {L L' : List Int} (h : Cnt n a b r L) (hl : LeL n L L') (he : ∀ s : Nat, s < 2 ^ (n - 1) → s ≠ 0 → Edge n a b L L' s) : Cnt n a b (r + 1) L' := by
  intro m q c hm hw
  cases m with
  | zero => exact Int.le_trans (hl.2 _ (hw.lt hc 0 (Nat.le_refl _))) (h 0 q c (by omega) hw)
  | succ m =>
    have h1 := h m q c (by omega) (hw.less (by omega))
    have h2 := he (q m) (hw.lt hc m (by omega)) (hw.pos m (by omega)) (c m)
    rw [← hw.step m (by omega)] at h2
    unfold wy at h1 ⊢
    simp only [fs]
    omega
theorem Cnt.mono {n a b r : Nat} (hc : CodeOK n a b) {L L' : List Int} (h : Cnt n a b r L) (hl : LeL n L L') : Cnt n a b r L' := fun m q c hm hw => Int.le_trans (hl.2 _ (hw.lt hc m (Nat.le_refl _))) (h m q c hm hw)
/-- the least: it is a way's weight, and no way weighs less -/
structure Least (n a b : Nat) (x : Nat) : Prop where
  att : Att n a b x 0
  le : ∀ m q c, Way n q c m → q m = 0 → x ≤ wy n a b q c m
theorem Least.uniq {n a b x y : Nat} (h : Least n a b x) (k : Least n a b y) : x = y := by
  obtain ⟨m, q, c, w1, w2, w3⟩ := h.att
  obtain ⟨m', q', c', v1, v2, v3⟩ := k.att
  have := h.le m' q' c' v1 v2
  have := k.le m q c w1 w2
  omega
/-- by false bits all ways end -/
theorem att_zero {n a b : Nat} (hc : CodeOK n a b) : ∃ x, Att n a b x 0 ∧ x ≤ 16 := by
  have h1 := hc.n2; have h7 := hc.n7
  obtain ⟨p, p1, p2, p3, p4, p5⟩ := hc.pq
  have e0 : nx n 0 true = 2 ^ (n - 2) := by
    unfold nx al; simp only [if_true]; rw [p1, ← p5]; omega
  have key : ∀ k, k ≤ n - 2 → ∃ x, Att n a b x (2 ^ (n - 2 - k)) ∧ x ≤ 2 + 2 * k := by
    intro k
    induction k with
    | zero => intro _; exact ⟨wt n a b 0 true, ⟨0, fun _ => nx n 0 true, fun _ => false, ⟨rfl, fun i hi => by omega, fun i hi => by omega⟩, e0, by simp [wy, fs]⟩, wt_le ..⟩
    | succ k ih =>
      intro hk
      obtain ⟨x, hx, hb⟩ := ih (by omega)
      have hp : 2 ^ (n - 2 - k) = 2 * 2 ^ (n - 2 - (k + 1)) := by rw [show n - 2 - k = n - 2 - (k + 1) + 1 by omega, Nat.pow_succ, Nat.mul_comm]
      have := hx.on (by have := Nat.two_pow_pos (n - 2 - k); omega) false
      have e : nx n (2 ^ (n - 2 - k)) false = 2 ^ (n - 2 - (k + 1)) := by unfold nx al; simp only [Bool.false_eq_true, if_false]; omega
      rw [e] at this
      have := wt_le n a b (2 ^ (n - 2 - k)) false
      exact ⟨_, ‹Att n a b _ _›, by omega⟩
  obtain ⟨x, hx, hb⟩ := key (n - 2) (Nat.le_refl _)
  rw [show n - 2 - (n - 2) = 0 by omega] at hx
  have h3 := hx.on (by decide) false
  have e : nx n (2 ^ 0) false = 0 := by unfold nx al; simp
  rw [e] at h3
  have := wt_le n a b (2 ^ 0) false
  exact ⟨_, h3, by omega⟩
theorem least_of {n a b F : Nat} (hc : CodeOK n a b) (hF : 16 < F) {L : List Int} (h : Lst n a b F L) (hcn : Cnt n a b (2 ^ (n - 1)) L) : Least n a b (gt L 0).toNat := by
  have h0 : 0 < 2 ^ (n - 1) := Nat.two_pow_pos _
  have b0 := h.bd 0 h0
  rw [show ((0 : Nat) : Int) = 0 from rfl] at b0
  have le : ∀ m q c, Way n q c m → q m = 0 → (gt L 0).toNat ≤ wy n a b q c m := fun m q c hw hq => by
    obtain ⟨m', q', c', k1, k2, k3, k4⟩ := way_short hc m q c hw
    have := hcn m' q' c' k1 k2
    rw [k3, hq, show ((0 : Nat) : Int) = 0 from rfl] at this
    omega
  refine ⟨?_, le⟩
  obtain ⟨x, ⟨m, q, c, w1, w2, w3⟩, hx⟩ := att_zero hc
  have := le m q c w1 w2
  have := h.att 0 h0
  rw [show ((0 : Nat) : Int) = 0 from rfl] at this
  exact this (by omega)
/-- what is coded unlike weighs as much at least -/
theorem far_apart {n a b x : Nat} (hc : CodeOK n a b) (h : Least n a b x) {l : List Bool} {t0 T : Nat} (ht : bitAt l t0 = true) (hT : l.length + (n - 1) ≤ T) : x ≤ fs (fun t => wt n a b (st n l t) (bitAt l t)) T := by
  -- the first true bit
  have hlt : t0 < l.length := by
    apply Classical.byContradiction
    intro hn
    unfold bitAt at ht
    rw [if_neg hn] at ht; cases ht
  have h2 := hc.n2
  have first : ∀ k, (∃ t, t ≤ k ∧ bitAt l t = true) → ∃ t, t ≤ k ∧ bitAt l t = true ∧ ∀ i, i < t → bitAt l i = false := by
    intro k
    induction k with
    | zero => rintro ⟨t, h1, h2⟩; exact ⟨0, Nat.le_refl _, by rwa [show t = 0 by omega] at h2, fun i hi => by omega⟩
    | succ k ih =>
      rintro ⟨t, h1, h2⟩
      by_cases hk : ∃ t, t ≤ k ∧ bitAt l t = true
      · obtain ⟨t, e1, e2, e3⟩ := ih hk; exact ⟨t, by omega, e2, e3⟩
      · refine ⟨t, h1, h2, fun i hi => ?_⟩
        cases hb : bitAt l i with
        | false => rfl
        | true => exact absurd ⟨i, by omega, hb⟩ hk
  obtain ⟨t, ht1, ht2, ht3⟩ := first t0 ⟨t0, Nat.le_refl _, ht⟩
  have hz : ∀ i, i ≤ t → st n l i = 0 := by
    intro i
    induction i with
    | zero => intro _; rfl
    | succ i ih => intro hi; simp only [st]; rw [ih (by omega), ht3 i (by omega)]; simp [nx, al]
  -- where it comes back
  have hend : st n l (l.length + (n - 1)) = 0 := st_end hc l
  have back : ∀ k, st n l (t + 1 + k) = 0 → ∃ m, m ≤ k ∧ st n l (t + 1 + m) = 0 ∧ ∀ i, i < m → st n l (t + 1 + i) ≠ 0 := by
    intro k
    induction k with
    | zero => intro h; exact ⟨0, Nat.le_refl _, h, fun i hi => by omega⟩
    | succ k ih =>
      intro h
      by_cases hk : ∃ m, m ≤ k ∧ st n l (t + 1 + m) = 0
      · have : ∀ j, (∃ m, m ≤ j ∧ st n l (t + 1 + m) = 0) → ∃ m, m ≤ j ∧ st n l (t + 1 + m) = 0 ∧ ∀ i, i < m → st n l (t + 1 + i) ≠ 0 := by
          intro j
          induction j with
          | zero => rintro ⟨m, g1, g2⟩; exact ⟨0, Nat.le_refl _, by rwa [show m = 0 by omega] at g2, fun i hi => by omega⟩
          | succ j ihj =>
            rintro ⟨m, g1, g2⟩
            by_cases hj : ∃ m, m ≤ j ∧ st n l (t + 1 + m) = 0
            · obtain ⟨m, e1, e2, e3⟩ := ihj hj; exact ⟨m, by omega, e2, e3⟩
            · exact ⟨m, g1, g2, fun i hi he => hj ⟨i, by omega, he⟩⟩
        obtain ⟨m, e1, e2, e3⟩ := this k hk
        exact ⟨m, by omega, e2, e3⟩
      · exact ⟨k + 1, Nat.le_refl _, h, fun i hi he => hk ⟨i, by omega, he⟩⟩
  obtain ⟨m, hm1, hm2, hm3⟩ := back (l.length + (n - 1) - (t + 1)) (by rw [show t + 1 + (l.length + (n - 1) - (t + 1)) = l.length + (n - 1) by omega]; exact hend)
  have hw : Way n (fun i => st n l (t + 1 + i)) (fun i => bitAt l (t + 1 + i)) m := by
    refine ⟨?_, fun i hi => rfl, hm3⟩
    show nx n (st n l t) (bitAt l t) = _
    rw [hz t (Nat.le_refl _), ht2]
  have hle := h.le m _ _ hw hm2
  unfold wy at hle
  try dsimp only at hle
  have e1 : fs (fun t => wt n a b (st n l t) (bitAt l t)) (t + 1 + m) ≤ fs (fun t => wt n a b (st n l t) (bitAt l t)) T := fs_mono _ (by omega)
  have e2 := fs_add (fun t => wt n a b (st n l t) (bitAt l t)) (t + 1) m
  try dsimp only at e2
  have e3 : fs (fun t => wt n a b (st n l t) (bitAt l t)) (t + 1) = fs (fun t => wt n a b (st n l t) (bitAt l t)) t + wt n a b 0 true := by
    simp only [fs]; rw [hz t (Nat.le_refl _), ht2]
  omega
/-! ### The program's steps -/
theorem oc_tab : ∀ x, x < 128 → (f_trellis_Code_step_1 ((x : Nat) : Int) == some (par x)) = true := by decide +kernel
theorem oc_some {x : Nat} (h : x < 128) : f_trellis_Code_step_1 (x : Int) = some (par x) := eq_of_beq (oc_tab x h)
theorem step_ok {n a b : Nat} (h : CodeOK n a b) {s : Nat} (hs : s < 2 ^ (n - 1)) (c : Bool) :
    f_trellis_Code_step (n : Int) (a : Int) (b : Int) (s : Int) c = some (((nx n s c : Nat) : Int), ob n a s c, ob n b s c) := by
  have hal := al_lt h hs c
  obtain ⟨q, p1, p2, q1, q2, _⟩ := h.pq
  have h1 := h.n2; have h2 := h.n7; have h3 := h.a1; have h4 := h.b1; have h5 := h.an; have h6 := h.bn
  have j : f_trellis_Code_step.j1 (a : Int) (b : Int) ((al n s c : Nat) : Int) = some (((nx n s c : Nat) : Int), ob n a s c, ob n b s c) := by
    have e1 : al n s c &&& a ≤ al n s c := Nat.and_le_left
    have e2 : al n s c &&& b ≤ al n s c := Nat.and_le_left
    have hx : al n s c / 2 = nx n s c := rfl
    unfold f_trellis_Code_step.j1
    rw [iand32 (by omega) (by omega), iand32 (by omega) (by omega), oc_some (by omega), oc_some (by omega)]
    simp only [Option.bind_some]
    rw [show ((1 : Int)) = ((1 : Nat) : Int) from rfl, ishr_nat (by decide), show al n s c / 2 ^ 1 = nx n s c from hx, w64 (by omega) (by omega)]
    rfl
  unfold f_trellis_Code_step
  cases c with
  | false =>
    rw [if_neg (by simp), w32 (by omega) (by omega)]
    exact j
  | true =>
    have e1 : al n s true = s ||| 2 ^ (n - 1) := by
      have := Nat.two_pow_add_eq_or_of_lt hs 1
      simp only [al, if_true]
      rw [Nat.or_comm, Nat.add_comm]; simpa using this
    rw [if_pos rfl, w64 (by omega) (by omega), if_pos (by omega), w32 (by omega) (by omega), show (n : Int) - 1 = ((n - 1 : Nat) : Int) by omega, show ((1 : Int)) = ((1 : Nat) : Int) from rfl, ishl32 (by omega) (by omega), Nat.one_mul, ior32 (by omega) (by omega), ← e1]
    exact j
theorem states_ok {n a b : Nat} (h : CodeOK n a b) : f_trellis_Code_States (n : Int) (a : Int) (b : Int) = some (((2 ^ (n - 1) : Nat) : Int), 0) := by
  obtain ⟨q, p1, p2, q1, q2, _⟩ := h.pq
  have h1 := h.n2; have h2 := h.n7
  unfold f_trellis_Code_States
  rw [check_ok h]
  simp only [Option.bind_some]
  rw [if_neg (by simp), w64 (by omega) (by omega), if_pos (by omega), show (n : Int) - 1 = ((n - 1 : Nat) : Int) by omega, show ((1 : Int)) = ((1 : Nat) : Int) from rfl, ishl64 (by omega) (by omega), Nat.one_mul]
def enc (n a b : Nat) (l : List Bool) : Nat → List Bool
  | 0 => []
  | i + 1 => enc n a b l i ++ [ob n a (st n l i) (bitAt l i), ob n b (st n l i) (bitAt l i)]
theorem enc_len (n a b : Nat) (l : List Bool) : ∀ i, (enc n a b l i).length = 2 * i
  | 0 => rfl
  | i + 1 => by simp only [enc, List.length_append, enc_len n a b l i, List.length_cons, List.length_nil]; omega
theorem enc_get (n a b : Nat) (l : List Bool) : ∀ i j, j < i → gt (enc n a b l i) ((2 * j : Nat) : Int) = ob n a (st n l j) (bitAt l j) ∧ gt (enc n a b l i) ((2 * j + 1 : Nat) : Int) = ob n b (st n l j) (bitAt l j)
  | 0, j, h => by omega
  | i + 1, j, h => by
    have hl := enc_len n a b l i
    simp only [enc]
    by_cases hj : j < i
    · obtain ⟨h1, h2⟩ := enc_get n a b l i j hj
      constructor
      · rw [← h1, gt_nat (by simp only [List.length_append, hl, List.length_cons, List.length_nil]; omega), gt_nat (by omega), List.getElem_append_left (by omega)]
      · rw [← h2, gt_nat (by simp only [List.length_append, hl, List.length_cons, List.length_nil]; omega), gt_nat (by omega), List.getElem_append_left (by omega)]
    · obtain rfl : j = i := by omega
      rw [gt_nat (by simp only [List.length_append, hl, List.length_cons, List.length_nil]; omega), gt_nat (by simp only [List.length_append, hl, List.length_cons, List.length_nil]; omega), List.getElem_append_right (by omega), List.getElem_append_right (by omega)]
      simp only [hl, Nat.sub_self, show 2 * j + 1 - 2 * j = 1 by omega]
      exact ⟨rfl, rfl⟩
theorem through_enc {n a b : Nat} (h : CodeOK n a b) (l : List Bool) (hl : l.length + n - 1 ≤ 16384) :
    f_trellis_Code_through (n : Int) (a : Int) (b : Int) l (n : Int) (a : Int) (b : Int) [] = some (0, enc n a b l (l.length + n - 1)) := by
  have h1 := h.n2; have h2 := h.n7
  have key : ∀ k i : Nat, i + k = l.length + n - 1 → loop (f_trellis_Code_through.s1 (n : Int) l (n : Int) (a : Int) (b : Int)) (enc n a b l i, ((st n l i : Nat) : Int), (i : Int)) = some (enc n a b l (l.length + n - 1)) := by
    intro k
    induction k with
    | zero =>
      intro i hi
      obtain rfl : i = l.length + n - 1 := by omega
      apply loop_done
      simp only [f_trellis_Code_through.s1, f_trellis_Code_through.s1c]
      rw [w64 (x := (l.length : Int) + (n : Int)) (by omega) (by omega), w64 (by omega) (by omega), if_neg (by simp; omega)]
    | succ k ih =>
      intro i hi
      rw [← ih (i + 1) (by omega)]
      apply loop_step
      simp only [f_trellis_Code_through.s1, f_trellis_Code_through.s1c]
      rw [w64 (x := (l.length : Int) + (n : Int)) (by omega) (by omega), w64 (x := (l.length : Int) + (n : Int) - 1) (by omega) (by omega), if_pos (by simp; omega), bit_read]
      simp only [Option.bind_some]
      rw [step_ok h (st_lt h l i)]
      simp only [Option.bind_some, f_trellis_Code_Encode_1]
      rw [if_pos (by rw [enc_len]; simp; omega), w64 (by omega) (by omega)]
      rfl
  unfold f_trellis_Code_through
  rw [check_ok h]
  simp only [Option.bind_some]
  rw [if_neg (by simp), w64 (x := (l.length : Int) + (n : Int)) (by omega) (by omega), w64 (x := (l.length : Int) + (n : Int) - 1) (by omega) (by omega), if_neg (by simp; omega)]
  have := key (l.length + n - 1) 0 (by omega)
  rw [show enc n a b l 0 = [] from rfl, show ((st n l 0 : Nat) : Int) = 0 from rfl, show ((0 : Nat) : Int) = 0 from rfl] at this
  rw [this]
  rfl
theorem encode_ok {n a b : Nat} (h : CodeOK n a b) (l : List Bool) (hl : l.length + n - 1 ≤ 16384) :
    f_trellis_Code_Encode (n : Int) (a : Int) (b : Int) l = some (enc n a b l (l.length + n - 1), 0) := by
  unfold f_trellis_Code_Encode
  rw [through_enc h l hl]
  rfl
/-! ### The program's Free -/
theorem weight_ok (x y : Bool) : f_trellis_Code_Free_1 [x, y] = some ((bn x + bn y : Nat) : Int) := by
  unfold f_trellis_Code_Free_1
  cases x <;> cases y <;> (rw [loop_step (f := f_trellis_Code_Free_1.s1 _) (s' := (_, 1)) rfl, loop_step (f := f_trellis_Code_Free_1.s1 _) (s' := (_, 2)) rfl, loop_done (f := f_trellis_Code_Free_1.s1 _) (r := _) rfl]; rfl)
theorem imin_if (x y : Int) : imin x y = if y < x then y else x := rfl
theorem free_s4 {n a b : Nat} (hc : CodeOK n a b) {L : List Int} (h : Lst n a b 1048576 L) (hl : L.length = 64) {s : Nat} (hs : s < 2 ^ (n - 1)) (h0 : s ≠ 0) :
    ∃ L', loop (f_trellis_Code_Free.s4 (n : Int) (a : Int) (b : Int) (s : Int)) (L, 0) = some L' ∧ Lst n a b 1048576 L' ∧ LeL n L L' ∧ Edge n a b L L' s := by
  have hp : 2 ^ (n - 1) ≤ 64 := by obtain ⟨q, p1, p2, q1, q2, _⟩ := hc.pq; omega
  have one : ∀ (L : List Int), Lst n a b 1048576 L → L.length = 64 → ∀ (d : Bool) (t : Nat), t < 2 → gt [false, true] (t : Int) = d →
      ∃ L', f_trellis_Code_Free.s4 (n : Int) (a : Int) (b : Int) (s : Int) (L, (t : Int)) = some (.inl (L', ((t + 1 : Nat) : Int))) ∧ Lst n a b 1048576 L' ∧ LeL n L L' ∧ gt L' ((nx n s d : Nat) : Int) ≤ gt L (s : Int) + (wt n a b s d : Nat) := by
    intro L h hl d t ht hd
    have hn := nx_lt hc hs d
    have b1 := h.bd s hs
    have hwl := wt_le n a b s d
    obtain ⟨r1, r2, r3⟩ := h.relax hc (Nat.le_refl _) hs h0 d rfl
    refine ⟨_, ?_, r1, r2, r3⟩
    simp only [f_trellis_Code_Free.s4, f_trellis_Code_Free.s4c]
    rw [if_pos (by rw [decide_eq_true_eq]; show (t : Int) < 2; omega), if_pos (by show 0 ≤ (t : Int) ∧ (t : Int) < 2; omega), hd, step_ok hc hs d]
    simp only [Option.bind_some]
    rw [if_pos (by omega), if_pos (by omega), weight_ok]
    simp only [Option.bind_some]
    rw [if_pos (by omega), Int.toNat_natCast, imin_if, w64 (x := (t : Int) + 1) (by omega) (by omega)]
    rw [show bn (ob n a s d) + bn (ob n b s d) = wt n a b s d from rfl, w64 (by omega) (by omega)]
    rfl
  obtain ⟨L1, a1, a2, a3, a4⟩ := one L h hl false 0 (by omega) rfl
  obtain ⟨L2, c1, c2, c3, c4⟩ := one L1 a2 (by rw [a3.1, hl]) true 1 (by omega) rfl
  refine ⟨L2, ?_, c2, a3.trans c3, fun d => ?_⟩
  · rw [show ((0 : Nat) : Int) = 0 from rfl] at a1
    rw [loop_step a1, loop_step c1]
    apply loop_done
    simp only [f_trellis_Code_Free.s4, f_trellis_Code_Free.s4c]
    rw [if_neg (by simp)]
  · cases d with
    | false => have := c3.2 _ (nx_lt hc hs false); omega
    | true => have := a3.2 _ hs; omega
theorem free_s3 {n a b : Nat} (hc : CodeOK n a b) {L : List Int} (h : Lst n a b 1048576 L) (hl : L.length = 64) :
    ∃ L', loop (f_trellis_Code_Free.s3 (n : Int) (a : Int) (b : Int) (((2 ^ (n - 1) : Nat) : Int), 0)) (L, 1) = some L' ∧ Lst n a b 1048576 L' ∧ LeL n L L' ∧ ∀ s : Nat, s < 2 ^ (n - 1) → s ≠ 0 → Edge n a b L L' s := by
  have hp : 2 ^ (n - 1) ≤ 64 := by obtain ⟨q, p1, p2, q1, q2, _⟩ := hc.pq; omega
  have hp1 : 2 ≤ 2 ^ (n - 1) := by obtain ⟨q, p1, p2, q1, q2, _⟩ := hc.pq; omega
  generalize hP : 2 ^ (n - 1) = P at *
  have key : ∀ k s : Nat, s + k = P → 1 ≤ s → ∀ L1, Lst n a b 1048576 L1 → L1.length = 64 → LeL n L L1 → (∀ r : Nat, r < s → r ≠ 0 → Edge n a b L L1 r) →
      ∃ L', loop (f_trellis_Code_Free.s3 (n : Int) (a : Int) (b : Int) ((P : Int), 0)) (L1, (s : Int)) = some L' ∧ Lst n a b 1048576 L' ∧ LeL n L L' ∧ ∀ r : Nat, r < P → r ≠ 0 → Edge n a b L L' r := by
    intro k
    induction k with
    | zero =>
      intro s hs h1 L1 g1 g2 g3 g4
      obtain rfl : s = P := by omega
      refine ⟨L1, loop_done ?_, g1, g3, g4⟩
      simp only [f_trellis_Code_Free.s3, f_trellis_Code_Free.s3c]
      rw [if_neg (by simp)]
    | succ k ih =>
      intro s hs h1 L1 g1 g2 g3 g4
      obtain ⟨L2, e1, e2, e3, e4⟩ := free_s4 hc g1 g2 (s := s) (by omega) (by omega)
      obtain ⟨L', f1, f2, f3, f4⟩ := ih (s + 1) (by omega) (by omega) L2 e2 (by rw [e3.1, g2]) (g3.trans e3) (fun r hr h0 => by
        by_cases hrs : r < s
        · exact (g4 r hrs h0).mono hc (by omega) (LeL.refl n L) e3
        · obtain rfl : r = s := by omega
          exact e4.mono hc (by omega) g3 (LeL.refl n L2))
      refine ⟨L', ?_, f2, f3, f4⟩
      rw [← f1]
      apply loop_step
      simp only [f_trellis_Code_Free.s3, f_trellis_Code_Free.s3c]
      rw [if_pos (by rw [decide_eq_true_eq]; omega), e1]
      simp only [Option.bind_some]
      rw [w64 (by omega) (by omega)]; rfl
  exact key (P - 1) 1 (by omega) (by omega) L h hl (LeL.refl n L) (fun r hr h0 => by omega)
theorem free_s2 {n a b : Nat} (hc : CodeOK n a b) {L : List Int} (h : Lst n a b 1048576 L) (hl : L.length = 64) (h0 : Cnt n a b 0 L) :
    ∃ L', loop (f_trellis_Code_Free.s2 (n : Int) (a : Int) (b : Int) (((2 ^ (n - 1) : Nat) : Int), 0)) (L, 0) = some L' ∧ Lst n a b 1048576 L' ∧ Cnt n a b (2 ^ (n - 1)) L' := by
  have hp : 2 ^ (n - 1) ≤ 64 := by obtain ⟨q, p1, p2, q1, q2, _⟩ := hc.pq; omega
  have key : ∀ k s : Nat, s + k = 2 ^ (n - 1) → ∀ L1, Lst n a b 1048576 L1 → L1.length = 64 → Cnt n a b s L1 →
      ∃ L', loop (f_trellis_Code_Free.s2 (n : Int) (a : Int) (b : Int) (((2 ^ (n - 1) : Nat) : Int), 0)) (L1, (s : Int)) = some L' ∧ Lst n a b 1048576 L' ∧ Cnt n a b (2 ^ (n - 1)) L' := by
    intro k
    induction k with
    | zero =>
      intro s hs L1 g1 g2 g3
      obtain rfl : s = 2 ^ (n - 1) := by omega
      refine ⟨L1, loop_done ?_, g1, g3⟩
      simp only [f_trellis_Code_Free.s2, f_trellis_Code_Free.s2c]
      rw [if_neg (by simp)]
    | succ k ih =>
      intro s hs L1 g1 g2 g3
      obtain ⟨L2, e1, e2, e3, e4⟩ := free_s3 hc g1 g2
      obtain ⟨L', f1, f2, f3⟩ := ih (s + 1) (by omega) L2 e2 (by rw [e3.1, g2]) (g3.next hc e3 e4)
      refine ⟨L', ?_, f2, f3⟩
      rw [← f1]
      apply loop_step
      simp only [f_trellis_Code_Free.s2, f_trellis_Code_Free.s2c]
      rw [if_pos (by rw [decide_eq_true_eq]; omega), e1]
      simp only [Option.bind_some]
      rw [w64 (by omega) (by omega)]; rfl
  exact key (2 ^ (n - 1)) 0 (by omega) L h hl h0
theorem free_s1 : loop f_trellis_Code_Free.s1 (List.replicate 64 0, 0) = some (List.replicate 64 1048576) := by
  have := loop_for (f := f_trellis_Code_Free.s1) 64 (fun t => List.replicate t 1048576 ++ List.replicate (64 - t) 0) (List.replicate 64 1048576) (fun t ht => ?_) ?_
  · rw [← this]; rfl
  · simp only [f_trellis_Code_Free.s1, f_trellis_Code_Free.s1c]
    rw [if_pos (by rw [decide_eq_true_eq]; omega), if_pos (by omega), w64 (by omega) (by omega), Int.toNat_natCast, List.set_append_right _ _ (by simp only [List.length_replicate]; omega)]
    have e2 : List.replicate (64 - t) (0 : Int) = 0 :: List.replicate (64 - (t + 1)) 0 := by
      rw [← List.replicate_succ]; congr 1; omega
    rw [e2, List.replicate_succ', List.append_assoc]
    simp only [List.length_replicate, Nat.sub_self, List.set_cons_zero]
    rfl
  · simp only [f_trellis_Code_Free.s1, f_trellis_Code_Free.s1c]
    rw [if_neg (by decide)]
    rfl
theorem lst_start {n a b F : Nat} (hc : CodeOK n a b) (hF : 2 ≤ F) {m : Nat} (hm : 2 ^ (n - 1) ≤ m) : Lst n a b F ((List.replicate m (F : Int)).set (nx n 0 true) ((wt n a b 0 true : Nat) : Int)) ∧ Cnt n a b 0 ((List.replicate m (F : Int)).set (nx n 0 true) ((wt n a b 0 true : Nat) : Int)) := by
  have hn := nx_lt hc (s := 0) (Nat.two_pow_pos _) true
  have hw := wt_le n a b 0 true
  have hg : ∀ s : Nat, s < 2 ^ (n - 1) → gt ((List.replicate m (F : Int)).set (nx n 0 true) ((wt n a b 0 true : Nat) : Int)) (s : Int) = if nx n 0 true = s then ((wt n a b 0 true : Nat) : Int) else (F : Int) := fun s hs => by
    rw [gt_set_nat (by rw [List.length_replicate]; omega) (by rw [List.length_replicate]; omega), gt_nat (by rw [List.length_replicate]; omega), List.getElem_replicate]
  refine ⟨⟨by rw [List.length_set, List.length_replicate]; exact hm, fun s hs => ?_, fun s hs => ?_⟩, ?_⟩
  · rw [hg s hs]; split <;> omega
  · rw [hg s hs]
    split
    · rename_i e
      intro _
      rw [Int.toNat_natCast]
      exact ⟨0, fun _ => nx n 0 true, fun _ => false, ⟨rfl, fun i hi => by omega, fun i hi => by omega⟩, e, by simp [wy, fs]⟩
    · intro h; omega
  · intro k q c hk hq
    obtain rfl : k = 0 := by omega
    rw [hq.start, hg _ hn, if_pos rfl]
    simp [wy, fs]
theorem free_ok {n a b : Nat} (hc : CodeOK n a b) : ∃ x : Nat, f_trellis_Code_Free (n : Int) (a : Int) (b : Int) = some ((x : Int), 0) ∧ Least n a b x := by
  have hp : 2 ^ (n - 1) ≤ 64 := by obtain ⟨q, p1, p2, q1, q2, _⟩ := hc.pq; omega
  have hn := nx_lt hc (s := 0) (Nat.two_pow_pos _) true
  obtain ⟨s1, s2⟩ := lst_start hc (F := 1048576) (by decide) hp
  obtain ⟨L', e1, e2, e3⟩ := free_s2 hc s1 (by rw [List.length_set, List.length_replicate]) s2
  have b0 := e2.bd 0 (Nat.two_pow_pos _)
  rw [show ((0 : Nat) : Int) = 0 from rfl] at b0
  refine ⟨(gt L' 0).toNat, ?_, least_of hc (by decide) e2 e3⟩
  unfold f_trellis_Code_Free
  rw [states_ok hc]
  simp only [Option.bind_some]
  rw [if_neg (by simp), free_s1]
  have hst := step_ok hc (s := 0) (Nat.two_pow_pos _) true
  rw [show ((0 : Nat) : Int) = 0 from rfl] at hst
  simp only [Option.bind_some]
  rw [hst]
  simp only [Option.bind_some]
  rw [weight_ok]
  simp only [Option.bind_some]
  rw [if_pos (by omega), Int.toNat_natCast, show bn (ob n a 0 true) + bn (ob n b 0 true) = wt n a b 0 true from rfl, show ((1048576 : Nat) : Int) = 1048576 from rfl] at *
  rw [e1]
  simp only [Option.bind_some]
  rw [Int.toNat_of_nonneg b0.1]
theorem top_tab : ∀ n : Nat, n < 8 → ∀ a : Nat, a < 128 → (decide (1 ≤ n ∧ 2 ^ (n - 1) ≤ a ∧ a < 2 ^ n) → par (2 ^ (n - 1) &&& a) = true) := by decide +kernel
theorem wt_first {n a b : Nat} (hc : CodeOK n a b) : 1 ≤ wt n a b 0 true := by
  have h1 := hc.n2; have h2 := hc.n7; have h5 := hc.an; have h6 := hc.bn; have h7 := hc.top
  have hp : 2 ^ n ≤ 128 := by obtain ⟨q, p1, p2, q1, q2, _⟩ := hc.pq; omega
  have e : ∀ a, ob n a 0 true = par (2 ^ (n - 1) &&& a) := fun a => by unfold ob al; simp
  unfold wt
  rw [e a, e b]
  by_cases ha : 2 ^ (n - 1) ≤ a
  · rw [top_tab n (by omega) a (by omega) (by simp only [decide_eq_true_eq]; omega)]; simp [bn]
  · rw [top_tab n (by omega) b (by omega) (by simp only [decide_eq_true_eq]; omega)]; simp [bn]
theorem least_pos {n a b x : Nat} (hc : CodeOK n a b) (h : Least n a b x) : 1 ≤ x := by
  obtain ⟨m, q, c, w1, w2, w3⟩ := h.att
  have := wt_first hc
  unfold wy at w3; omega
/-! ### Within reach -/
section
variable {n a b T N : Nat} {ms : List Int}
theorem cs_fs (l : List Bool) (T : Nat) : cs n a b ms l T = fs (fun p => un (gt (enc n a b l T) (p : Int)) (gt ms (p : Int))) (2 * T) := by
  have h1 : ∀ t, cs n a b ms l t = fs (fun t => cst n a b ms t (st n l t) (bitAt l t)) t := by
    intro t
    induction t with
    | zero => rfl
    | succ t ih => simp only [cs, fs]; rw [ih]
  rw [h1, fs_two]
  apply fs_congr
  intro t ht
  obtain ⟨g1, g2⟩ := enc_get n a b l T t ht
  try simp only
  rw [g1, g2]; rfl
theorem un_tri (c e : Bool) {m : Int} (h0 : 0 ≤ m) (h2 : m ≤ 2) : bn (e ^^ c) ≤ un e m + (if m = 2 then 1 else 0) + un c m := by
  have : m = 0 ∨ m = 1 ∨ m = 2 := by omega
  rcases this with rfl | rfl | rfl <;> cases c <;> cases e <;> decide
theorem dst_fs (l m : List Bool) (T : Nat) : dst n a b l m T = fs (fun p => bn (gt (enc n a b l T) (p : Int) ^^ gt (enc n a b m T) (p : Int))) (2 * T) := by
  unfold dst
  rw [fs_two]
  apply fs_congr
  intro t ht
  obtain ⟨g1, g2⟩ := enc_get n a b l T t ht
  obtain ⟨k1, k2⟩ := enc_get n a b m T t ht
  try simp only
  rw [g1, g2, k1, k2]
theorem dif_ne {l m : List Bool} (h : l.length = m.length) (hne : l ≠ m) : ∃ t, bitAt (dif l m) t = true := by
  apply Classical.byContradiction
  intro hn
  apply hne
  apply List.ext_getElem h
  intro i h1 h2
  have : bitAt (dif l m) i ≠ true := fun e => hn ⟨i, e⟩
  rw [dif_bit h, bitAt_lt h1, bitAt_lt h2, gt_nat h1, gt_nat h2] at this
  revert this
  cases l[i] <;> cases m[i] <;> simp
theorem reach_core {x : Nat} (h : Fit n a b ms T N) (hx : Least n a b x) {M : List Bool} (hM : M.length = N) {G Tn : Nat} (h1 : fs (fun p => un (gt (enc n a b M T) (p : Int)) (gt ms (p : Int))) (2 * T) = Tn)
    (h2 : fs (fun p => if gt ms (p : Int) = 2 then 1 else 0) (2 * T) = G) (h3 : G + 2 * Tn + 1 ≤ x) : f_hard_Path (n : Int) (a : Int) (b : Int) ms = some (M, (Tn : Int), 0) := by
  have g3 := h.len; have g4 := h.tn
  obtain ⟨P, hP⟩ : ∃ P, P = msgN n a b ms T N 1048576 N := ⟨_, rfl⟩
  have hPl : P.length = N := by rw [hP, msgN_len]
  have hD : cs n a b ms P T = D n a b ms T N 1048576 T 0 := by rw [hP]; exact cs_msg h 1048576
  have hle := cs_ge h 1048576 M hM
  have hcM : cs n a b ms M T = Tn := by rw [cs_fs, h1]
  have hPM : P = M := by
    apply Classical.byContradiction
    intro hne
    obtain ⟨t0, ht0⟩ := dif_ne (by omega : P.length = M.length) hne
    have hf := far_apart h.toCodeOK hx (l := dif P M) (T := T) ht0 (by rw [dif_len (by omega)]; omega)
    rw [← dst_wt h.toCodeOK (by omega), dst_fs] at hf
    have hc : fs (fun p => bn (gt (enc n a b P T) (p : Int) ^^ gt (enc n a b M T) (p : Int))) (2 * T) ≤ fs (fun p => un (gt (enc n a b P T) (p : Int)) (gt ms (p : Int)) + (if gt ms (p : Int) = 2 then 1 else 0) + un (gt (enc n a b M T) (p : Int)) (gt ms (p : Int))) (2 * T) :=
      fs_le fun p hp => by
        have := h.mks _ (gt_mem (xs := ms) (i := (p : Int)) (by omega) (by omega))
        exact un_tri _ _ this.1 this.2
    rw [fs_plus, fs_plus, h1, h2, ← cs_fs, hD] at hc
    omega
  rw [path_ok h, ← hP, hPM, ← hD, hPM, hcM]
end
def cv (c : Bool) : Int := if c then 1 else 0
theorem marks_len (u : List Bool) : (marks u).length = u.length := by simp [marks]
theorem marks_gt {u : List Bool} {p : Nat} (hp : p < u.length) : gt (marks u) (p : Int) = cv (gt u (p : Int)) := by
  rw [gt_nat (by rw [marks_len]; exact hp), gt_nat hp]; simp [marks, cv]
theorem un_cv (c : Bool) : un c (cv c) = 0 := by cases c <;> decide
theorem un_cvn (c : Bool) : un c (cv (!c)) = 1 := by cases c <;> decide
theorem cv_bd (c : Bool) : 0 ≤ cv c ∧ cv c ≤ 1 := by cases c <;> decide
theorem gt_setG {α : Type} [Inhabited α] {L : List α} {i j : Nat} (hi : i < L.length) (hj : j < L.length) (v : α) : gt (L.set i v) (j : Int) = if i = j then v else gt L (j : Int) := by
  rw [gt_nat (by rw [List.length_set]; exact hj), gt_nat hj, List.getElem_set]
structure Hit (u : List Bool) (x : Nat) (inn : List Int) (left turned : Int) : Prop where
  len : inn.length = u.length
  bd : ∀ m ∈ inn, 0 ≤ m ∧ m ≤ 2
  ex : ∃ G Tn : Nat, turned = (Tn : Int) ∧ left = (x : Int) - 1 - G - 2 * Tn ∧ fs (fun p => un (gt u (p : Int)) (gt inn (p : Int))) u.length = Tn ∧ fs (fun p => if gt inn (p : Int) = 2 then 1 else 0) u.length = G
theorem Hit.put {u : List Bool} {x : Nat} {inn : List Int} {left turned : Int} (h : Hit u x inn left turned) {p : Nat} (hp : p < u.length) (hv : gt inn (p : Int) = cv (gt u (p : Int))) (v dl dt : Int) (hb : 0 ≤ v ∧ v ≤ 2)
    (hd : v = 2 ∧ dl = 1 ∧ dt = 0 ∨ v = cv (!gt u (p : Int)) ∧ dl = 2 ∧ dt = 1) : Hit u x (inn.set p v) (left - dl) (turned + dt) := by
  have hl := h.len
  obtain ⟨G, Tn, e1, e2, e3, e4⟩ := h.ex
  refine ⟨by rw [List.length_set]; exact hl, fun m hm => ?_, ?_⟩
  · rcases List.mem_or_eq_of_mem_set hm with h1 | rfl
    · exact h.bd m h1
    · exact hb
  have c1 : ∀ f : Int → Nat → Nat, fs (fun q => f (gt (inn.set p v) (q : Int)) q) u.length + f (gt inn (p : Int)) p = fs (fun q => f (gt inn (q : Int)) q) u.length + f v p := fun f => by
    have := fs_upd (f := fun q => f (gt inn (q : Int)) q) (g := fun q => f (gt (inn.set p v) (q : Int)) q) hp (fun i hi hn => by
      rw [gt_setG (by omega) (by omega), if_neg (Ne.symm hn)])
    try simp only at this
    rw [gt_setG (by omega) (by omega), if_pos rfl] at this
    exact this
  have d1 := c1 fun m q => un (gt u (q : Int)) m
  have d2 := c1 fun m q => if m = 2 then 1 else 0
  try simp only at d1 d2
  rw [e3, hv, un_cv] at d1
  have cb := cv_bd (gt u (p : Int))
  have cb2 := cv_bd (!gt u (p : Int))
  rw [e4, hv, if_neg (by omega)] at d2
  rcases hd with ⟨rfl, rfl, rfl⟩ | ⟨rfl, rfl, rfl⟩
  · refine ⟨G + 1, Tn, by omega, by omega, ?_, ?_⟩
    · have : un (gt u (p : Int)) 2 = 0 := by unfold un; simp
      rw [this] at d1; omega
    · rw [if_pos rfl] at d2; omega
  · refine ⟨G, Tn + 1, by omega, by omega, ?_, ?_⟩
    · rw [un_cvn] at d1; omega
    · rw [if_neg (by omega)] at d2; omega
theorem reach_s1 (hits : List Int) (hg : ∀ x ∈ hits, (Lit.int .u16 x).wf = true) (hl : hits.length * 2 ≤ 140737488351232) (u : List Bool) (hu : 2 ≤ u.length ∧ u.length < 100000) (x : Nat) (hx : 1 ≤ x ∧ x ≤ 1000000) (e : Int) :
    ∃ inn turned left, loop (f_foghornlaw22_HardReach.s1 hits (u, e)) (marks u, (x : Int) - 1, 0, List.replicate u.length false, 0) = some (inn, turned) ∧ Hit u x inn left turned ∧ 0 ≤ left := by
  have start : Hit u x (marks u) ((x : Int) - 1) 0 := by
    refine ⟨marks_len u, fun m hm => ?_, 0, 0, rfl, by omega, ?_, ?_⟩
    · obtain ⟨j, hj, rfl⟩ := List.mem_iff_getElem.1 hm
      rw [marks_len] at hj
      have := marks_gt hj
      rw [gt_nat (by rw [marks_len]; exact hj)] at this
      rw [this]
      have := cv_bd (gt u (j : Int)); omega
    · rw [fs_congr (g := fun _ => 0) fun p hp => by rw [marks_gt hp, un_cv]]; exact fs_zero _
    · rw [fs_congr (g := fun _ => 0) fun p hp => by rw [marks_gt hp, if_neg (by have := cv_bd (gt u (p : Int)); omega)]]; exact fs_zero _
  obtain ⟨r, h1, left, h2, h3⟩ := loop_inv (f := f_foghornlaw22_HardReach.s1 hits (u, e)) (fun s : List Int × Int × Int × List Bool × Int => Hit u x s.1 s.2.1 s.2.2.1 ∧ 0 ≤ s.2.1 ∧ s.2.2.2.1.length = u.length ∧ (∀ p : Nat, p < u.length → gt s.2.2.2.1 (p : Int) = false → gt s.1 (p : Int) = cv (gt u (p : Int))) ∧ 0 ≤ s.2.2.2.2 ∧ s.2.2.2.2 ≤ hits.length)
    (fun s => hits.length - s.2.2.2.2.toNat) (fun r : List Int × Int => ∃ left, Hit u x r.1 left r.2 ∧ 0 ≤ left) (by
    rintro ⟨inn, left, turned, seen, i⟩ ⟨g1, g2, g3, g4, g5, g6⟩
    simp only at g1 g2 g3 g4 g5 g6
    simp only [f_foghornlaw22_HardReach.s1, f_foghornlaw22_HardReach.s1c]
    by_cases hi : i < hits.length ∧ 0 < left
    · have hw := wf_u16 (hg _ (gt_mem g5 hi.1))
      obtain ⟨h, hh⟩ : ∃ h : Nat, gt hits i = (h : Int) := ⟨(gt hits i).toNat, by omega⟩
      obtain ⟨p, hp⟩ : ∃ p, p = h / 2 % u.length := ⟨_, rfl⟩
      have hpl : p < u.length := by rw [hp]; exact Nat.mod_lt _ (by omega)
      have eat : (IntKind.i64.wrap (ishr .u16 (gt hits i) 1)).tmod (u.length : Int) = (p : Int) := by
        rw [hh, show (1 : Int) = ((1 : Nat) : Int) from rfl, ishr_nat (by decide), Nat.pow_one, w64 (by omega) (by omega), tmod_nat, ← hp]
      have hil := g1.len
      obtain ⟨G, Tn, e1, e2, e3, e4⟩ := g1.ex
      have et : IntKind.i64.wrap (i + 1) = i + 1 := w64 (by omega) (by omega)
      rw [if_pos (by simp only [Bool.and_eq_true, decide_eq_true_eq]; omega), if_pos (by omega), if_pos (by omega), eat, if_pos (by omega), et]
      by_cases hs : gt seen (p : Int) = true
      · rw [if_pos hs]
        exact .inl ⟨_, rfl, ⟨g1, g2, g3, g4, by simp only; omega, by simp only; omega⟩, by simp only; omega⟩
      · have hs0 : gt seen (p : Int) = false := by simpa using hs
        have hv := g4 p hpl hs0
        rw [if_neg hs, if_pos (by omega), if_pos (by omega)]
        have hseen : ∀ v : Int, ∀ q : Nat, q < u.length → gt (seen.set p true) (q : Int) = false → gt (inn.set p v) (q : Int) = cv (gt u (q : Int)) := fun v q hq h => by
          rw [gt_setG (by omega) (by omega)] at h ⊢
          split
          · rename_i e; rw [if_pos e] at h; cases h
          · rename_i e; rw [if_neg e] at h; exact g4 q hq h
        by_cases hb : ((iand .u16 (gt hits i) (1 : Int) == (1 : Int)) || decide (left < (2 : Int))) = true
        · rw [if_pos hb, if_pos (by omega), w64 (by omega) (by omega), Int.toNat_natCast]
          have := g1.put hpl hv 2 1 0 (by omega) (.inl ⟨rfl, rfl, rfl⟩)
          rw [Int.add_zero] at this
          exact .inl ⟨_, rfl, ⟨this, by simp only; omega, by simp only [List.length_set]; exact g3, hseen 2, by simp only; omega, by simp only; omega⟩, by simp only; omega⟩
        · rw [if_neg hb, if_pos (by omega), if_pos (by omega), w64 (by omega) (by omega), Int.toNat_natCast]
          have hl2 : 2 ≤ left := by
            simp only [Bool.or_eq_true, decide_eq_true_eq, not_or] at hb; omega
          have ev : IntKind.u8.wrap (1 - gt inn (p : Int)) = cv (!gt u (p : Int)) := by
            rw [hv]; cases gt u (p : Int) <;> decide
          rw [ev, w64 (by omega) (by omega)]
          have hcb := cv_bd (!gt u (p : Int))
          exact .inl ⟨_, rfl, ⟨g1.put hpl hv _ 2 1 (by omega) (.inr ⟨rfl, rfl, rfl⟩), by simp only; omega, by simp only [List.length_set]; exact g3, hseen _, by simp only; omega, by simp only; omega⟩, by simp only; omega⟩
    · rw [if_neg (by simp only [Bool.and_eq_true, decide_eq_true_eq]; exact hi)]
      exact .inr ⟨_, rfl, left, g1, g2⟩) (marks u, (x : Int) - 1, 0, List.replicate u.length false, 0)
    ⟨start, by simp only; omega, by simp, fun p hp _ => marks_gt hp, by simp, by simp⟩
  obtain ⟨inn, turned⟩ := r
  exact ⟨inn, turned, left, h1, h2, h3⟩
theorem reach_true (length : Int) (w0 : (Lit.int .i64 length).wf = true) (one : Int) (w1 : (Lit.int .u32 one).wf = true) (two : Int) (w2 : (Lit.int .u32 two).wf = true)
    (message : List Bool) (w4 : ∀ x ∈ message, True) (hmsg : message.length * 1 ≤ 140737488351232) (hits : List Int) (hg : ∀ x ∈ hits, (Lit.int .u16 x).wf = true) (hl : hits.length * 2 ≤ 140737488351232) :
    f_foghornlaw22_HardReach length one two message hits = some true := by
  obtain ⟨n, a, b, hc, hfit⟩ := fit_ok (length := length) w1 w2
  have h2 := hc.n2; have h7 := hc.n7
  obtain ⟨x, hx1, hx2⟩ := free_ok hc
  have hxp := least_pos hc hx2
  have hxb : x ≤ 16 := by
    obtain ⟨y, ⟨m, q, c, v1, v2, v3⟩, hy⟩ := att_zero hc
    have := hx2.le m q c v1 v2
    omega
  obtain ⟨k, hk⟩ : ∃ k, k = min message.length 2000 := ⟨_, rfl⟩
  have em : imin (message.length : Int) 2000 = (k : Int) := by rw [hk]; exact imin_nat message.length 2000
  obtain ⟨M, hM⟩ : ∃ M, M = [] ++ (message.drop 0).take ((k : Int).toNat - 0) := ⟨_, rfl⟩
  have hMl : M.length = k := by rw [hM]; simp only [List.nil_append, List.length_take, List.drop_zero, Int.toNat_natCast]; omega
  obtain ⟨u, hu⟩ : ∃ u, u = enc n a b M (M.length + n - 1) := ⟨_, rfl⟩
  have hul : u.length = 2 * (M.length + (n - 1)) := by rw [hu, enc_len]; omega
  have hu2 : u = enc n a b M (M.length + (n - 1)) := by rw [hu, show M.length + n - 1 = M.length + (n - 1) by omega]
  unfold f_foghornlaw22_HardReach
  rw [works_true]
  simp only [Option.bind_some, Bool.not_true, Bool.false_eq_true, if_false]
  rw [hfit]
  simp only [Option.bind_some]
  rw [em, if_pos (by omega), ← hM, if_pos (by
    have := hMl; rw [hM] at this; simp only [List.nil_append] at this
    rw [this]; simp only [List.length_nil]; omega), encode_ok hc M (by omega), hx1, ← hu]
  simp only [Option.bind_some]
  have el : IntKind.i64.wrap (2 * IntKind.i64.wrap (IntKind.i64.wrap ((M.length : Int) + (n : Int)) - 1)) = (u.length : Int) := by
    rw [w64 (x := (M.length : Int) + (n : Int)) (by omega) (by omega), w64 (x := (M.length : Int) + (n : Int) - 1) (by omega) (by omega), w64 (by omega) (by omega)]; omega
  rw [el, if_neg (by simp; omega), marks_hard u (by omega)]
  simp only [Option.bind_some]
  rw [marks_len, if_neg (by simp), if_pos (by omega), w64 (x := (x : Int) - 1) (by omega) (by omega), Int.toNat_natCast]
  obtain ⟨inn, turned, left, r1, r2, r3⟩ := reach_s1 hits hg (by omega) u (by omega) x (by omega) 0
  obtain ⟨G, Tn, e1, e2, e3, e4⟩ := r2.ex
  rw [r1]
  simp only [Option.bind_some]
  rw [hul] at e3 e4
  have hF : Fit n a b inn (M.length + (n - 1)) M.length := ⟨hc, by rw [r2.len, hul], rfl, by omega, r2.bd⟩
  rw [hu2] at e3
  have p1 := reach_core hF hx2 (M := M) rfl e3 e4 (by omega)
  have hF0 : Fit n a b (marks u) (M.length + (n - 1)) M.length := by
    refine ⟨hc, by rw [marks_len, hul], rfl, by omega, fun m hm => ?_⟩
    obtain ⟨j, hj, rfl⟩ := List.mem_iff_getElem.1 hm
    rw [marks_len] at hj
    have := marks_gt hj
    rw [gt_nat (by rw [marks_len]; exact hj)] at this
    rw [this]
    have := cv_bd (gt u (j : Int)); omega
  have p2 := reach_core hF0 hx2 (M := M) (G := 0) (Tn := 0) rfl (by
      rw [← hu2, fs_congr (g := fun _ => 0) fun p hp => by rw [marks_gt (by omega), un_cv]]; exact fs_zero _) (by
      rw [fs_congr (g := fun _ => 0) fun p hp => by rw [marks_gt (by omega), if_neg (by have := cv_bd (gt u (p : Int)); omega)]]; exact fs_zero _) (by omega)
  rw [p1, p2, e1]
  simp only [Option.bind_some, beq_self_eq_true, Bool.and_self, if_true]
  rw [bits_self M (by omega)]
  simp

end Go.Proofs.Ythajdlihjobcoaa
