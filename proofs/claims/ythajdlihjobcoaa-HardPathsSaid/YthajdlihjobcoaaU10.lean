/- HardPaths: the plain law. -/
import Derived.Test.YthajdlihjobcoaaG10
import Derived.Test.YthajdlihjobcoaaGlW
set_option linter.unusedVariables false
set_option linter.unusedSimpArgs false
set_option maxRecDepth 8000
namespace Go.Proofs.Ythajdlihjobcoaa
open GL

/-! ### Codes -/
structure CodeOK (n a b : Nat) : Prop where
  n2 : 2 ≤ n
  n7 : n ≤ 7
  a1 : 1 ≤ a
  b1 : 1 ≤ b
  an : a < 2 ^ n
  bn : b < 2 ^ n
  top : 2 ^ (n - 1) ≤ max a b
theorem CodeOK.pq {n a b : Nat} (h : CodeOK n a b) : ∃ q, 2 ^ (n - 1) = 2 * q ∧ 2 ^ n = 4 * q ∧ 1 ≤ q ∧ q ≤ 32 ∧ q = 2 ^ (n - 2) := by
  have h1 := h.n2
  have h2 := h.n7
  have : n = 2 ∨ n = 3 ∨ n = 4 ∨ n = 5 ∨ n = 6 ∨ n = 7 := by omega
  rcases this with rfl | rfl | rfl | rfl | rfl | rfl <;> exact ⟨_, rfl, rfl, by decide, by decide, rfl⟩
theorem len_tab0 : ∀ n : Nat, n < 8 → ∀ m : Nat, m < 128 → (decide (1 ≤ n ∧ 2 ^ (n - 1) ≤ m ∧ m < 2 ^ n) → (f_math_bits_Len32 (m : Int) == some (n : Int)) = true) := by decide +kernel
theorem len_tab (n : Nat) (hn : n < 8) (m : Nat) (hm : m < 128) (h1 : 1 ≤ n) (h2 : 2 ^ (n - 1) ≤ m) (h3 : m < 2 ^ n) : f_math_bits_Len32 (m : Int) = some (n : Int) :=
  eq_of_beq (len_tab0 n hn m hm (by simp [h1, h2, h3]))
theorem check_ok {n a b : Nat} (h : CodeOK n a b) : f_trellis_Code_Check (n : Int) (a : Int) (b : Int) = some 0 := by
  obtain ⟨q, p1, p2, q1, q2, _⟩ := h.pq
  have h1 := h.n2; have h2 := h.n7; have h3 := h.a1; have h4 := h.b1; have h5 := h.an; have h6 := h.bn; have h7 := h.top
  unfold f_trellis_Code_Check
  rw [imin_nat, imax_nat, if_neg (by simp; omega), len_tab n (by omega) (max a b) (by omega) (by omega) h7 (by omega)]
  simp
/-- parity of seven bits -/
def par (x : Nat) : Bool := (List.range 7).foldl (fun c i => c != x.testBit i) false
theorem ones_tab : ∀ x : Nat, x < 128 → ((f_math_bits_OnesCount32 (x : Int)).map (fun q => IntKind.u32.wrap (iand .i64 q 1)) == some (if par x then 1 else 0)) = true := by decide +kernel
theorem ones_some {x : Nat} (h : x < 128) : ∃ q, f_math_bits_OnesCount32 (x : Int) = some q ∧ IntKind.u32.wrap (iand .i64 q 1) = if par x then 1 else 0 := by
  have := eq_of_beq (ones_tab x h)
  cases hh : f_math_bits_OnesCount32 (x : Int) with
  | none => rw [hh] at this; cases this
  | some y => rw [hh] at this; exact ⟨y, rfl, Option.some.inj this⟩
def al (n s : Nat) (b : Bool) : Nat := s + if b then 2 ^ (n - 1) else 0
def nx (n s : Nat) (b : Bool) : Nat := al n s b / 2
def ob (n a s : Nat) (b : Bool) : Bool := par (al n s b &&& a)
theorem al_lt {n a b : Nat} (h : CodeOK n a b) {s : Nat} (hs : s < 2 ^ (n - 1)) (c : Bool) : al n s c < 2 ^ n := by
  obtain ⟨q, p1, p2, q1, q2, _⟩ := h.pq
  unfold al; rw [p2]; split <;> omega
theorem nx_lt {n a b : Nat} (h : CodeOK n a b) {s : Nat} (hs : s < 2 ^ (n - 1)) (c : Bool) : nx n s c < 2 ^ (n - 1) := by
  have := al_lt h hs c
  obtain ⟨q, p1, p2, q1, q2, _⟩ := h.pq
  unfold nx; rw [p1]; rw [p2] at this; omega
/-- one bit against one mark -/
def un (b : Bool) (m : Int) : Nat := if (m != 2 && ((if b then (1 : Int) else 0) != m)) = true then 1 else 0
theorem un_le (b : Bool) (m : Int) : un b m ≤ 1 := by
  unfold un
  generalize (m != 2 && ((if b then (1 : Int) else 0) != m)) = z
  cases z <;> simp
theorem unlike_ok (b : Bool) (m : Int) : f_hard_unlike (if b then (1 : Int) else 0) m = some ((un b m : Nat) : Int) := by
  unfold f_hard_unlike un
  have : IntKind.u8.wrap (if b = true then (1 : Int) else 0) = if b then (1 : Int) else 0 := by cases b <;> decide
  rw [this]
  generalize (m != 2 && ((if b then (1 : Int) else 0) != m)) = z
  cases z <;> rfl
theorem hstep_ok {n a b : Nat} (h : CodeOK n a b) {s : Nat} (hs : s < 2 ^ (n - 1)) (c : Bool) (ms : List Int) (hm : 2 ≤ ms.length) :
    f_hard_step (n : Int) (a : Int) (b : Int) (s : Int) (if c then (1 : Int) else 0) ms = some (((nx n s c : Nat) : Int), ((un (ob n a s c) (gt ms 0) + un (ob n b s c) (gt ms 1) : Nat) : Int)) := by
  have hal := al_lt h hs c
  obtain ⟨q, p1, p2, q1, q2, _⟩ := h.pq
  have h1 := h.n2; have h2 := h.n7; have h3 := h.a1; have h4 := h.b1; have h5 := h.an; have h6 := h.bn
  have eal : ior .u32 (ishl .u32 (if c then (1 : Int) else 0) (IntKind.i64.wrap ((n : Int) - 1))) (s : Int) = ((al n s c : Nat) : Int) := by
    rw [w64 (by omega) (by omega), show (n : Int) - 1 = ((n - 1 : Nat) : Int) by omega]
    cases c with
    | false =>
      simp only [Bool.false_eq_true, if_false]
      rw [show ((0 : Int)) = ((0 : Nat) : Int) from rfl, ishl32 (by omega) (by omega), Nat.zero_mul, ior32 (by omega) (by omega), Nat.zero_or]; rfl
    | true =>
      simp only [if_true]
      rw [show ((1 : Int)) = ((1 : Nat) : Int) from rfl, ishl32 (by omega) (by omega), Nat.one_mul, ior32 (by omega) (by omega)]
      have := Nat.two_pow_add_eq_or_of_lt hs 1
      have e : 2 ^ (n - 1) ||| s = al n s true := by
        simp only [al, if_true]
        rw [Nat.add_comm]; simpa using this.symm
      rw [e]
  have e1 : al n s c &&& a ≤ al n s c := Nat.and_le_left
  have e2 : al n s c &&& b ≤ al n s c := Nat.and_le_left
  obtain ⟨x, hx, hx2⟩ := ones_some (x := al n s c &&& a) (by omega)
  obtain ⟨y, hy, hy2⟩ := ones_some (x := al n s c &&& b) (by omega)
  have hna : al n s c / 2 = nx n s c := rfl
  unfold f_hard_step
  rw [eal, w64 (by omega) (by omega), if_pos (by omega), iand32 (by omega) (by omega), iand32 (by omega) (by omega), hx, hy]
  simp only [Option.bind_some]
  rw [hx2, hy2, unlike_ok, unlike_ok]
  simp only [Option.bind_some]
  rw [if_pos (by omega), if_pos (by omega)]
  rw [show ((1 : Int)) = ((1 : Nat) : Int) from rfl, ishr_nat (by decide), show al n s c / 2 ^ 1 = nx n s c from hna, ← Int.natCast_add]
  have l1 := un_le (par (al n s c &&& a)) (gt ms 0)
  have l2 := un_le (par (al n s c &&& b)) (gt ms ((1 : Nat) : Int))
  rw [w32s (by omega) (by omega)]
  rfl

/-! ### What a way costs -/
def cst (n a b : Nat) (ms : List Int) (t s : Nat) (c : Bool) : Nat := un (ob n a s c) (gt ms ((2 * t : Nat) : Int)) + un (ob n b s c) (gt ms ((2 * t + 1 : Nat) : Int))
theorem cst_le (n a b : Nat) (ms : List Int) (t s : Nat) (c : Bool) : cst n a b ms t s c ≤ 2 := by
  have h1 := un_le (ob n a s c) (gt ms ((2 * t : Nat) : Int))
  have h2 := un_le (ob n b s c) (gt ms ((2 * t + 1 : Nat) : Int))
  unfold cst; omega
theorem drop_gt {ms : List Int} {i j : Nat} (h : i + j < ms.length) : gt ((ms.drop i).take (ms.length - i)) (j : Int) = gt ms ((i + j : Nat) : Int) := by
  rw [gt_nat (by simp; omega), gt_nat h]; simp
theorem hstep_at {n a b : Nat} (h : CodeOK n a b) {s : Nat} (hs : s < 2 ^ (n - 1)) (c : Bool) (ms : List Int) (t : Nat) (ht : 2 * t + 1 < ms.length) :
    f_hard_step (n : Int) (a : Int) (b : Int) (s : Int) (if c then (1 : Int) else 0) ((ms.drop (2 * t)).take (ms.length - 2 * t)) = some (((nx n s c : Nat) : Int), ((cst n a b ms t s c : Nat) : Int)) := by
  rw [hstep_ok h hs c _ (by simp; omega)]
  have h0 := drop_gt (ms := ms) (i := 2 * t) (j := 0) (by omega)
  have h1 := drop_gt (ms := ms) (i := 2 * t) (j := 1) (by omega)
  rw [show ((0 : Nat) : Int) = 0 from rfl] at h0
  rw [show ((1 : Nat) : Int) = 1 from rfl] at h1
  rw [h0, h1]; rfl
/-- the least from a state on, k steps before the end -/
def D (n a b : Nat) (ms : List Int) (T N F : Nat) : Nat → Nat → Nat
  | 0, s => if s = 0 then 0 else F
  | k + 1, s => if T - (k + 1) < N then min (cst n a b ms (T - (k + 1)) s false + D n a b ms T N F k (nx n s false)) (cst n a b ms (T - (k + 1)) s true + D n a b ms T N F k (nx n s true))
      else cst n a b ms (T - (k + 1)) s false + D n a b ms T N F k (nx n s false)
theorem D_le (n a b : Nat) (ms : List Int) (T N F : Nat) : ∀ k s, D n a b ms T N F k s ≤ F + 2 * k
  | 0, s => by simp only [D]; split <;> omega
  | k + 1, s => by
    have h1 := D_le n a b ms T N F k (nx n s false)
    have h2 := cst_le n a b ms (T - (k + 1)) s false
    simp only [D]; split <;> omega
/-- the bit that is told at a state; the state come to -/
def bitOf (n a b : Nat) (ms : List Int) (T N F t s : Nat) : Bool := decide (cst n a b ms t s false + D n a b ms T N F (T - (t + 1)) (nx n s false) ≠ D n a b ms T N F (T - t) s)
def pst (n a b : Nat) (ms : List Int) (T N F : Nat) : Nat → Nat
  | 0 => 0
  | t + 1 => nx n (pst n a b ms T N F t) (bitOf n a b ms T N F t (pst n a b ms T N F t))
def msgN (n a b : Nat) (ms : List Int) (T N F M : Nat) : List Bool := (List.range M).map fun t => bitOf n a b ms T N F t (pst n a b ms T N F t)
theorem pst_lt {n a b : Nat} (h : CodeOK n a b) (ms : List Int) (T N F : Nat) : ∀ t, pst n a b ms T N F t < 2 ^ (n - 1)
  | 0 => by obtain ⟨q, p1, _, q1, _⟩ := h.pq; rw [p1]; simp only [pst]; omega
  | t + 1 => nx_lt h (pst_lt h ms T N F t) _

/-! ### Tables -/
def tab (T : Nat) (f : Nat → Nat → Int) : List (List Int) := (List.range (T + 1)).map fun t => (List.range 64).map fun s => f t s
theorem tab_len (T : Nat) (f : Nat → Nat → Int) : (tab T f).length = T + 1 := by simp [tab]
theorem tab_row {T : Nat} {f : Nat → Nat → Int} {t : Nat} (ht : t ≤ T) : gt (tab T f) (t : Int) = (List.range 64).map fun s => f t s := by
  rw [gt_nat (by rw [tab_len]; omega)]; simp [tab]
theorem tab_get {T : Nat} {f : Nat → Nat → Int} {t s : Nat} (ht : t ≤ T) (hs : s < 64) : gt (gt (tab T f) (t : Int)) (s : Int) = f t s := by
  rw [tab_row ht, gt_nat (by simpa using hs)]; simp
def upd (f : Nat → Nat → Int) (t s : Nat) (v : Int) : Nat → Nat → Int := fun t' s' => if t' = t ∧ s' = s then v else f t' s'
theorem tab_set {T : Nat} {f : Nat → Nat → Int} {t s : Nat} (v : Int) (ht : t ≤ T) (hs : s < 64) : (tab T f).set t ((gt (tab T f) (t : Int)).set s v) = tab T (upd f t s v) := by
  rw [tab_row ht]
  apply List.ext_getElem
  · simp [tab]
  · intro i h1 h2
    simp only [List.getElem_set]
    split
    · rename_i h; subst h
      apply List.ext_getElem
      · simp [tab]
      · intro j h3 h4
        simp only [List.getElem_set, tab, List.getElem_map, List.getElem_range, upd]
        by_cases hj : s = j
        · subst hj; simp
        · simp [hj, Ne.symm hj]
    · rename_i h
      simp only [tab, List.getElem_map, List.getElem_range, upd]
      apply List.map_congr_left
      intro j _
      rw [if_neg (by omega)]
theorem tab_congr {T : Nat} {f g : Nat → Nat → Int} (h : ∀ t s, t ≤ T → s < 64 → f t s = g t s) : tab T f = tab T g := by
  unfold tab
  apply List.map_congr_left
  intro t ht
  apply List.map_congr_left
  intro s hs
  exact h t s (by simp at ht; omega) (by simpa using hs)
theorem tab_zero (T : Nat) : List.replicate (T + 1) (List.replicate 64 (0 : Int)) = tab T (fun _ _ => 0) := by
  unfold tab
  apply List.ext_getElem
  · simp
  · intro i h1 h2
    rw [List.getElem_replicate, List.getElem_map]
    apply List.ext_getElem
    · simp
    · intro j h3 h4; simp only [List.getElem_replicate, List.getElem_map]
/-! ### The path -/
structure Fit (n a b : Nat) (ms : List Int) (T N : Nat) : Prop extends CodeOK n a b where
  len : ms.length = 2 * T
  tn : T = N + (n - 1)
  max : T ≤ 16384
  mks : ∀ m ∈ ms, 0 ≤ m ∧ m ≤ 2
theorem contains_ok (ms : List Int) (hl : ms.length < 140737488351233) : f_slices_ContainsFunc_hard_Mark_hard_Mark ms = some (decide (∃ m ∈ ms, 2 < m)) := by
  have key : ∀ k i : Nat, i + k = ms.length → (∀ j : Nat, j < i → ¬ 2 < gt ms (j : Int)) →
      ∃ r, loop (f_slices_IndexFunc_hard_Mark_hard_Mark.s1 ms) (i : Int) = some r ∧ ((r = .inl () ∧ ∀ j : Nat, j < ms.length → ¬ 2 < gt ms (j : Int)) ∨ ∃ j : Nat, r = .inr (j : Int) ∧ j < ms.length ∧ 2 < gt ms (j : Int)) := by
    intro k
    induction k with
    | zero =>
      intro i hi hj
      obtain rfl : i = ms.length := by omega
      refine ⟨_, loop_done (r := .inl ()) ?_, .inl ⟨rfl, hj⟩⟩
      simp only [f_slices_IndexFunc_hard_Mark_hard_Mark.s1, f_slices_IndexFunc_hard_Mark_hard_Mark.s1c]
      rw [if_neg (by simp)]
    | succ k ih =>
      intro i hi hj
      by_cases hm : 2 < gt ms (i : Int)
      · refine ⟨_, loop_done (r := .inr (i : Int)) ?_, .inr ⟨i, rfl, by omega, hm⟩⟩
        simp only [f_slices_IndexFunc_hard_Mark_hard_Mark.s1, f_slices_IndexFunc_hard_Mark_hard_Mark.s1c, f_hard_fits_1]
        rw [if_pos (by simp; omega), if_pos (by omega)]
        simp only [Option.bind_some]
        rw [if_pos (by simpa using hm)]
      · obtain ⟨r, h1, h2⟩ := ih (i + 1) (by omega) (fun j hj' => by
          by_cases hji : j < i
          · exact hj j hji
          · obtain rfl : j = i := by omega
            exact hm)
        refine ⟨r, ?_, h2⟩
        rw [← h1]
        apply loop_step
        simp only [f_slices_IndexFunc_hard_Mark_hard_Mark.s1, f_slices_IndexFunc_hard_Mark_hard_Mark.s1c, f_hard_fits_1]
        rw [if_pos (by simp; omega), if_pos (by omega)]
        simp only [Option.bind_some]
        rw [if_neg (by simpa using hm), w64 (by omega) (by omega)]
        rfl
  obtain ⟨r, h1, h2⟩ := key ms.length 0 (by omega) (fun j hj => by omega)
  rw [show ((0 : Nat) : Int) = 0 from rfl] at h1
  unfold f_slices_ContainsFunc_hard_Mark_hard_Mark f_slices_IndexFunc_hard_Mark_hard_Mark
  rw [h1]
  rcases h2 with ⟨rfl, hn⟩ | ⟨j, rfl, hj, hm⟩
  · simp only [Option.bind_some, sm]
    congr 1
    rw [decide_eq_false (by omega)]
    symm
    rw [decide_eq_false_iff_not]
    rintro ⟨m, hm, h3⟩
    obtain ⟨j, hj, rfl⟩ := List.mem_iff_getElem.1 hm
    exact hn j hj (by rw [gt_nat hj]; exact h3)
  · simp only [Option.bind_some, sm]
    congr 1
    rw [decide_eq_true (by omega)]
    symm
    rw [decide_eq_true_eq]
    exact ⟨_, List.getElem_mem hj, by rw [← gt_nat hj]; exact hm⟩
theorem fits_ok {n a b T N : Nat} {ms : List Int} (h : Fit n a b ms T N) : f_hard_fits (n : Int) (a : Int) (b : Int) ms = some true := by
  have h1 := h.n2; have h2 := h.n7; have h3 := h.len; have h4 := h.tn; have h5 := h.max
  unfold f_hard_fits
  rw [check_ok h.toCodeOK]
  simp only [Option.bind_some]
  have e1 : ((ms.length : Int)).tmod 2 = 0 := by rw [show (2 : Int) = ((2 : Nat) : Int) from rfl, tmod_nat]; omega
  rw [e1, w64 (x := (n : Int) - 1) (by omega) (by omega), w64 (by omega) (by omega), if_neg (by simp; omega), contains_ok ms (by omega)]
  simp only [Option.bind_some]
  rw [decide_eq_false]
  · rfl
  · rintro ⟨m, hm, hm2⟩
    have := h.mks m hm
    omega

section
variable {n a b T N : Nat} {ms : List Int}
theorem pow_le_of (h : CodeOK n a b) : 2 ^ (n - 1) ≤ 64 := by obtain ⟨q, p1, p2, q1, q2, _⟩ := h.pq; omega
theorem sh_ok (h : CodeOK n a b) : ishl .u32 (1 : Int) (IntKind.i64.wrap ((n : Int) - 1)) = ((2 ^ (n - 1) : Nat) : Int) := by
  have h1 := h.n2; have h2 := h.n7; have := pow_le_of h
  rw [w64 (by omega) (by omega), show (n : Int) - 1 = ((n - 1 : Nat) : Int) by omega, show ((1 : Int)) = ((1 : Nat) : Int) from rfl, ishl32 (by omega) (by omega), Nat.one_mul]
theorem half_ok (h : Fit n a b ms T N) : IntKind.i64.wrap (((ms.length : Int)).tdiv 2) = (T : Int) := by
  have h3 := h.len; have h5 := h.max
  rw [show (2 : Int) = ((2 : Nat) : Int) from rfl, tdiv_nat, w64 (by omega) (by omega), h3]; omega
theorem many_ok (h : Fit n a b ms T N) : IntKind.i64.wrap ((T : Int) - IntKind.i64.wrap ((n : Int) - 1)) = (N : Int) := by
  have h1 := h.n2; have h2 := h.n7; have h4 := h.tn; have h5 := h.max
  rw [w64 (x := (n : Int) - 1) (by omega) (by omega), w64 (by omega) (by omega)]; omega
theorem path_s1 (h : Fit n a b ms T N) : loop (f_hard_Path.s1 (n : Int) ms) (tab T (fun _ _ => 0), 0) = some (tab T fun t s => if t = T ∧ s < 2 ^ (n - 1) then 1048576 else 0) := by
  have hp := pow_le_of h.toCodeOK
  have key := loop_for (f := f_hard_Path.s1 (n : Int) ms) (2 ^ (n - 1)) (fun j => tab T fun t s => if t = T ∧ s < j then 1048576 else 0) (tab T fun t s => if t = T ∧ s < 2 ^ (n - 1) then 1048576 else 0) (fun j hj => ?_) ?_
  · simpa using key
  · simp only [f_hard_Path.s1, f_hard_Path.s1c]
    rw [sh_ok h.toCodeOK, half_ok h, tab_len, if_pos (by rw [decide_eq_true_eq]; omega), if_pos (by omega), if_pos (by omega), Int.toNat_natCast, Int.toNat_natCast, tab_set _ (Nat.le_refl _) (by omega), w32 (by omega) (by omega)]
    congr 3
    apply tab_congr
    intro t s ht hs
    simp only [upd]
    by_cases h1 : t = T ∧ s = j
    · rw [if_pos h1, if_pos ⟨h1.1, by omega⟩]
    · rw [if_neg h1]
      by_cases h2 : t = T ∧ s < j
      · rw [if_pos h2, if_pos ⟨h2.1, by omega⟩]
      · rw [if_neg h2, if_neg (by omega)]
  · simp only [f_hard_Path.s1, f_hard_Path.s1c]
    rw [sh_ok h.toCodeOK, if_neg (by simp)]

def Gk (n a b : Nat) (ms : List Int) (T N k : Nat) : Nat → Nat → Int := fun t s => if T - k ≤ t ∧ t ≤ T ∧ s < 2 ^ (n - 1) then ((D n a b ms T N 1048576 (T - t) s : Nat) : Int) else 0
theorem path_s3 (h : Fit n a b ms T N) {k : Nat} (hk : k < T) :
    loop (f_hard_Path.s3 (n : Int) (a : Int) (b : Int) ms ((T - (k + 1) : Nat) : Int)) (tab T (Gk n a b ms T N k), 0) = some (tab T (Gk n a b ms T N (k + 1))) := by
  have hp := pow_le_of h.toCodeOK
  have h1 := h.n2; have h2 := h.n7; have h3 := h.len; have h4 := h.tn; have h5 := h.max
  obtain ⟨t, ht⟩ : ∃ t, t = T - (k + 1) := ⟨_, rfl⟩
  rw [← ht]
  have htT : t + 1 ≤ T := by omega
  have hkt : T - (t + 1) = k := by omega
  have key := loop_for (f := f_hard_Path.s3 (n : Int) (a : Int) (b : Int) ms (t : Int)) (2 ^ (n - 1))
    (fun j => tab T fun t' s => if t' = t ∧ s < j then ((D n a b ms T N 1048576 (k + 1) s : Nat) : Int) else Gk n a b ms T N k t' s) (tab T (Gk n a b ms T N (k + 1))) (fun j hj => ?_) ?_
  · refine Eq.trans (congrArg (fun x => loop _ (x, (0 : Int))) ?_) key
    apply tab_congr
    intro t' s _ _
    simp
  · obtain ⟨f, hf⟩ : ∃ f : Nat → Nat → Int, f = fun t' s => if t' = t ∧ s < j then ((D n a b ms T N 1048576 (k + 1) s : Nat) : Int) else Gk n a b ms T N k t' s := ⟨_, rfl⟩
    have e2t : IntKind.i64.wrap (2 * (t : Int)) = ((2 * t : Nat) : Int) := by rw [w64 (by omega) (by omega)]; omega
    have et1 : IntKind.i64.wrap ((t : Int) + 1) = ((t + 1 : Nat) : Int) := by rw [w64 (by omega) (by omega)]; rfl
    have ej1 : IntKind.u32.wrap ((j : Int) + 1) = ((j + 1 : Nat) : Int) := by rw [w32 (by omega) (by omega)]; rfl
    have hnx : ∀ c, nx n j c < 2 ^ (n - 1) := fun c => nx_lt h.toCodeOK hj c
    have hfn : ∀ (g : Nat → Nat → Int) (c : Bool), (∀ s, g (t + 1) s = f (t + 1) s) → g (t + 1) (nx n j c) = ((D n a b ms T N 1048576 k (nx n j c) : Nat) : Int) := fun g c hg => by
      rw [hg, hf]
      simp only [Gk]
      rw [if_neg (by omega), if_pos ⟨by omega, by omega, hnx c⟩, hkt]
    have hDl : ∀ c, D n a b ms T N 1048576 k (nx n j c) ≤ 1048576 + 2 * k := fun c => D_le n a b ms T N _ k _
    have hcl : ∀ c, cst n a b ms t j c ≤ 2 := fun c => cst_le n a b ms t j c
    have hs0 := hstep_at h.toCodeOK hj false ms t (by omega)
    have hs1 := hstep_at h.toCodeOK hj true ms t (by omega)
    simp only [Bool.false_eq_true, if_false] at hs0
    simp only [if_true] at hs1
    simp only [← hf]
    simp only [f_hard_Path.s3, f_hard_Path.s3c]
    rw [sh_ok h.toCodeOK, half_ok h, many_ok h, e2t, et1, ej1, if_pos (by rw [decide_eq_true_eq]; omega), if_pos (by omega), Int.toNat_natCast, hs0]
    simp only [Option.bind_some]
    have n0 := hnx false
    have n1 := hnx true
    have d0 := hDl false; have d1 := hDl true; have c0 := hcl false; have c1 := hcl true
    simp only [tab_len]
    rw [if_pos (by omega), if_pos (by omega), if_pos (by omega), if_pos (by omega)]
    rw [tab_get (f := f) (t := t + 1) (s := nx n j false) htT (by omega), hfn f false (fun _ => rfl)]
    simp only [Int.toNat_natCast]
    rw [tab_set _ (by omega) (by omega), w32s (x := ((cst n a b ms t j false : Nat) : Int) + ((D n a b ms T N 1048576 k (nx n j false) : Nat) : Int)) (by omega) (by omega)]
    obtain ⟨x0, hx0⟩ : ∃ x, x = ((cst n a b ms t j false : Nat) : Int) + ((D n a b ms T N 1048576 k (nx n j false) : Nat) : Int) := ⟨_, rfl⟩
    rw [← hx0]
    have hDk : D n a b ms T N 1048576 (k + 1) j = if t < N then min (cst n a b ms t j false + D n a b ms T N 1048576 k (nx n j false)) (cst n a b ms t j true + D n a b ms T N 1048576 k (nx n j true)) else cst n a b ms t j false + D n a b ms T N 1048576 k (nx n j false) := by
      simp only [D, ← ht]
    by_cases hN : t < N
    · rw [if_pos (by simp; omega), if_pos (by omega), hs1]
      simp only [Option.bind_some, tab_len]
      rw [if_pos (by omega), if_pos (by omega), if_pos (by omega), if_pos (by omega), if_pos (by omega), if_pos (by omega)]
      rw [tab_get (f := upd f t j x0) (t := t + 1) (s := nx n j true) htT (by omega), hfn (upd f t j x0) true (fun s => by simp only [upd]; rw [if_neg (by omega)])]
      rw [w32s (x := ((cst n a b ms t j true : Nat) : Int) + ((D n a b ms T N 1048576 k (nx n j true) : Nat) : Int)) (by omega) (by omega)]
      rw [tab_get (f := upd f t j x0) (t := t) (s := j) (by omega) (by omega), tab_set _ (by omega) (by omega)]
      have hv : imin (upd f t j x0 t j) (((cst n a b ms t j true : Nat) : Int) + ((D n a b ms T N 1048576 k (nx n j true) : Nat) : Int)) = ((D n a b ms T N 1048576 (k + 1) j : Nat) : Int) := by
        simp only [upd, and_self, if_true]
        rw [hx0, ← Int.natCast_add, ← Int.natCast_add, imin_nat, hDk, if_pos hN]
      rw [hv]
      congr 3
      apply tab_congr
      intro t' s _ _
      simp only [upd, hf]
      by_cases hh : t' = t ∧ s = j
      · rw [if_pos hh, if_pos ⟨hh.1, by omega⟩, hh.2]
      · rw [if_neg hh, if_neg hh]
        by_cases hh2 : t' = t ∧ s < j
        · rw [if_pos hh2, if_pos ⟨hh2.1, by omega⟩]
        · rw [if_neg hh2, if_neg (by omega)]
    · rw [if_neg (by simp; omega)]
      have hv : x0 = ((D n a b ms T N 1048576 (k + 1) j : Nat) : Int) := by rw [hx0, hDk, if_neg hN]; omega
      rw [hv]
      congr 3
      apply tab_congr
      intro t' s _ _
      simp only [upd, hf]
      by_cases hh : t' = t ∧ s = j
      · rw [if_pos hh, if_pos ⟨hh.1, by omega⟩, hh.2]
      · rw [if_neg hh]
        by_cases hh2 : t' = t ∧ s < j
        · rw [if_pos hh2, if_pos ⟨hh2.1, by omega⟩]
        · rw [if_neg hh2, if_neg (by omega)]
  · simp only [f_hard_Path.s3, f_hard_Path.s3c]
    rw [sh_ok h.toCodeOK, if_neg (by simp)]
    congr 2
    apply tab_congr
    intro t' s _ _
    simp only [Gk]
    by_cases hh : t' = t
    · subst hh
      by_cases hs : s < 2 ^ (n - 1)
      · rw [if_pos ⟨rfl, hs⟩, if_pos ⟨by omega, by omega, hs⟩, show T - t' = k + 1 by omega]
      · rw [if_neg (by omega), if_neg (by omega), if_neg (by omega)]
    · rw [if_neg (by omega)]
      by_cases hs : T - k ≤ t' ∧ t' ≤ T ∧ s < 2 ^ (n - 1)
      · rw [if_pos hs, if_pos (by omega)]
      · rw [if_neg hs, if_neg (by omega)]
theorem path_s2 (h : Fit n a b ms T N) : loop (f_hard_Path.s2 (n : Int) (a : Int) (b : Int) ms) (tab T (Gk n a b ms T N 0), (T : Int) - 1) = some (tab T (Gk n a b ms T N T)) := by
  have h5 := h.max
  have key : ∀ j k : Nat, k + j = T → loop (f_hard_Path.s2 (n : Int) (a : Int) (b : Int) ms) (tab T (Gk n a b ms T N k), (T : Int) - 1 - (k : Int)) = some (tab T (Gk n a b ms T N T)) := by
    intro j
    induction j with
    | zero =>
      intro k hk
      obtain rfl : k = T := by omega
      apply loop_done
      simp only [f_hard_Path.s2, f_hard_Path.s2c]
      rw [if_neg (by simp; omega)]
    | succ j ih =>
      intro k hk
      rw [← ih (k + 1) (by omega)]
      apply loop_step
      simp only [f_hard_Path.s2, f_hard_Path.s2c]
      rw [if_pos (by simp; omega), show (T : Int) - 1 - (k : Int) = ((T - (k + 1) : Nat) : Int) by omega, path_s3 h (by omega)]
      simp only [Option.bind_some]
      rw [w64 (by omega) (by omega), show ((T - (k + 1) : Nat) : Int) - 1 = (T : Int) - 1 - ((k + 1 : Nat) : Int) by omega]
  have := key T 0 (by omega)
  simpa using this
theorem path_s4 (h : Fit n a b ms T N) : loop (f_hard_Path.s4 (n : Int) (a : Int) (b : Int) ms (tab T (Gk n a b ms T N T))) (List.replicate N false, 0, 0) = some (msgN n a b ms T N 1048576 N) := by
  have hp := pow_le_of h.toCodeOK
  have h1 := h.n2; have h2 := h.n7; have h3 := h.len; have h4 := h.tn; have h5 := h.max
  obtain ⟨B, hB⟩ : ∃ B : Nat → Bool, B = fun t => bitOf n a b ms T N 1048576 t (pst n a b ms T N 1048576 t) := ⟨_, rfl⟩
  have key : ∀ k i : Nat, i + k = N → loop (f_hard_Path.s4 (n : Int) (a : Int) (b : Int) ms (tab T (Gk n a b ms T N T))) ((List.range N).map (fun t => if t < i then B t else false), ((pst n a b ms T N 1048576 i : Nat) : Int), (i : Int)) = some (msgN n a b ms T N 1048576 N) := by
    intro k
    induction k with
    | zero =>
      intro i hi
      obtain rfl : i = N := by omega
      apply loop_done
      simp only [f_hard_Path.s4, f_hard_Path.s4c]
      rw [half_ok h, many_ok h, if_neg (by simp)]
      congr 2
      unfold msgN
      apply List.map_congr_left
      intro t ht
      rw [if_pos (by simpa using ht), hB]
    | succ k ih =>
      intro i hi
      rw [← ih (i + 1) (by omega)]
      apply loop_step
      have hs := pst_lt h.toCodeOK ms T N 1048576 i
      obtain ⟨s, hse⟩ : ∃ s, s = pst n a b ms T N 1048576 i := ⟨_, rfl⟩
      rw [← hse] at hs ⊢
      have e2t : IntKind.i64.wrap (2 * (i : Int)) = ((2 * i : Nat) : Int) := by rw [w64 (by omega) (by omega)]; omega
      have et1 : IntKind.i64.wrap ((i : Int) + 1) = ((i + 1 : Nat) : Int) := by rw [w64 (by omega) (by omega)]; rfl
      have n0 := nx_lt h.toCodeOK hs false
      have n1 := nx_lt h.toCodeOK hs true
      have hs0 := hstep_at h.toCodeOK hs false ms i (by omega)
      have hs1 := hstep_at h.toCodeOK hs true ms i (by omega)
      simp only [Bool.false_eq_true, if_false] at hs0
      simp only [if_true] at hs1
      have g1 : gt (gt (tab T (Gk n a b ms T N T)) ((i + 1 : Nat) : Int)) ((nx n s false : Nat) : Int) = ((D n a b ms T N 1048576 (T - (i + 1)) (nx n s false) : Nat) : Int) := by
        rw [tab_get (by omega) (by omega)]; simp only [Gk]; rw [if_pos ⟨by omega, by omega, n0⟩]
      have g2 : gt (gt (tab T (Gk n a b ms T N T)) (i : Int)) (s : Int) = ((D n a b ms T N 1048576 (T - i) s : Nat) : Int) := by
        rw [tab_get (by omega) (by omega)]; simp only [Gk]; rw [if_pos ⟨by omega, by omega, hs⟩]
      have hDl := D_le n a b ms T N 1048576 (T - (i + 1)) (nx n s false)
      have hcl := cst_le n a b ms i s false
      have hbit : ((IntKind.i32.wrap (((cst n a b ms i s false : Nat) : Int) + ((D n a b ms T N 1048576 (T - (i + 1)) (nx n s false) : Nat) : Int))) != ((D n a b ms T N 1048576 (T - i) s : Nat) : Int)) = B i := by
        rw [w32s (by omega) (by omega), hB]
        simp only [← hse, bitOf]
        rw [Bool.eq_iff_iff, bne_iff_ne, decide_eq_true_eq]
        constructor <;> intro h9 h10 <;> apply h9 <;> omega
      have hset : ((List.range N).map (fun t => if t < i then B t else false)).set i (B i) = (List.range N).map (fun t => if t < i + 1 then B t else false) := by
        apply List.ext_getElem
        · simp
        · intro j j1 j2
          simp only [List.getElem_set, List.getElem_map, List.getElem_range]
          by_cases hji : i = j
          · subst hji; simp
          · rw [if_neg hji]
            by_cases hlt : j < i
            · rw [if_pos hlt, if_pos (by omega)]
            · rw [if_neg hlt, if_neg (by omega)]
      have hget : gt ((List.range N).map (fun t => if t < i + 1 then B t else false)) (i : Int) = B i := by
        rw [gt_nat (by simp; omega)]; simp
      have hps : pst n a b ms T N 1048576 (i + 1) = nx n s (B i) := by
        rw [hB]; simp only [pst, ← hse]
      simp only [f_hard_Path.s4, f_hard_Path.s4c]
      rw [half_ok h, many_ok h, e2t, et1, if_pos (by simp; omega), if_pos (by omega), Int.toNat_natCast, hs0]
      simp only [Option.bind_some, tab_len]
      rw [if_pos (by omega), if_pos (by omega), if_pos (by omega), if_pos (by omega), if_pos (by simp; omega), g1, g2, hbit, Int.toNat_natCast, hset, if_pos (by simp; omega), hget, hps]
      cases hBi : B i with
      | false => rw [if_neg (by simp)]
      | true => rw [if_pos rfl, if_pos (by omega), hs1]; rfl
  have := key N 0 (by omega)
  rw [show ((0 : Nat) : Int) = 0 from rfl] at this
  refine Eq.trans (congrArg (fun x => loop _ (x, (0 : Int), (0 : Int))) ?_) this
  apply List.ext_getElem
  · simp
  · intro j j1 j2; simp
theorem path_ok (h : Fit n a b ms T N) : f_hard_Path (n : Int) (a : Int) (b : Int) ms = some (msgN n a b ms T N 1048576 N, ((D n a b ms T N 1048576 T 0 : Nat) : Int), 0) := by
  have hp := pow_le_of h.toCodeOK
  have h1 := h.n2; have h2 := h.n7; have h3 := h.len; have h4 := h.tn; have h5 := h.max
  have ht1 : IntKind.i64.wrap ((T : Int) + 1) = ((T + 1 : Nat) : Int) := by rw [w64 (by omega) (by omega)]; rfl
  have hDl := D_le n a b ms T N 1048576 T 0
  unfold f_hard_Path
  rw [fits_ok h]
  simp only [Option.bind_some]
  rw [if_neg (by simp), half_ok h, many_ok h, ht1, w64 (x := (n : Int) - 1) (by omega) (by omega), if_pos (by omega), if_pos (by omega), Int.toNat_natCast, tab_zero, path_s1 h]
  simp only [Option.bind_some]
  rw [tab_len, if_pos (by omega), Int.toNat_natCast, show ((0 : Int)).toNat = 0 from rfl, tab_set _ (Nat.le_refl _) (by omega), w64 (x := (T : Int) - 1) (by omega) (by omega)]
  have e0 : tab T (upd (fun t s => if t = T ∧ s < 2 ^ (n - 1) then 1048576 else 0) T 0 0) = tab T (Gk n a b ms T N 0) := by
    obtain ⟨q, p1, p2, q1, q2, _⟩ := h.pq
    apply tab_congr
    intro t s ht hs
    simp only [upd, Gk]
    by_cases hh : t = T ∧ s = 0
    · rw [if_pos hh, if_pos (by omega), hh.1, hh.2]; simp [D]
    · rw [if_neg hh]
      by_cases hh2 : t = T ∧ s < 2 ^ (n - 1)
      · rw [if_pos hh2, if_pos (by omega), hh2.1]; simp only [Nat.sub_self, D]; rw [if_neg (by omega)]; rfl
      · rw [if_neg hh2, if_neg (by omega)]
  rw [e0, path_s2 h]
  simp only [Option.bind_some]
  rw [if_pos (by omega), Int.toNat_natCast, path_s4 h]
  simp only [Option.bind_some, tab_len]
  rw [if_pos (by omega)]
  have g0 : gt (gt (tab T (Gk n a b ms T N T)) 0) 0 = ((D n a b ms T N 1048576 T 0 : Nat) : Int) := by
    have := tab_get (f := Gk n a b ms T N T) (T := T) (t := 0) (s := 0) (by omega) (by omega)
    rw [show ((0 : Nat) : Int) = 0 from rfl] at this
    rw [this]
    simp only [Gk]
    obtain ⟨q, p1, p2, q1, q2, _⟩ := h.pq
    rw [if_pos ⟨by omega, by omega, by omega⟩, Nat.sub_zero]
  rw [g0, w64 (by omega) (by omega)]
end
/-! ### The way of a message, and its cost -/
def bitAt (l : List Bool) (i : Nat) : Bool := if i < l.length then gt l (i : Int) else false
def st (n : Nat) (l : List Bool) : Nat → Nat
  | 0 => 0
  | i + 1 => nx n (st n l i) (bitAt l i)
theorem st_lt {n a b : Nat} (h : CodeOK n a b) (l : List Bool) : ∀ i, st n l i < 2 ^ (n - 1)
  | 0 => by obtain ⟨q, p1, _, q1, _⟩ := h.pq; rw [p1]; simp only [st]; omega
  | i + 1 => nx_lt h (st_lt h l i) _
theorem st_down (n : Nat) (l : List Bool) : ∀ k, st n l (l.length + k) * 2 ^ k ≤ st n l l.length
  | 0 => by simp
  | k + 1 => by
    have ih := st_down n l k
    have : st n l (l.length + (k + 1)) = st n l (l.length + k) / 2 := by
      show nx n (st n l (l.length + k)) (bitAt l (l.length + k)) = _
      have : bitAt l (l.length + k) = false := by unfold bitAt; rw [if_neg (by omega)]
      rw [this]; simp [nx, al]
    rw [this, Nat.pow_succ, Nat.mul_comm (2 ^ k) 2, ← Nat.mul_assoc]
    exact Nat.le_trans (Nat.mul_le_mul_right _ (Nat.div_mul_le_self _ 2)) ih
theorem st_end {n a b : Nat} (h : CodeOK n a b) (l : List Bool) : st n l (l.length + (n - 1)) = 0 := by
  have h1 := st_down n l (n - 1)
  have h2 := st_lt h l l.length
  rcases Nat.eq_zero_or_pos (st n l (l.length + (n - 1))) with h0 | h0
  · exact h0
  · have := Nat.mul_le_mul_right (2 ^ (n - 1)) h0
    simp only [Nat.one_mul, Nat.succ_eq_add_one, Nat.zero_add] at this
    omega
theorem bit_read {l : List Bool} (i : Nat) : (if (decide ((i : Int) < (l.length : Int))) = true then (if 0 ≤ (i : Int) ∧ (i : Int) < (l.length : Int) then (some (gt l (i : Int))) else none) else (some false)) = some (bitAt l i) := by
  unfold bitAt
  by_cases h : i < l.length
  · rw [if_pos (by simpa using h), if_pos (by omega), if_pos h]
  · rw [if_neg (by simpa using h), if_neg h]
def cs (n a b : Nat) (ms : List Int) (l : List Bool) : Nat → Nat
  | 0 => 0
  | t + 1 => cs n a b ms l t + cst n a b ms t (st n l t) (bitAt l t)
theorem cs_le (n a b : Nat) (ms : List Int) (l : List Bool) : ∀ t, cs n a b ms l t ≤ 2 * t
  | 0 => by simp [cs]
  | t + 1 => by have := cs_le n a b ms l t; have := cst_le n a b ms t (st n l t) (bitAt l t); simp only [cs]; omega
theorem cost_loop {n a b T N : Nat} {ms : List Int} (h : Fit n a b ms T N) (l : List Bool) : loop (f_hard_Cost.s1 (n : Int) (a : Int) (b : Int) l ms) (0, 0, 0) = some ((cs n a b ms l T : Nat) : Int) := by
  have h1 := h.n2; have h2 := h.n7; have h3 := h.len; have h4 := h.tn; have h5 := h.max
  have key : ∀ k i : Nat, i + k = T → loop (f_hard_Cost.s1 (n : Int) (a : Int) (b : Int) l ms) (((st n l i : Nat) : Int), ((cs n a b ms l i : Nat) : Int), (i : Int)) = some ((cs n a b ms l T : Nat) : Int) := by
    intro k
    induction k with
    | zero =>
      intro i hi
      obtain rfl : i = T := by omega
      apply loop_done
      simp only [f_hard_Cost.s1, f_hard_Cost.s1c]
      rw [half_ok h, if_neg (by simp)]
    | succ k ih =>
      intro i hi
      rw [← ih (i + 1) (by omega)]
      apply loop_step
      have hs := st_lt h.toCodeOK l i
      have hcs := cs_le n a b ms l i
      have hcl := cst_le n a b ms i (st n l i) (bitAt l i)
      have e2t : IntKind.i64.wrap (2 * (i : Int)) = ((2 * i : Nat) : Int) := by rw [w64 (by omega) (by omega)]; omega
      have et1 : IntKind.i64.wrap ((i : Int) + 1) = ((i + 1 : Nat) : Int) := by rw [w64 (by omega) (by omega)]; rfl
      have hst := hstep_at h.toCodeOK hs (bitAt l i) ms i (by omega)
      have ec : IntKind.i32.wrap (((cs n a b ms l i : Nat) : Int) + ((cst n a b ms i (st n l i) (bitAt l i) : Nat) : Int)) = ((cs n a b ms l (i + 1) : Nat) : Int) := by
        rw [w32s (by omega) (by omega)]; rfl
      simp only [f_hard_Cost.s1, f_hard_Cost.s1c, f_hard_Cost.j1]
      rw [half_ok h, if_pos (by rw [decide_eq_true_eq]; omega), bit_read]
      simp only [Option.bind_some]
      rw [e2t, et1]
      have hnx : nx n (st n l i) (bitAt l i) = st n l (i + 1) := rfl
      rw [← hnx]
      cases hb : bitAt l i with
      | false =>
        rw [hb] at hst ec
        simp only [Bool.false_eq_true, if_false] at hst ⊢
        rw [if_pos (by omega), Int.toNat_natCast, hst]
        simp only [Option.bind_some]
        rw [ec]
      | true =>
        rw [hb] at hst ec
        simp only [if_true] at hst ⊢
        rw [if_pos (by omega), Int.toNat_natCast, hst]
        simp only [Option.bind_some]
        rw [ec]
  exact key T 0 (by omega)
theorem cost_ok {n a b T N : Nat} {ms : List Int} (h : Fit n a b ms T N) (l : List Bool) (hl : l.length = N) : f_hard_Cost (n : Int) (a : Int) (b : Int) l ms = some (((cs n a b ms l T : Nat) : Int), 0) := by
  have h5 := h.max
  have hcs := cs_le n a b ms l T
  unfold f_hard_Cost
  rw [fits_ok h]
  simp only [Option.bind_some]
  rw [half_ok h, many_ok h, if_neg (by simp [hl]), cost_loop h l]
  simp only [Option.bind_some]
  rw [w64 (by omega) (by omega)]
theorem bits_self (a : List Bool) (h : a.length < 140737488351233) : f_foghornlaw22_sameBits a a = some true := by
  unfold f_foghornlaw22_sameBits
  rw [if_neg (by simp)]
  have := loop_same (f := f_foghornlaw22_sameBits.s1 a a) a (· != ·) (by simp) (by omega) false (fun i => rfl)
  rw [this]; rfl
theorem marks_self (a : List Int) (h : a.length < 140737488351233) : f_foghornlaw22_sameMarks a a = some true := by
  unfold f_foghornlaw22_sameMarks
  rw [if_neg (by simp)]
  have := loop_same (f := f_foghornlaw22_sameMarks.s1 a a) a (· != ·) (by simp) (by omega) false (fun i => rfl)
  rw [this]; rfl
theorem path_no {c o t : Int} {ms : List Int} (h : f_hard_fits c o t ms = some false) : f_hard_Path c o t ms = some ([], 0, 1) := by
  unfold f_hard_Path
  rw [h]; rfl
theorem cw : CodeOK 3 7 5 := ⟨by decide, by decide, by decide, by decide, by decide, by decide, by decide⟩
/-- lengths that don't fit -/
theorem fits_len {n a b : Nat} (h : CodeOK n a b) {ms : List Int} (hl : ms.length < 140737488351233) (hb : 32768 < ms.length ∨ ms.length % 2 = 1 ∨ ms.length < 2 * (n - 1)) : f_hard_fits (n : Int) (a : Int) (b : Int) ms = some false := by
  have h1 := h.n2; have h2 := h.n7
  unfold f_hard_fits
  rw [check_ok h]
  simp only [Option.bind_some]
  have e1 : ((ms.length : Int)).tmod 2 = ((ms.length % 2 : Nat) : Int) := by rw [show (2 : Int) = ((2 : Nat) : Int) from rfl, tmod_nat]
  rw [e1, w64 (x := (n : Int) - 1) (by omega) (by omega), w64 (by omega) (by omega), if_pos]
  simp only [Bool.or_eq_true, bne_iff_ne, ne_eq, decide_eq_true_eq]
  omega
theorem fits_mark {n a b : Nat} (h : CodeOK n a b) {ms : List Int} (hl : ms.length < 140737488351233) (hb : ∃ m ∈ ms, 2 < m) : f_hard_fits (n : Int) (a : Int) (b : Int) ms = some false := by
  unfold f_hard_fits
  rw [check_ok h]
  simp only [Option.bind_some]
  split
  · rfl
  · rw [contains_ok ms hl, decide_eq_true hb]; rfl
/-! ### Any code -/
theorem j2_tab : ∀ n : Nat, n < 4 → ∀ y : Nat, y < 256 → ((f_math_bits_Len32.j2 (y : Int) ((8 * n : Nat) : Int)).any fun k => decide (((8 * n + (if y = 0 then 0 else if y < 128 then 1 else 8) : Nat) : Int) ≤ k)) = true := by decide +kernel
theorem j2_ge {n y : Nat} (hn : n < 4) (hy : y < 256) : ∃ k : Nat, f_math_bits_Len32.j2 (y : Int) ((8 * n : Nat) : Int) = some (k : Int) ∧ 8 * n + (if y = 0 then 0 else if y < 128 then 1 else 8) ≤ k := by
  have := j2_tab n hn y hy
  cases hh : f_math_bits_Len32.j2 (y : Int) ((8 * n : Nat) : Int) with
  | none => rw [hh] at this; cases this
  | some q =>
    rw [hh] at this
    simp only [Option.any_some, decide_eq_true_eq] at this
    exact ⟨q.toNat, by congr 1; omega, by omega⟩
theorem len_big {m : Nat} (h1 : 128 ≤ m) (h2 : m < 4294967296) : ∃ k : Nat, f_math_bits_Len32 (m : Int) = some (k : Int) ∧ 8 ≤ k := by
  unfold f_math_bits_Len32
  by_cases h3 : 65536 ≤ m
  · rw [if_pos (by rw [decide_eq_true_eq]; omega), show (16 : Int) = ((16 : Nat) : Int) from rfl, ishr_nat (by decide)]
    have hy : m / 2 ^ 16 < 65536 := by rw [show (2 : Nat) ^ 16 = 65536 from rfl]; omega
    have hy1 : 1 ≤ m / 2 ^ 16 := by rw [show (2 : Nat) ^ 16 = 65536 from rfl]; omega
    generalize m / 2 ^ 16 = y at *
    unfold f_math_bits_Len32.j1
    by_cases h4 : 256 ≤ y
    · rw [if_pos (by rw [decide_eq_true_eq]; omega), show (8 : Int) = ((8 : Nat) : Int) from rfl, ishr_nat (by decide), show IntKind.i64.wrap (((16 : Nat) : Int) + ((8 : Nat) : Int)) = ((8 * 3 : Nat) : Int) from by decide]
      have hz : y / 2 ^ 8 < 256 := by rw [show (2 : Nat) ^ 8 = 256 from rfl]; omega
      obtain ⟨k, k1, k2⟩ := j2_ge (n := 3) (by decide) hz
      exact ⟨k, k1, by omega⟩
    · rw [if_neg (by rw [decide_eq_true_eq]; omega), show ((16 : Nat) : Int) = ((8 * 2 : Nat) : Int) from rfl]
      obtain ⟨k, k1, k2⟩ := j2_ge (n := 2) (y := y) (by decide) (by omega)
      exact ⟨k, k1, by omega⟩
  · rw [if_neg (by rw [decide_eq_true_eq]; omega)]
    unfold f_math_bits_Len32.j1
    by_cases h4 : 256 ≤ m
    · rw [if_pos (by rw [decide_eq_true_eq]; omega), show (8 : Int) = ((8 : Nat) : Int) from rfl, ishr_nat (by decide), show IntKind.i64.wrap (0 + ((8 : Nat) : Int)) = ((8 * 1 : Nat) : Int) from by decide]
      have hz : m / 2 ^ 8 < 256 := by rw [show (2 : Nat) ^ 8 = 256 from rfl]; omega
      obtain ⟨k, k1, k2⟩ := j2_ge (n := 1) (by decide) hz
      exact ⟨k, k1, by omega⟩
    · rw [if_neg (by rw [decide_eq_true_eq]; omega), show (0 : Int) = ((8 * 0 : Nat) : Int) from rfl]
      obtain ⟨k, k1, k2⟩ := j2_ge (n := 0) (y := m) (by decide) (by omega)
      exact ⟨k, k1, by rw [if_neg (by omega), if_neg (by omega)] at k2; omega⟩
theorem sh1 {n : Nat} (h7 : n ≤ 7) : ishl .u32 (1 : Int) (n : Int) = ((2 ^ n : Nat) : Int) := by
  have : (2 : Nat) ^ n ≤ 2 ^ 7 := Nat.pow_le_pow_right (by decide) h7
  rw [show ((1 : Int)) = ((1 : Nat) : Int) from rfl, ishl32 (by omega) (by omega), Nat.one_mul]
theorem pow_split {n : Nat} (h2 : 2 ≤ n) (h7 : n ≤ 7) : ∃ q, 2 ^ (n - 1) = 2 * q ∧ 2 ^ n = 4 * q ∧ 1 ≤ q ∧ q ≤ 32 := by
  have : n = 2 ∨ n = 3 ∨ n = 4 ∨ n = 5 ∨ n = 6 ∨ n = 7 := by omega
  refine ⟨2 ^ (n - 2), ?_⟩
  rcases this with h | h | h | h | h | h <;> rw [h] <;> decide
theorem may_val {n a b : Nat} (h2 : 2 ≤ n) (h7 : n ≤ 7) : f_foghornref22_May (n : Int) (a : Int) (b : Int) = some (decide (1 ≤ a ∧ a < 2 ^ n ∧ 1 ≤ b ∧ b < 2 ^ n ∧ (2 ^ (n - 1) ≤ a ∨ 2 ^ (n - 1) ≤ b))) := by
  obtain ⟨q, p1, p2, q1, q2⟩ := pow_split h2 h7
  unfold f_foghornref22_May
  rw [if_neg (by simp; omega), if_pos (by omega), sh1 h7]
  have e : IntKind.u32.wrap (((2 ^ n : Nat) : Int).tdiv 2) = ((2 ^ (n - 1) : Nat) : Int) := by
    rw [show (2 : Int) = ((2 : Nat) : Int) from rfl, tdiv_nat, p1, p2, w32 (by omega) (by omega)]; omega
  rw [e]
  congr 1
  rw [Bool.eq_iff_iff]
  simp only [Bool.and_eq_true, Bool.or_eq_true, decide_eq_true_eq]
  omega
theorem code_dich {L o t : Int} (w0 : (Lit.int .i64 L).wf = true) (w1 : (Lit.int .u32 o).wf = true) (w2 : (Lit.int .u32 t).wf = true) :
    (∃ n a b : Nat, L = (n : Int) ∧ o = (a : Int) ∧ t = (b : Int) ∧ CodeOK n a b ∧ f_foghornref22_May L o t = some true) ∨ (f_trellis_Code_Check L o t = some 1 ∧ f_foghornref22_May L o t = some false) := by
  have b1 := wf_u32 w1
  have b2 := wf_u32 w2
  by_cases hL : L < 2 ∨ 7 < L
  · right
    constructor
    · unfold f_trellis_Code_Check
      rw [if_pos (by simp; omega)]; rfl
    · unfold f_foghornref22_May
      rw [if_pos (by simp; omega)]
  obtain ⟨n, hn⟩ : ∃ m : Nat, L = (m : Int) := ⟨L.toNat, by omega⟩
  obtain ⟨a, ha⟩ : ∃ m : Nat, o = (m : Int) := ⟨o.toNat, by omega⟩
  obtain ⟨b, hb⟩ : ∃ m : Nat, t = (m : Int) := ⟨t.toNat, by omega⟩
  subst hn ha hb
  have h2 : 2 ≤ n := by omega
  have h7 : n ≤ 7 := by omega
  obtain ⟨q, p1, p2, q1, q2⟩ := pow_split h2 h7
  rw [may_val h2 h7]
  by_cases hv : 1 ≤ a ∧ a < 2 ^ n ∧ 1 ≤ b ∧ b < 2 ^ n ∧ (2 ^ (n - 1) ≤ a ∨ 2 ^ (n - 1) ≤ b)
  · left
    exact ⟨n, a, b, rfl, rfl, rfl, ⟨h2, h7, hv.1, hv.2.2.1, hv.2.1, hv.2.2.2.1, by omega⟩, by rw [decide_eq_true hv]⟩
  · right
    refine ⟨?_, by rw [decide_eq_false hv]⟩
    unfold f_trellis_Code_Check
    rw [imin_nat, imax_nat]
    by_cases hm : min a b < 1
    · rw [if_pos (by simp; omega)]; rfl
    · rw [if_neg (by simp; omega)]
      obtain ⟨m, hmm⟩ : ∃ m, m = max a b := ⟨_, rfl⟩
      rw [← hmm]
      have hk : ∃ k : Nat, f_math_bits_Len32 (m : Int) = some (k : Int) ∧ k ≠ n := by
        by_cases h128 : 128 ≤ m
        · obtain ⟨k, k1, k2⟩ := len_big h128 (by omega)
          exact ⟨k, k1, by omega⟩
        · have hm0 : m ≠ 0 := by omega
          have l1 := Nat.log2_self_le hm0
          have l2 : m < 2 ^ (m.log2 + 1) := Nat.lt_log2_self
          have l3 : m.log2 < 7 := (Nat.log2_lt hm0).2 (by omega)
          refine ⟨m.log2 + 1, len_tab (m.log2 + 1) (by omega) m (by omega) (by omega) (by simpa using l1) l2, fun he => ?_⟩
          rw [he] at l2
          have l4 : m.log2 = n - 1 := by omega
          rw [l4] at l1
          exact hv (by omega)
      obtain ⟨k, k1, k2⟩ := hk
      rw [k1]
      simp only [Option.bind_some]
      rw [if_pos (by simp; omega)]
/-! ### The document's steps -/
def pk : Nat → Nat → Bool
  | 0, _ => false
  | k + 1, x => (x % 2 == 1) != pk k (x / 2)
theorem pk_zero : ∀ k, pk k 0 = false
  | 0 => rfl
  | k + 1 => by simp [pk, pk_zero k]
theorem pk_par : ∀ x : Nat, x < 128 → (pk 7 x == par x) = true := by decide +kernel
theorem and_half (a c : Nat) : (a / 2) &&& (c / 2) = (a &&& c) / 2 := by
  have := Nat.and_div_two_pow (a := a) (b := c) (n := 1)
  rw [Nat.pow_one] at this
  exact this.symm
theorem and_odd (a c : Nat) : ((a &&& c) % 2 == 1) = ((a % 2 == 1) && (c % 2 == 1)) := by
  rw [Bool.eq_iff_iff]
  simp
theorem odd_loop : ∀ k a c : Nat, a < 2 ^ k → a < 4294967296 → c < 4294967296 → ∀ out : Bool, loop f_foghornref22_odd.s1 ((a : Int), (c : Int), out) = some (out != pk k (a &&& c)) := by
  intro k
  induction k with
  | zero =>
    intro a c ha hb hc out
    obtain rfl : a = 0 := by simpa using ha
    apply loop_done
    simp only [f_foghornref22_odd.s1, f_foghornref22_odd.s1c]
    rw [if_neg (by simp)]
    simp [pk]
  | succ k ih =>
    intro a c ha hb hc out
    by_cases h0 : 0 < a ∧ 0 < c
    · have e1 : IntKind.u32.wrap (((a : Int)).tdiv 2) = ((a / 2 : Nat) : Int) := by rw [show (2 : Int) = ((2 : Nat) : Int) from rfl, tdiv_nat, w32 (by omega) (by omega)]
      have e2 : IntKind.u32.wrap (((c : Int)).tdiv 2) = ((c / 2 : Nat) : Int) := by rw [show (2 : Int) = ((2 : Nat) : Int) from rfl, tdiv_nat, w32 (by omega) (by omega)]
      have e3 : (((a : Int)).tmod 2 == 1) = (a % 2 == 1) := by rw [show (2 : Int) = ((2 : Nat) : Int) from rfl, tmod_nat, Bool.eq_iff_iff, beq_iff_eq, beq_iff_eq]; omega
      have e4 : (((c : Int)).tmod 2 == 1) = (c % 2 == 1) := by rw [show (2 : Int) = ((2 : Nat) : Int) from rfl, tmod_nat, Bool.eq_iff_iff, beq_iff_eq, beq_iff_eq]; omega
      have hpow : 2 ^ (k + 1) = 2 ^ k * 2 := Nat.pow_succ 2 k
      have h1 := ih (a / 2) (c / 2) (by omega) (by omega) (by omega)
      rw [and_half] at h1
      have hp : pk (k + 1) (a &&& c) = (((a % 2 == 1) && (c % 2 == 1)) != pk k ((a &&& c) / 2)) := by rw [← and_odd]; rfl
      cases hb : ((a % 2 == 1) && (c % 2 == 1)) with
      | true =>
        rw [loop_step (s' := (((a / 2 : Nat) : Int), ((c / 2 : Nat) : Int), !out)), h1, hp, hb]
        · cases out <;> cases pk k ((a &&& c) / 2) <;> rfl
        · simp only [f_foghornref22_odd.s1, f_foghornref22_odd.s1c]
          rw [if_pos (by simp; omega), e1, e2, e3, e4, if_pos hb]
      | false =>
        rw [loop_step (s' := (((a / 2 : Nat) : Int), ((c / 2 : Nat) : Int), out)), h1, hp, hb]
        · cases out <;> cases pk k ((a &&& c) / 2) <;> rfl
        · simp only [f_foghornref22_odd.s1, f_foghornref22_odd.s1c]
          rw [if_pos (by simp; omega), e1, e2, e3, e4, if_neg (by rw [hb]; simp)]
    · have hz : a &&& c = 0 := by
        rcases Nat.eq_zero_or_pos a with h | h
        · rw [h, Nat.zero_and]
        · have : c = 0 := by omega
          rw [this, Nat.and_zero]
      apply loop_done
      simp only [f_foghornref22_odd.s1, f_foghornref22_odd.s1c]
      rw [if_neg (by simp; omega), hz, pk_zero]
      simp
theorem odd_ok {a c : Nat} (ha : a < 128) (hc : c < 128) : f_foghornref22_odd (a : Int) (c : Int) = some (par (a &&& c)) := by
  unfold f_foghornref22_odd
  rw [odd_loop 7 a c (by omega) (by omega) (by omega) false]
  have hle : a &&& c ≤ a := Nat.and_le_left
  have := eq_of_beq (pk_par (a &&& c) (by omega))
  simp only [Option.bind_some, this, Bool.false_bne]
theorem rstep_ok {n a b : Nat} (h : CodeOK n a b) {s : Nat} (hs : s < 2 ^ (n - 1)) (c : Bool) :
    f_foghornref22_Step (n : Int) (a : Int) (b : Int) (s : Int) c = some (((nx n s c : Nat) : Int), ob n a s c, ob n b s c) := by
  have hal := al_lt h hs c
  obtain ⟨q, p1, p2, q1, q2, _⟩ := h.pq
  have h1 := h.n2; have h2 := h.n7; have h5 := h.an; have h6 := h.bn
  have j : f_foghornref22_Step.j1 (a : Int) (b : Int) ((al n s c : Nat) : Int) = some (((nx n s c : Nat) : Int), ob n a s c, ob n b s c) := by
    unfold f_foghornref22_Step.j1
    rw [odd_ok (by omega) (by omega), odd_ok (by omega) (by omega), show (2 : Int) = ((2 : Nat) : Int) from rfl, tdiv_nat, w32 (by omega) (by omega)]
    rfl
  unfold f_foghornref22_Step
  cases c with
  | false => rw [if_neg (by simp)]; exact j
  | true =>
    rw [if_pos rfl, w64 (by omega) (by omega), if_pos (by omega), show (n : Int) - 1 = ((n - 1 : Nat) : Int) by omega, sh1 (by omega)]
    have e : IntKind.u32.wrap ((s : Int) + ((2 ^ (n - 1) : Nat) : Int)) = ((al n s true : Nat) : Int) := by
      rw [w32 (by omega) (by omega)]; simp only [al, if_true]; omega
    rw [e]; exact j
theorem runlike_ok (b : Bool) {m : Int} (h0 : 0 ≤ m) (h2 : m ≤ 2) : f_foghornref22_unlike b m = some ((un b m : Nat) : Int) := by
  have : m = 0 ∨ m = 1 ∨ m = 2 := by omega
  rcases this with rfl | rfl | rfl <;> cases b <;> rfl

/-! ### Lists of rows that grow -/
def tabL (T : Nat) (ln : Nat → Nat) (f : Nat → Nat → Int) : List (List Int) := (List.range (T + 1)).map fun t => (List.range (ln t)).map fun s => f t s
theorem tabL_len (T : Nat) (ln : Nat → Nat) (f : Nat → Nat → Int) : (tabL T ln f).length = T + 1 := by simp [tabL]
theorem tabL_row {T : Nat} {ln : Nat → Nat} {f : Nat → Nat → Int} {t : Nat} (ht : t ≤ T) : gt (tabL T ln f) (t : Int) = (List.range (ln t)).map fun s => f t s := by
  rw [gt_nat (by rw [tabL_len]; omega)]; simp [tabL]
theorem tabL_rlen {T : Nat} {ln : Nat → Nat} {f : Nat → Nat → Int} {t : Nat} (ht : t ≤ T) : (gt (tabL T ln f) (t : Int)).length = ln t := by rw [tabL_row ht]; simp
theorem tabL_get {T : Nat} {ln : Nat → Nat} {f : Nat → Nat → Int} {t s : Nat} (ht : t ≤ T) (hs : s < ln t) : gt (gt (tabL T ln f) (t : Int)) (s : Int) = f t s := by
  rw [tabL_row ht, gt_nat (by simpa using hs)]; simp
theorem tabL_put {T : Nat} {ln : Nat → Nat} {f : Nat → Nat → Int} {t : Nat} (ln' : Nat → Nat) (g : Nat → Nat → Int) (row : List Int) (ht : t ≤ T) (hr : row = (List.range (ln' t)).map fun s => g t s)
    (ho : ∀ t', t' ≤ T → t' ≠ t → ln' t' = ln t' ∧ ∀ s, s < ln t' → g t' s = f t' s) : (tabL T ln f).set t row = tabL T ln' g := by
  apply List.ext_getElem
  · simp [tabL]
  · intro i h1 h2
    simp only [tabL, List.length_map, List.length_range] at h2
    rw [List.getElem_set]
    split
    · rename_i h; subst h
      simp only [tabL, List.getElem_map, List.getElem_range]; exact hr
    · rename_i h
      obtain ⟨e1, e2⟩ := ho i (by omega) (Ne.symm h)
      simp only [tabL, List.getElem_map, List.getElem_range]
      rw [e1]
      apply List.map_congr_left
      intro s hs
      exact (e2 s (by simpa using hs)).symm
theorem range_set {f : Nat → Int} {m j : Nat} (v : Int) (hj : j < m) : ((List.range m).map f).set j v = (List.range m).map fun s => if s = j then v else f s := by
  apply List.ext_getElem
  · simp
  · intro i h1 h2
    simp only [List.getElem_set, List.getElem_map, List.getElem_range]
    by_cases h : j = i
    · rw [if_pos h, if_pos h.symm]
    · rw [if_neg h, if_neg (Ne.symm h)]
section
variable {n a b T N : Nat} {ms : List Int}
theorem sh64 (h : CodeOK n a b) : ishl .i64 (1 : Int) (IntKind.i64.wrap ((n : Int) - 1)) = ((2 ^ (n - 1) : Nat) : Int) := by
  have h1 := h.n2; have h2 := h.n7; have := pow_le_of h
  rw [w64 (by omega) (by omega), show (n : Int) - 1 = ((n - 1 : Nat) : Int) by omega, show ((1 : Int)) = ((1 : Nat) : Int) from rfl, ishl64 (by omega) (by omega), Nat.one_mul]
theorem mk_bd (h : Fit n a b ms T N) {i : Nat} (hi : i < ms.length) : 0 ≤ gt ms (i : Int) ∧ gt ms (i : Int) ≤ 2 := h.mks _ (gt_mem (by omega) (by omega))
theorem way_ok (h : Fit n a b ms T N) {s : Nat} (hs : s < 2 ^ (n - 1)) (c : Bool) {t : Nat} (ht : t < T) {F : Nat} (hF : F ≤ 1000000) {ln : Nat → Nat} {f : Nat → Nat → Int} (hln : ln (t + 1) = 2 ^ (n - 1))
    (hf : ∀ s, s < 2 ^ (n - 1) → f (t + 1) s = ((D n a b ms T N F (T - (t + 1)) s : Nat) : Int)) :
    f_foghornref22_way (n : Int) (a : Int) (b : Int) (s : Int) c ms (t : Int) (tabL T ln f) = some ((cst n a b ms t s c + D n a b ms T N F (T - (t + 1)) (nx n s c) : Nat) : Int) := by
  have h3 := h.len; have h5 := h.max
  have hn := nx_lt h.toCodeOK hs c
  have e2t : IntKind.i64.wrap (2 * (t : Int)) = ((2 * t : Nat) : Int) := by rw [w64 (by omega) (by omega)]; omega
  have e2t1 : IntKind.i64.wrap (((2 * t : Nat) : Int) + 1) = ((2 * t + 1 : Nat) : Int) := by rw [w64 (by omega) (by omega)]; rfl
  have et1 : IntKind.i64.wrap ((t : Int) + 1) = ((t + 1 : Nat) : Int) := by rw [w64 (by omega) (by omega)]; rfl
  have m0 := mk_bd h (i := 2 * t) (by omega)
  have m1 := mk_bd h (i := 2 * t + 1) (by omega)
  have hD := D_le n a b ms T N F (T - (t + 1)) (nx n s c)
  have hc := cst_le n a b ms t s c
  unfold f_foghornref22_way
  rw [rstep_ok h.toCodeOK hs c]
  simp only [Option.bind_some]
  rw [e2t, e2t1, et1, if_pos (by omega), runlike_ok _ m0.1 m0.2]
  simp only [Option.bind_some]
  rw [if_pos (by omega), runlike_ok _ m1.1 m1.2]
  simp only [Option.bind_some]
  rw [tabL_len, if_pos (by omega), tabL_rlen (by omega), hln, if_pos (by omega), tabL_get (by omega) (by omega), hf _ hn]
  have hcst : ((un (ob n a s c) (gt ms ((2 * t : Nat) : Int)) : Nat) : Int) + ((un (ob n b s c) (gt ms ((2 * t + 1 : Nat) : Int)) : Nat) : Int) = ((cst n a b ms t s c : Nat) : Int) := by unfold cst; omega
  rw [hcst, w64 (x := ((cst n a b ms t s c : Nat) : Int)) (by omega) (by omega), w64 (by omega) (by omega), Int.natCast_add]
def ln0 (n T k t : Nat) : Nat := if T - k ≤ t then 2 ^ (n - 1) else 0
theorem r_s1 (h : Fit n a b ms T N) : loop (f_foghornref22_Path.s1 (n : Int) ms) (tabL T (ln0 n T 0) (fun _ _ => 0), 1) = some (tabL T (ln0 n T 0) (fun t s => ((D n a b ms T N 1000000 (T - t) s : Nat) : Int))) := by
  obtain ⟨q, p1, p2, q1, q2, _⟩ := h.pq
  have h5 := h.max
  have key : ∀ k j : Nat, j + k = 2 ^ (n - 1) → 1 ≤ j → loop (f_foghornref22_Path.s1 (n : Int) ms) (tabL T (ln0 n T 0) (fun _ s => if 1 ≤ s ∧ s < j then 1000000 else 0), (j : Int)) = some (tabL T (ln0 n T 0) (fun t s => ((D n a b ms T N 1000000 (T - t) s : Nat) : Int))) := by
    intro k
    induction k with
    | zero =>
      intro j hj h1
      obtain rfl : j = 2 ^ (n - 1) := by omega
      apply loop_done
      simp only [f_foghornref22_Path.s1, f_foghornref22_Path.s1c]
      rw [sh64 h.toCodeOK, if_neg (by rw [decide_eq_true_eq]; omega)]
      congr 2
      unfold tabL
      apply List.map_congr_left
      intro t ht
      apply List.map_congr_left
      intro s hs
      simp only [List.mem_range, ln0] at ht hs
      split at hs
      · obtain rfl : t = T := by omega
        dsimp only
        rw [Nat.sub_self]
        simp only [D]
        by_cases h0 : s = 0
        · rw [if_neg (by omega), if_pos h0]; rfl
        · rw [if_pos (by omega), if_neg h0]; rfl
      · omega
    | succ k ih =>
      intro j hj h1
      rw [← ih (j + 1) (by omega) (by omega)]
      apply loop_step
      simp only [f_foghornref22_Path.s1, f_foghornref22_Path.s1c]
      have hlT : ln0 n T 0 T = 2 ^ (n - 1) := by unfold ln0; rw [if_pos (by omega)]
      rw [sh64 h.toCodeOK, half_ok h, if_pos (by rw [decide_eq_true_eq]; omega), tabL_len, if_pos (by omega), tabL_rlen (Nat.le_refl _), hlT, if_pos (by omega), Int.toNat_natCast, Int.toNat_natCast, w64 (by omega) (by omega)]
      have : (tabL T (ln0 n T 0) (fun _ s => if 1 ≤ s ∧ s < j then 1000000 else 0)).set T ((gt (tabL T (ln0 n T 0) (fun _ s => if 1 ≤ s ∧ s < j then 1000000 else 0)) (T : Int)).set j 1000000) = tabL T (ln0 n T 0) (fun _ s => if 1 ≤ s ∧ s < j + 1 then 1000000 else 0) := by
        refine tabL_put _ _ _ (Nat.le_refl _) ?_ (fun t' h1 h2 => ⟨rfl, fun s hs => ?_⟩)
        · rw [tabL_row (Nat.le_refl _), range_set _ (by omega)]
          apply List.map_congr_left
          intro s _
          by_cases hsj : s = j
          · rw [if_pos hsj, if_pos (by omega)]
          · rw [if_neg hsj]
            by_cases h9 : 1 ≤ s ∧ s < j
            · rw [if_pos h9, if_pos (by omega)]
            · rw [if_neg h9, if_neg (by omega)]
        · unfold ln0 at hs; rw [if_neg (by omega)] at hs; omega
      rw [this]; rfl
  have := key (2 ^ (n - 1) - 1) 1 (by omega) (Nat.le_refl _)
  refine Eq.trans (congrArg (fun x => loop _ (x, (1 : Int))) ?_) this
  unfold tabL
  apply List.map_congr_left
  intro t _
  apply List.map_congr_left
  intro s _
  dsimp only
  rw [if_neg (by omega)]
theorem r_s3 (h : Fit n a b ms T N) {k : Nat} (hk : k < T) :
    loop (f_foghornref22_Path.s3 (n : Int) (a : Int) (b : Int) ms ((T - (k + 1) : Nat) : Int)) (tabL T (ln0 n T k) (fun t s => ((D n a b ms T N 1000000 (T - t) s : Nat) : Int)), 0) = some (tabL T (ln0 n T (k + 1)) (fun t s => ((D n a b ms T N 1000000 (T - t) s : Nat) : Int))) := by
  have hp := pow_le_of h.toCodeOK
  have h1 := h.n2; have h2 := h.n7; have h3 := h.len; have h4 := h.tn; have h5 := h.max
  obtain ⟨t, ht⟩ : ∃ t, t = T - (k + 1) := ⟨_, rfl⟩
  rw [← ht]
  obtain ⟨f, hf⟩ : ∃ f : Nat → Nat → Int, f = fun t s => ((D n a b ms T N 1000000 (T - t) s : Nat) : Int) := ⟨_, rfl⟩
  rw [← hf]
  have key := loop_for (f := f_foghornref22_Path.s3 (n : Int) (a : Int) (b : Int) ms (t : Int)) (2 ^ (n - 1))
    (fun j => tabL T (fun t' => if t' = t then j else ln0 n T k t') f) (tabL T (ln0 n T (k + 1)) f) (fun j hj => ?_) ?_
  · refine Eq.trans (congrArg (fun x => loop _ (x, (0 : Int))) ?_) key
    unfold tabL
    apply List.map_congr_left
    intro t' ht'
    dsimp only
    by_cases h9 : t' = t
    · simp only [List.mem_range] at ht'
      rw [if_pos h9]; unfold ln0; rw [if_neg (by omega)]
    · rw [if_neg h9]
  · have ej1 : IntKind.i64.wrap ((j : Int) + 1) = ((j + 1 : Nat) : Int) := by rw [w64 (by omega) (by omega)]; rfl
    have hln : (fun t' => if t' = t then j else ln0 n T k t') (t + 1) = 2 ^ (n - 1) := by
      simp only; rw [if_neg (by omega)]; unfold ln0; rw [if_pos (by omega)]
    have hfn : ∀ s, s < 2 ^ (n - 1) → f (t + 1) s = ((D n a b ms T N 1000000 (T - (t + 1)) s : Nat) : Int) := fun s _ => by rw [hf]
    have w0 := way_ok h hj false (t := t) (ln := fun t' => if t' = t then j else ln0 n T k t') (by omega) (Nat.le_refl _) hln hfn
    have w1 := way_ok h hj true (t := t) (ln := fun t' => if t' = t then j else ln0 n T k t') (by omega) (Nat.le_refl _) hln hfn
    have hkt : T - (t + 1) = k := by omega
    have hkt2 : T - t = k + 1 := by omega
    have j1 : ∀ x : Int, x = f t j → f_foghornref22_Path.j1 (tabL T (fun t' => if t' = t then j else ln0 n T k t') f) (t : Int) (j : Int) x = some (.inl (tabL T (fun t' => if t' = t then j + 1 else ln0 n T k t') f, ((j + 1 : Nat) : Int))) := fun x hx => by
      unfold f_foghornref22_Path.j1
      rw [tabL_len, if_pos (by omega), tabL_rlen (by omega), if_pos (by rw [if_pos rfl]; simp; omega), if_pos (by omega), Int.toNat_natCast, ej1]
      congr 3
      refine tabL_put _ _ _ (by omega) ?_ (fun t' g1 g2 => ⟨by (try dsimp only); rw [if_neg g2, if_neg g2], fun s hs => rfl⟩)
      rw [tabL_row (by omega), if_pos rfl, if_pos rfl, List.range_succ, List.map_append, hx]; rfl
    simp only [f_foghornref22_Path.s3, f_foghornref22_Path.s3c]
    rw [sh64 h.toCodeOK, half_ok h, many_ok h, if_pos (by rw [decide_eq_true_eq]; omega), w32 (by omega) (by omega), w0]
    simp only [Option.bind_some]
    by_cases hN : t < N
    · rw [if_pos (by simpa using hN), w1]
      simp only [Option.bind_some]
      rw [imin_nat]
      refine j1 _ ?_
      simp only [hf, hkt2, D]
      rw [← ht, if_pos hN, hkt]
    · rw [if_neg (by simpa using hN)]
      refine j1 _ ?_
      simp only [hf, hkt2, D]
      rw [← ht, if_neg hN, hkt]
  · simp only [f_foghornref22_Path.s3, f_foghornref22_Path.s3c]
    rw [sh64 h.toCodeOK, if_neg (by rw [decide_eq_true_eq]; omega)]
    congr 2
    unfold tabL
    apply List.map_congr_left
    intro t' ht'
    simp only [List.mem_range] at ht'
    congr 2
    unfold ln0
    dsimp only
    by_cases h9 : t' = t
    · rw [if_pos h9, if_pos (by omega)]
    · rw [if_neg h9]
      by_cases h8 : T - k ≤ t'
      · rw [if_pos h8, if_pos (by omega)]
      · rw [if_neg h8, if_neg (by omega)]
theorem r_s2 (h : Fit n a b ms T N) : loop (f_foghornref22_Path.s2 (n : Int) (a : Int) (b : Int) ms) (tabL T (ln0 n T 0) (fun t s => ((D n a b ms T N 1000000 (T - t) s : Nat) : Int)), (T : Int) - 1) = some (tabL T (ln0 n T T) (fun t s => ((D n a b ms T N 1000000 (T - t) s : Nat) : Int))) := by
  have h5 := h.max
  have key : ∀ j k : Nat, k + j = T → loop (f_foghornref22_Path.s2 (n : Int) (a : Int) (b : Int) ms) (tabL T (ln0 n T k) (fun t s => ((D n a b ms T N 1000000 (T - t) s : Nat) : Int)), (T : Int) - 1 - (k : Int)) = some (tabL T (ln0 n T T) (fun t s => ((D n a b ms T N 1000000 (T - t) s : Nat) : Int))) := by
    intro j
    induction j with
    | zero =>
      intro k hk
      obtain rfl : k = T := by omega
      apply loop_done
      simp only [f_foghornref22_Path.s2, f_foghornref22_Path.s2c]
      rw [if_neg (by simp; omega)]
    | succ j ih =>
      intro k hk
      rw [← ih (k + 1) (by omega)]
      apply loop_step
      simp only [f_foghornref22_Path.s2, f_foghornref22_Path.s2c]
      rw [if_pos (by simp; omega), show (T : Int) - 1 - (k : Int) = ((T - (k + 1) : Nat) : Int) by omega, r_s3 h (by omega)]
      simp only [Option.bind_some]
      rw [w64 (by omega) (by omega), show ((T - (k + 1) : Nat) : Int) - 1 = (T : Int) - 1 - ((k + 1 : Nat) : Int) by omega]
  have := key T 0 (by omega)
  simpa using this
theorem D_min (F : Nat) {t : Nat} (ht : t < N) (hTN : N ≤ T) (s : Nat) : D n a b ms T N F (T - t) s = min (cst n a b ms t s false + D n a b ms T N F (T - (t + 1)) (nx n s false)) (cst n a b ms t s true + D n a b ms T N F (T - (t + 1)) (nx n s true)) := by
  rw [show T - t = (T - (t + 1)) + 1 by omega]
  simp only [D]
  rw [show T - (T - (t + 1) + 1) = t by omega, if_pos ht]
theorem r_s4 (h : Fit n a b ms T N) : loop (f_foghornref22_Path.s4 (n : Int) (a : Int) (b : Int) ms (tabL T (ln0 n T T) (fun t s => ((D n a b ms T N 1000000 (T - t) s : Nat) : Int)))) ([], 0, 0) = some (msgN n a b ms T N 1000000 N) := by
  have hp := pow_le_of h.toCodeOK
  have h1 := h.n2; have h2 := h.n7; have h3 := h.len; have h4 := h.tn; have h5 := h.max
  have key : ∀ k i : Nat, i + k = N → loop (f_foghornref22_Path.s4 (n : Int) (a : Int) (b : Int) ms (tabL T (ln0 n T T) (fun t s => ((D n a b ms T N 1000000 (T - t) s : Nat) : Int)))) (msgN n a b ms T N 1000000 i, ((pst n a b ms T N 1000000 i : Nat) : Int), (i : Int)) = some (msgN n a b ms T N 1000000 N) := by
    intro k
    induction k with
    | zero =>
      intro i hi
      obtain rfl : i = N := by omega
      apply loop_done
      simp only [f_foghornref22_Path.s4, f_foghornref22_Path.s4c]
      rw [half_ok h, many_ok h, if_neg (by simp)]
    | succ k ih =>
      intro i hi
      rw [← ih (i + 1) (by omega)]
      apply loop_step
      have hs := pst_lt h.toCodeOK ms T N 1000000 i
      have hmsg : msgN n a b ms T N 1000000 (i + 1) = msgN n a b ms T N 1000000 i ++ [bitOf n a b ms T N 1000000 i (pst n a b ms T N 1000000 i)] := by
        simp only [msgN, List.range_succ, List.map_append, List.map_cons, List.map_nil]
      have hpst : pst n a b ms T N 1000000 (i + 1) = nx n (pst n a b ms T N 1000000 i) (bitOf n a b ms T N 1000000 i (pst n a b ms T N 1000000 i)) := rfl
      rw [hmsg, hpst]
      have hmlen : (msgN n a b ms T N 1000000 i).length = i := by simp [msgN]
      generalize pst n a b ms T N 1000000 i = s at *
      have hln : ln0 n T T (i + 1) = 2 ^ (n - 1) := by unfold ln0; rw [if_pos (by omega)]
      have w0 := way_ok h hs false (t := i) (by omega) (Nat.le_refl _) (ln := ln0 n T T) (f := fun t s => ((D n a b ms T N 1000000 (T - t) s : Nat) : Int)) hln (fun s _ => rfl)
      have w1 := way_ok h hs true (t := i) (by omega) (Nat.le_refl _) (ln := ln0 n T T) (f := fun t s => ((D n a b ms T N 1000000 (T - t) s : Nat) : Int)) hln (fun s _ => rfl)
      have hbit : decide (((cst n a b ms i s true + D n a b ms T N 1000000 (T - (i + 1)) (nx n s true) : Nat) : Int) < ((cst n a b ms i s false + D n a b ms T N 1000000 (T - (i + 1)) (nx n s false) : Nat) : Int)) = bitOf n a b ms T N 1000000 i s := by
        unfold bitOf
        have hm := D_min (n := n) (a := a) (b := b) (T := T) (N := N) (ms := ms) 1000000 (t := i) (by omega) (by omega) s
        rw [hm]
        apply decide_eq_decide.2
        omega
      simp only [f_foghornref22_Path.s4, f_foghornref22_Path.s4c]
      rw [half_ok h, many_ok h, if_pos (by rw [decide_eq_true_eq]; omega), w0]
      simp only [Option.bind_some]
      rw [w1]
      simp only [Option.bind_some]
      rw [hbit, if_pos (by rw [hmlen]; simp; omega), rstep_ok h.toCodeOK hs]
      simp only [Option.bind_some]
      rw [w64 (by omega) (by omega)]; rfl
  have := key N 0 (by omega)
  rw [show msgN n a b ms T N 1000000 0 = [] from rfl, show ((0 : Nat) : Int) = 0 from rfl] at this
  exact this
theorem rpath_ok (h : Fit n a b ms T N) (hf : f_foghornref22_Fits (n : Int) (a : Int) (b : Int) ms = some true) : f_foghornref22_Path (n : Int) (a : Int) (b : Int) ms = some (msgN n a b ms T N 1000000 N, ((D n a b ms T N 1000000 T 0 : Nat) : Int), 0) := by
  have hp := pow_le_of h.toCodeOK
  obtain ⟨q, p1, p2, q1, q2, _⟩ := h.pq
  have h1 := h.n2; have h2 := h.n7; have h3 := h.len; have h4 := h.tn; have h5 := h.max
  have ht1 : IntKind.i64.wrap ((T : Int) + 1) = ((T + 1 : Nat) : Int) := by rw [w64 (by omega) (by omega)]; rfl
  unfold f_foghornref22_Path
  rw [hf]
  simp only [Option.bind_some]
  rw [sh64 h.toCodeOK, if_neg (by simp), half_ok h, ht1, w64 (x := (n : Int) - 1) (by omega) (by omega), if_pos (by omega), if_pos (by omega), if_pos (by omega), Int.toNat_natCast, Int.toNat_natCast, Int.toNat_natCast, if_pos (by rw [List.length_replicate]; omega)]
  have e0 : (List.replicate (T + 1) ([] : List Int)).set T (List.replicate (2 ^ (n - 1)) 0) = tabL T (ln0 n T 0) (fun _ _ => 0) := by
    have e1 : List.replicate (T + 1) ([] : List Int) = tabL T (fun _ => 0) (fun _ _ => 0) := by
      apply List.ext_getElem
      · simp [tabL]
      · intro i j1 j2; simp [tabL]
    rw [e1]
    refine tabL_put _ _ _ (Nat.le_refl _) ?_ (fun t' g1 g2 => ⟨by unfold ln0; rw [if_neg (by omega)], fun s hs => rfl⟩)
    unfold ln0
    rw [if_pos (by omega)]
    apply List.ext_getElem
    · simp
    · intro i j1 j2; simp
  rw [e0, r_s1 h]
  simp only [Option.bind_some]
  rw [w64 (x := (T : Int) - 1) (by omega) (by omega), r_s2 h]
  simp only [Option.bind_some]
  rw [r_s4 h]
  simp only [Option.bind_some]
  have hl0 : (gt (tabL T (ln0 n T T) (fun t s => ((D n a b ms T N 1000000 (T - t) s : Nat) : Int))) 0).length = 2 ^ (n - 1) := by
    have := tabL_rlen (T := T) (ln := ln0 n T T) (f := fun t s => ((D n a b ms T N 1000000 (T - t) s : Nat) : Int)) (t := 0) (by omega)
    rw [show ((0 : Nat) : Int) = 0 from rfl] at this
    rw [this]; unfold ln0; rw [if_pos (by omega)]
  have hg0 : gt (gt (tabL T (ln0 n T T) (fun t s => ((D n a b ms T N 1000000 (T - t) s : Nat) : Int))) 0) 0 = ((D n a b ms T N 1000000 T 0 : Nat) : Int) := by
    have := tabL_get (T := T) (ln := ln0 n T T) (f := fun t s => ((D n a b ms T N 1000000 (T - t) s : Nat) : Int)) (t := 0) (s := 0) (by omega) (by unfold ln0; rw [if_pos (by omega)]; omega)
    rw [show ((0 : Nat) : Int) = 0 from rfl] at this
    rw [this, Nat.sub_zero]
  rw [tabL_len, if_pos (by omega), hl0, if_pos (by omega), hg0]
/-! ### What lies far is not seen -/
def zc (n a b : Nat) (ms : List Int) (T : Nat) : Nat → Nat → Nat
  | 0, _ => 0
  | k + 1, s => cst n a b ms (T - (k + 1)) s false + zc n a b ms T k (nx n s false)
theorem D_far (h : Fit n a b ms T N) (F : Nat) : ∀ k, k ≤ n - 1 → ∀ s, D n a b ms T N F k s = zc n a b ms T k s + if s / 2 ^ k = 0 then 0 else F
  | 0, _, s => by simp [D, zc]
  | k + 1, hk, s => by
    have h4 := h.tn
    have ih := D_far h F k (by omega) (nx n s false)
    simp only [D, zc]
    rw [if_neg (by omega), ih]
    have e : nx n s false / 2 ^ k = s / 2 ^ (k + 1) := by
      simp only [nx, al]
      rw [Nat.pow_succ, Nat.mul_comm, ← Nat.div_div_eq_div_mul]; simp
    rw [e]; omega
theorem D_indep (h : Fit n a b ms T N) (F F' : Nat) : ∀ k, n - 1 ≤ k → ∀ s, s < 2 ^ (n - 1) → D n a b ms T N F k s = D n a b ms T N F' k s := by
  have base : ∀ s, s < 2 ^ (n - 1) → D n a b ms T N F (n - 1) s = D n a b ms T N F' (n - 1) s := fun s hs => by
    rw [D_far h F _ (Nat.le_refl _), D_far h F' _ (Nat.le_refl _), Nat.div_eq_of_lt hs]; simp
  intro k hk
  obtain ⟨d, rfl⟩ := Nat.exists_eq_add_of_le hk
  clear hk
  induction d with
  | zero => exact base
  | succ d ih =>
    intro s hs
    have i0 := ih (nx n s false) (nx_lt h.toCodeOK hs false)
    have i1 := ih (nx n s true) (nx_lt h.toCodeOK hs true)
    rw [← Nat.add_assoc]
    simp only [D]
    rw [i0, i1]
theorem pst_indep (h : Fit n a b ms T N) (F F' : Nat) : ∀ t, t ≤ N → pst n a b ms T N F t = pst n a b ms T N F' t ∧ ∀ s, t < N → s < 2 ^ (n - 1) → bitOf n a b ms T N F t s = bitOf n a b ms T N F' t s := by
  have h4 := h.tn; have h1 := h.n2
  have hb : ∀ t s, t < N → s < 2 ^ (n - 1) → bitOf n a b ms T N F t s = bitOf n a b ms T N F' t s := fun t s ht hs => by
    unfold bitOf
    rw [D_indep h F F' (T - (t + 1)) (by omega) _ (nx_lt h.toCodeOK hs false), D_indep h F F' (T - t) (by omega) _ hs]
  intro t
  induction t with
  | zero => exact fun _ => ⟨rfl, fun s ht hs => hb 0 s ht hs⟩
  | succ t ih =>
    intro ht
    obtain ⟨i1, _⟩ := ih (by omega)
    refine ⟨?_, fun s h1 h2 => hb _ s h1 h2⟩
    simp only [pst]
    rw [i1, hb t _ (by omega) (pst_lt h.toCodeOK ms T N F' t)]
theorem msg_indep (h : Fit n a b ms T N) (F F' : Nat) : msgN n a b ms T N F N = msgN n a b ms T N F' N := by
  unfold msgN
  apply List.map_congr_left
  intro t ht
  simp only [List.mem_range] at ht
  obtain ⟨i1, i2⟩ := pst_indep h F F' t (by omega)
  rw [i1, i2 _ ht (pst_lt h.toCodeOK ms T N F' t)]
end
/-! ### What is coded -/
def cwd (n a b : Nat) (l : List Bool) : Nat → List Bool
  | 0 => []
  | i + 1 => cwd n a b l i ++ [ob n a (st n l i) (bitAt l i), ob n b (st n l i) (bitAt l i)]
theorem cwd_len (n a b : Nat) (l : List Bool) : ∀ i, (cwd n a b l i).length = 2 * i
  | 0 => rfl
  | i + 1 => by simp only [cwd, List.length_append, cwd_len n a b l i, List.length_cons, List.length_nil]; omega
theorem cwd_get (n a b : Nat) (l : List Bool) : ∀ i t, t < i → gt (cwd n a b l i) ((2 * t : Nat) : Int) = ob n a (st n l t) (bitAt l t) ∧ gt (cwd n a b l i) ((2 * t + 1 : Nat) : Int) = ob n b (st n l t) (bitAt l t)
  | 0, t, h => by omega
  | i + 1, t, h => by
    have hl := cwd_len n a b l i
    have hl1 := cwd_len n a b l (i + 1)
    by_cases ht : t < i
    · obtain ⟨i1, i2⟩ := cwd_get n a b l i t ht
      rw [gt_nat (by omega)] at i1 i2 ⊢
      rw [gt_nat (by omega)]
      simp only [cwd]
      rw [List.getElem_append_left (by omega), List.getElem_append_left (by omega)]
      exact ⟨i1, i2⟩
    · obtain rfl : t = i := by omega
      rw [gt_nat (by omega), gt_nat (by omega)]
      simp only [cwd]
      rw [List.getElem_append_right (by omega), List.getElem_append_right (by omega)]
      simp [hl]
theorem rencode_ok {n a b : Nat} (h : CodeOK n a b) (l : List Bool) (hl : l.length ≤ 100000) : f_foghornref22_Encode (n : Int) (a : Int) (b : Int) l = some (cwd n a b l (l.length + (n - 1))) := by
  have h1 := h.n2; have h2 := h.n7
  have hm : IntKind.i64.wrap (IntKind.i64.wrap ((l.length : Int) + (n : Int)) - 1) = ((l.length + (n - 1) : Nat) : Int) := by
    rw [w64 (x := (l.length : Int) + (n : Int)) (by omega) (by omega), w64 (by omega) (by omega)]; omega
  have key : ∀ k i : Nat, i + k = l.length + (n - 1) → loop (f_foghornref22_Encode.s1 (n : Int) (a : Int) (b : Int) l) (cwd n a b l i, ((st n l i : Nat) : Int), (i : Int)) = some (cwd n a b l (l.length + (n - 1))) := by
    intro k
    induction k with
    | zero =>
      intro i hi
      obtain rfl : i = l.length + (n - 1) := by omega
      apply loop_done
      simp only [f_foghornref22_Encode.s1, f_foghornref22_Encode.s1c]
      rw [hm, if_neg (by simp)]
    | succ k ih =>
      intro i hi
      rw [← ih (i + 1) (by omega)]
      apply loop_step
      have hs := st_lt h l i
      have hc := cwd_len n a b l i
      simp only [f_foghornref22_Encode.s1, f_foghornref22_Encode.s1c]
      rw [hm, if_pos (by rw [decide_eq_true_eq]; omega), bit_read]
      simp only [Option.bind_some]
      rw [rstep_ok h hs]
      simp only [Option.bind_some]
      rw [if_pos (by simp only [List.length_cons, List.length_nil]; omega), w64 (by omega) (by omega)]
      rfl
  have := key (l.length + (n - 1)) 0 (by omega)
  unfold f_foghornref22_Encode
  rw [show cwd n a b l 0 = [] from rfl, show st n l 0 = 0 from rfl, show ((0 : Nat) : Int) = 0 from rfl] at this
  rw [this]; rfl
section
variable {n a b T N : Nat} {ms : List Int}
theorem rcost_ok (h : Fit n a b ms T N) (hf : f_foghornref22_Fits (n : Int) (a : Int) (b : Int) ms = some true) (l : List Bool) (hl : l.length = N) : f_foghornref22_Cost (n : Int) (a : Int) (b : Int) l ms = some (((cs n a b ms l T : Nat) : Int), 0) := by
  have h1 := h.n2; have h2 := h.n7; have h3 := h.len; have h4 := h.tn; have h5 := h.max
  have hT : l.length + (n - 1) = T := by omega
  have key : ∀ k t : Nat, t + k = T → loop (f_foghornref22_Cost.s1 ms (cwd n a b l T)) (((cs n a b ms l t : Nat) : Int), ((2 * t : Nat) : Int)) = some ((cs n a b ms l T : Nat) : Int) := by
    intro k
    induction k with
    | zero =>
      intro t ht
      obtain rfl : t = T := by omega
      apply loop_done
      simp only [f_foghornref22_Cost.s1, f_foghornref22_Cost.s1c]
      rw [cwd_len, if_neg (by rw [decide_eq_true_eq]; omega)]
    | succ k ih =>
      intro t ht
      rw [← ih (t + 1) (by omega)]
      have hcs := cs_le n a b ms l t
      obtain ⟨g1, g2⟩ := cwd_get n a b l T t (by omega)
      have m1 := h.mks _ (gt_mem (xs := ms) (i := ((2 * t : Nat) : Int)) (by omega) (by omega))
      have m2 := h.mks _ (gt_mem (xs := ms) (i := ((2 * t + 1 : Nat) : Int)) (by omega) (by omega))
      have u1 := un_le (ob n a (st n l t) (bitAt l t)) (gt ms ((2 * t : Nat) : Int))
      have u2 := un_le (ob n b (st n l t) (bitAt l t)) (gt ms ((2 * t + 1 : Nat) : Int))
      have s1 : f_foghornref22_Cost.s1 ms (cwd n a b l T) (((cs n a b ms l t : Nat) : Int), ((2 * t : Nat) : Int)) = some (.inl (((cs n a b ms l t + un (ob n a (st n l t) (bitAt l t)) (gt ms ((2 * t : Nat) : Int)) : Nat) : Int), ((2 * t + 1 : Nat) : Int))) := by
        simp only [f_foghornref22_Cost.s1, f_foghornref22_Cost.s1c]
        rw [cwd_len, if_pos (by rw [decide_eq_true_eq]; omega), if_pos (by omega), if_pos (by omega), g1, runlike_ok _ m1.1 m1.2]
        simp only [Option.bind_some]
        rw [w64 (by omega) (by omega), w64 (by omega) (by omega)]; rfl
      have s2 : f_foghornref22_Cost.s1 ms (cwd n a b l T) (((cs n a b ms l t + un (ob n a (st n l t) (bitAt l t)) (gt ms ((2 * t : Nat) : Int)) : Nat) : Int), ((2 * t + 1 : Nat) : Int)) = some (.inl (((cs n a b ms l (t + 1) : Nat) : Int), ((2 * (t + 1) : Nat) : Int))) := by
        simp only [f_foghornref22_Cost.s1, f_foghornref22_Cost.s1c]
        rw [cwd_len, if_pos (by rw [decide_eq_true_eq]; omega), if_pos (by omega), if_pos (by omega), g2, runlike_ok _ m2.1 m2.2]
        simp only [Option.bind_some]
        rw [w64 (by omega) (by omega), w64 (by omega) (by omega)]
        have : cs n a b ms l (t + 1) = cs n a b ms l t + un (ob n a (st n l t) (bitAt l t)) (gt ms ((2 * t : Nat) : Int)) + un (ob n b (st n l t) (bitAt l t)) (gt ms ((2 * t + 1 : Nat) : Int)) := by simp only [cs, cst]; omega
        rw [this]; rfl
      rw [loop_step s1, loop_step s2]
  have := key T 0 (by omega)
  rw [show cs n a b ms l 0 = 0 from rfl, show ((2 * 0 : Nat) : Int) = 0 from rfl] at this
  unfold f_foghornref22_Cost
  rw [hf]
  simp only [Option.bind_some]
  have e1 : IntKind.i64.wrap (IntKind.i64.wrap ((l.length : Int) + (n : Int)) - 1) = (T : Int) := by
    rw [w64 (x := (l.length : Int) + (n : Int)) (by omega) (by omega), w64 (by omega) (by omega)]; omega
  rw [e1, half_ok h, if_neg (by simp), rencode_ok h.toCodeOK l (by omega), hT]
  simp only [Option.bind_some]
  rw [this]; rfl
end
/-- both say the same of what fits -/
theorem fits_dich {L o t : Int} (w0 : (Lit.int .i64 L).wf = true) (w1 : (Lit.int .u32 o).wf = true) (w2 : (Lit.int .u32 t).wf = true) {ms : List Int} (hl : ms.length < 140737488351233) (h0 : ∀ m ∈ ms, 0 ≤ m) :
    (∃ n a b T N : Nat, L = (n : Int) ∧ o = (a : Int) ∧ t = (b : Int) ∧ Fit n a b ms T N ∧ f_foghornref22_Fits L o t ms = some true) ∨ (f_hard_fits L o t ms = some false ∧ f_foghornref22_Fits L o t ms = some false) := by
  rcases code_dich w0 w1 w2 with ⟨n, a, b, rfl, rfl, rfl, hc, hm⟩ | ⟨hc, hm⟩
  · have h1 := hc.n2; have h2 := hc.n7
    have e1 : ((ms.length : Int)).tmod 2 = ((ms.length % 2 : Nat) : Int) := by rw [show (2 : Int) = ((2 : Nat) : Int) from rfl, tmod_nat]
    have e2 : IntKind.i64.wrap (2 * IntKind.i64.wrap ((n : Int) - 1)) = ((2 * (n - 1) : Nat) : Int) := by
      rw [w64 (x := (n : Int) - 1) (by omega) (by omega), w64 (by omega) (by omega)]; omega
    by_cases hb : 32768 < ms.length ∨ ms.length % 2 = 1 ∨ ms.length < 2 * (n - 1)
    · right
      refine ⟨fits_len hc hl hb, ?_⟩
      unfold f_foghornref22_Fits
      rw [hm]
      simp only [Option.bind_some]
      rw [e1, e2, if_pos]
      simp only [Bool.or_eq_true, bne_iff_ne, ne_eq, decide_eq_true_eq]
      omega
    · have hneg : ¬ ((((!true) || (decide ((32768 : Int) < (ms.length : Int)))) || (((ms.length % 2 : Nat) : Int) != (0 : Int))) || (decide ((ms.length : Int) < ((2 * (n - 1) : Nat) : Int)))) = true := by
        simp only [Bool.or_eq_true, bne_iff_ne, ne_eq, decide_eq_true_eq, Bool.not_true, Bool.false_eq_true, false_or]
        omega
      by_cases ha : ∀ m ∈ ms, m ≤ 2
      · left
        refine ⟨n, a, b, ms.length / 2, ms.length / 2 - (n - 1), rfl, rfl, rfl, ⟨hc, by omega, by omega, by omega, fun m hm => ⟨h0 m hm, ha m hm⟩⟩, ?_⟩
        unfold f_foghornref22_Fits
        rw [hm]
        simp only [Option.bind_some]
        rw [e1, e2, if_neg hneg]
        have : loop (f_foghornref22_Fits.s1 ms) 0 = some (.inl ()) := by
          refine loop_for1 ms.length (Sum.inl ()) (fun i hi => ?_) ?_
          · simp only [f_foghornref22_Fits.s1, f_foghornref22_Fits.s1c]
            have := ha _ (gt_mem (xs := ms) (i := (i : Int)) (by omega) (by omega))
            rw [if_pos (by rw [decide_eq_true_eq]; omega), if_pos (by omega), if_neg (by rw [decide_eq_true_eq]; omega), w64 (by omega) (by omega)]; rfl
          · simp only [f_foghornref22_Fits.s1, f_foghornref22_Fits.s1c]
            rw [if_neg (by rw [decide_eq_true_eq]; omega)]
        rw [this]; rfl
      · right
        have hex : ∃ m ∈ ms, 2 < m := by
          apply Classical.byContradiction
          intro hne
          exact ha fun m hm => Int.not_lt.1 fun h => hne ⟨m, hm, h⟩
        refine ⟨fits_mark hc hl hex, ?_⟩
        unfold f_foghornref22_Fits
        rw [hm]
        simp only [Option.bind_some]
        rw [e1, e2, if_neg hneg]
        obtain ⟨r, r1, r2⟩ := loop_inv (f := f_foghornref22_Fits.s1 ms) (fun i : Int => 0 ≤ i ∧ i ≤ ms.length ∧ ∀ j : Nat, (j : Int) < i → gt ms (j : Int) ≤ 2) (fun i => ms.length - i.toNat) (fun r => r = .inr false) (by
          rintro i ⟨i0, i1, i2⟩
          simp only [f_foghornref22_Fits.s1, f_foghornref22_Fits.s1c]
          by_cases hi : i < ms.length
          · rw [if_pos (by rw [decide_eq_true_eq]; omega), if_pos (by omega)]
            by_cases hg : 2 < gt ms i
            · rw [if_pos (by rw [decide_eq_true_eq]; omega)]; exact .inr ⟨_, rfl, rfl⟩
            · rw [if_neg (by rw [decide_eq_true_eq]; omega), w64 (by omega) (by omega)]
              refine .inl ⟨_, rfl, ⟨by omega, by omega, fun j hj => ?_⟩, by omega⟩
              by_cases hji : (j : Int) < i
              · exact i2 j hji
              · have : (j : Int) = i := by omega
                rw [this]; omega
          · exfalso
            obtain ⟨m, hm, h3⟩ := hex
            obtain ⟨j, hj, rfl⟩ := List.mem_iff_getElem.1 hm
            have := i2 j (by omega)
            rw [gt_nat hj] at this
            omega) 0 ⟨by omega, by omega, fun j hj => by omega⟩
        rw [r1, r2]; rfl
  · right
    constructor
    · unfold f_hard_fits
      rw [hc]; rfl
    · unfold f_foghornref22_Fits
      rw [hm]; rfl
theorem both {L o t : Int} (w0 : (Lit.int .i64 L).wf = true) (w1 : (Lit.int .u32 o).wf = true) (w2 : (Lit.int .u32 t).wf = true) {ms : List Int} (hl : ms.length < 140737488351233) (h0 : ∀ m ∈ ms, 0 ≤ m) (l : List Bool) (hml : l.length < 140737488351233) :
    (∃ p c e, f_hard_Path L o t ms = some (p, c, e) ∧ f_foghornref22_Path L o t ms = some (p, c, e) ∧ p.length ≤ 16384) ∧ (∃ i g, f_hard_Cost L o t l ms = some (i, g) ∧ f_foghornref22_Cost L o t l ms = some (i, g)) := by
  rcases fits_dich w0 w1 w2 hl h0 with ⟨n, a, b, T, N, rfl, rfl, rfl, h, hf⟩ | ⟨h1, h2⟩
  · have h3 := h.len; have h4 := h.tn; have h5 := h.max; have h6 := h.n2; have h7 := h.n7
    constructor
    · refine ⟨_, _, _, path_ok h, ?_, ?_⟩
      · rw [rpath_ok h hf, msg_indep h 1000000 1048576, D_indep h 1000000 1048576 T (by omega) 0 (by obtain ⟨q, p1, _, q1, _⟩ := h.pq; omega)]
      · simp only [msgN, List.length_map, List.length_range]; omega
    · by_cases hN : l.length = N
      · exact ⟨_, _, cost_ok h l hN, rcost_ok h hf l hN⟩
      · refine ⟨0, 1, ?_, ?_⟩
        · unfold f_hard_Cost
          rw [fits_ok h]
          simp only [Option.bind_some]
          rw [half_ok h, many_ok h, if_pos (by simp; omega)]
        · unfold f_foghornref22_Cost
          rw [hf]
          simp only [Option.bind_some]
          have e1 : IntKind.i64.wrap (IntKind.i64.wrap ((l.length : Int) + (n : Int)) - 1) = ((l.length + (n - 1) : Nat) : Int) := by
            rw [w64 (x := (l.length : Int) + (n : Int)) (by omega) (by omega), w64 (by omega) (by omega)]; omega
          rw [e1, half_ok h, if_pos (by simp; omega)]
  · constructor
    · refine ⟨[], 0, 1, path_no h1, ?_, by simp⟩
      unfold f_foghornref22_Path
      rw [h2]; rfl
    · refine ⟨0, 1, ?_, ?_⟩
      · unfold f_hard_Cost
        rw [h1]; rfl
      · unfold f_foghornref22_Cost
        rw [h2]; rfl
theorem hp_s2 (a : List Bool) (ha : a.length < 140737488351233) : ∃ u, loop f_foghornlaw22_HardPaths.s2 (a, 0) = some u := by
  obtain ⟨r, h1, _⟩ := loop_inv (f := f_foghornlaw22_HardPaths.s2) (fun s : List Bool × Int => s.1.length = a.length ∧ 0 ≤ s.2 ∧ s.2 ≤ a.length) (fun s => a.length - s.2.toNat) (fun _ => True) (by
    rintro ⟨x, i⟩ ⟨i0, i1, i2⟩
    simp only at i0 i1 i2
    simp only [f_foghornlaw22_HardPaths.s2, f_foghornlaw22_HardPaths.s2c]
    by_cases hi : i < x.length
    · rw [if_pos (by rw [decide_eq_true_eq]; omega), if_pos (by omega), if_pos (by omega), w64 (by omega) (by omega)]
      exact .inl ⟨_, rfl, ⟨by simp only [List.length_set]; omega, by simp only; omega, by simp only; omega⟩, by simp only; omega⟩
    · rw [if_neg (by rw [decide_eq_true_eq]; omega)]; exact .inr ⟨_, rfl, trivial⟩) (a, 0) ⟨rfl, by simp, by simp⟩
  exact ⟨r, h1⟩
theorem gt_set {xs : List Int} {i : Int} (h0 : 0 ≤ i) (h1 : i < xs.length) (v : Int) : gt (xs.set i.toNat v) i = v := by
  rw [gt_get h0 (by rw [List.length_set]; exact h1), List.getElem_set_self]
theorem hp_s3 (ms : List Int) (ha : ms.length < 140737488351233) (h0 : ∀ m ∈ ms, 0 ≤ m ∧ m < 256) : ∃ r, loop f_foghornlaw22_HardPaths.s3 (ms, ms, 0) = some (r, r) ∧ r.length = ms.length ∧ ∀ m ∈ r, 0 ≤ m ∧ m < 256 := by
  obtain ⟨r, h1, h2, h3, h4⟩ := loop_inv (f := f_foghornlaw22_HardPaths.s3) (fun s : List Int × List Int × Int => s.1 = s.2.1 ∧ s.1.length = ms.length ∧ (∀ m ∈ s.1, 0 ≤ m ∧ m < 256) ∧ 0 ≤ s.2.2 ∧ s.2.2 ≤ ms.length) (fun s => ms.length - s.2.2.toNat) (fun r : List Int × List Int => r.1 = r.2 ∧ r.1.length = ms.length ∧ ∀ m ∈ r.1, 0 ≤ m ∧ m < 256) (by
    rintro ⟨x, y, i⟩ ⟨i0, i1, i2, i3, i4⟩
    simp only at i0 i1 i2 i3 i4
    subst i0
    simp only [f_foghornlaw22_HardPaths.s3, f_foghornlaw22_HardPaths.s3c]
    by_cases hi : i < x.length
    · have hg := i2 _ (gt_mem i3 hi)
      have hv : 0 ≤ (IntKind.u8.wrap (gt x i + 1)).tmod 3 ∧ (IntKind.u8.wrap (gt x i + 1)).tmod 3 < 256 := by
        have hw : 0 ≤ IntKind.u8.wrap (gt x i + 1) ∧ IntKind.u8.wrap (gt x i + 1) < 256 := by
          by_cases h255 : gt x i + 1 < 256
          · rw [w8 (by omega) h255]; omega
          · have : gt x i + 1 = 256 := by omega
            rw [this]; decide
        have := Int.tmod_nonneg 3 hw.1
        have := Int.tmod_lt_of_pos (IntKind.u8.wrap (gt x i + 1)) (show (0 : Int) < 3 by decide)
        omega
      rw [if_pos (by rw [decide_eq_true_eq]; omega), if_pos (by omega), if_pos (by omega), if_pos (by rw [List.length_set]; omega), if_pos (by omega), gt_set i3 hi, w64 (by omega) (by omega)]
      refine .inl ⟨_, rfl, ⟨rfl, by simp only [List.length_set]; omega, fun m hm => ?_, by simp only; omega, by simp only; omega⟩, by simp only; omega⟩
      rcases List.mem_or_eq_of_mem_set hm with h | rfl
      · exact i2 m h
      · exact hv
    · rw [if_neg (by rw [decide_eq_true_eq]; omega)]
      exact .inr ⟨_, rfl, rfl, i1, i2⟩) (ms, ms, 0) ⟨rfl, rfl, h0, by simp, by simp⟩
  obtain ⟨r1, r2⟩ := r
  obtain rfl : r1 = r2 := h2
  exact ⟨r1, h1, h3, h4⟩
theorem marks_copy (l : List Int) (hl : l.length < 140737488351233) : f_foghornlaw22_marks l = some l := by
  unfold f_foghornlaw22_marks
  have := loop_for (f := f_foghornlaw22_marks.s1 l) l.length (fun i => l.take i) l (fun i hi => ?_) ?_
  · rw [show l.take 0 = [] from rfl] at this
    rw [this]; rfl
  · simp only [f_foghornlaw22_marks.s1, f_foghornlaw22_marks.s1c]
    rw [if_pos (by rw [decide_eq_true_eq]; omega), if_pos (by omega), if_pos (by simp only [List.length_take, List.length_cons, List.length_nil]; omega), w64 (by omega) (by omega), gt_nat hi, List.take_succ_eq_append_getElem hi]
    rfl
  · simp only [f_foghornlaw22_marks.s1, f_foghornlaw22_marks.s1c]
    rw [if_neg (by rw [decide_eq_true_eq]; omega), List.take_length]
theorem paths_true (L : Int) (w0 : (Lit.int .i64 L).wf = true) (o : Int) (w1 : (Lit.int .u32 o).wf = true) (t : Int) (w2 : (Lit.int .u32 t).wf = true)
    (l : List Int) (hg : ∀ x ∈ l, (Lit.int .u8 x).wf = true) (hl : l.length * 1 ≤ 140737488351232) (message : List Bool) (w4 : ∀ x ∈ message, True) (hmsg : message.length * 1 ≤ 140737488351232) :
    f_foghornlaw22_HardPaths L o t l message = some true := by
  unfold f_foghornlaw22_HardPaths
  rw [show f_foghornlaw22_made L o t = some ((L, o, t), (L, o, t)) from rfl, marks_copy l (by omega)]
  simp only [Option.bind_some]
  rw [if_pos (by simp only [List.length_nil]; omega), List.nil_append]
  obtain ⟨r, h1, h2⟩ := loop_inv (f := f_foghornlaw22_HardPaths.s1 message ((L, o, t), (L, o, t))) (fun s : List Int × List Int × Int => s.1 = s.2.1 ∧ s.1.length < 140737488351233 ∧ (∀ m ∈ s.1, 0 ≤ m ∧ m < 256) ∧ 0 ≤ s.2.2 ∧ s.2.2 ≤ 2) (fun s => 2 - s.2.2.toNat) (fun r => r = .inl ()) (by
    rintro ⟨x, y, i⟩ ⟨i0, i1, i2, i3, i4⟩
    simp only at i0 i1 i2 i3 i4
    subst i0
    simp only [f_foghornlaw22_HardPaths.s1, f_foghornlaw22_HardPaths.s1c]
    by_cases hi : i < 2
    · obtain ⟨⟨p, c, e, p1, p2, p3⟩, ⟨j, g, c1, c2⟩⟩ := both w0 w1 w2 i1 (fun m hm => (i2 m hm).1) message (by omega)
      obtain ⟨u, hu⟩ := hp_s2 p (by omega)
      obtain ⟨z, z1, z2, z3⟩ := hp_s3 x i1 i2
      rw [if_pos (by rw [decide_eq_true_eq]; omega), p1, p2, c1, c2]
      simp only [Option.bind_some]
      rw [bits_self p (by omega), marks_self x i1]
      simp only [Option.bind_some, Bool.not_true, bne_self_eq_false, Bool.or_self, Bool.false_eq_true, if_false]
      rw [hu]
      simp only [Option.bind_some]
      rw [z1]
      simp only [Option.bind_some]
      rw [w64 (by omega) (by omega)]
      exact .inl ⟨_, rfl, ⟨rfl, by simp only; omega, z3, by simp only; omega, by simp only; omega⟩, by simp only; omega⟩
    · rw [if_neg (by rw [decide_eq_true_eq]; omega)]; exact .inr ⟨_, rfl, rfl⟩) (l, l, 0) ⟨rfl, by simp only; omega, fun m hm => wf_u8 (hg m hm), by simp, by simp⟩
  rw [h1, h2]; rfl

end Go.Proofs.Ythajdlihjobcoaa
