/- Hard ways -/
import Derived.Test.YtgdhjjdgghilhaaGreatG1
import Derived.Test.YtgdhjjdgghilhaaGreatGlW
set_option linter.unusedVariables false
set_option linter.unusedSimpArgs false
set_option maxRecDepth 8000
set_option exponentiation.threshold 3000
namespace Go.Proofs.YtgdhjjdgghilhaaGreat
open GL Go
namespace HD

structure CodeOK (n a b : Nat) : Prop where
  n2 : 2 ≤ n
  n7 : n ≤ 7
  a1 : 1 ≤ a
  b1 : 1 ≤ b
  an : a < 2 ^ n
  bn : b < 2 ^ n
  top : 2 ^ (n - 1) ≤ max a b
theorem CodeOK.pq {n a b : Nat} (h : CodeOK n a b) : ∃ q, 2 ^ (n - 1) = 2 * q ∧ 2 ^ n = 4 * q ∧ 1 ≤ q ∧ q ≤ 32 ∧ q = 2 ^ (n - 2) := by
  have h1 := h.n2
  have h2 := h.n7
  have : n = 2 ∨ n = 3 ∨ n = 4 ∨ n = 5 ∨ n = 6 ∨ n = 7 := by omega
  rcases this with rfl | rfl | rfl | rfl | rfl | rfl <;> exact ⟨_, rfl, rfl, by decide, by decide, rfl⟩
theorem len_tab0 : ∀ n : Nat, n < 8 → ∀ m : Nat, m < 128 → (decide (1 ≤ n ∧ 2 ^ (n - 1) ≤ m ∧ m < 2 ^ n) → (f_math_bits_Len32 (m : Int) == some (n : Int)) = true) := by decide +kernel
theorem len_tab (n : Nat) (hn : n < 8) (m : Nat) (hm : m < 128) (h1 : 1 ≤ n) (h2 : 2 ^ (n - 1) ≤ m) (h3 : m < 2 ^ n) : f_math_bits_Len32 (m : Int) = some (n : Int) :=
  eq_of_beq (len_tab0 n hn m hm (by simp [h1, h2, h3]))
theorem check_ok {n a b : Nat} (h : CodeOK n a b) : f_trellis_Code_Check (n : Int) (a : Int) (b : Int) = some 0 := by
  obtain ⟨q, p1, p2, q1, q2, _⟩ := h.pq
  have h1 := h.n2; have h2 := h.n7; have h3 := h.a1; have h4 := h.b1; have h5 := h.an; have h6 := h.bn; have h7 := h.top
  unfold f_trellis_Code_Check
  rw [imin_nat, imax_nat, if_neg (by simp; omega), len_tab n (by omega) (max a b) (by omega) (by omega) h7 (by omega)]
  simp
def par (x : Nat) : Bool := (List.range 7).foldl (fun c i => c != x.testBit i) false
theorem ones_tab : ∀ x : Nat, x < 128 → ((f_math_bits_OnesCount32 (x : Int)).map (fun q => IntKind.u32.wrap (iand .i64 q 1)) == some (if par x then 1 else 0)) = true := by decide +kernel
theorem ones_some {x : Nat} (h : x < 128) : ∃ q, f_math_bits_OnesCount32 (x : Int) = some q ∧ IntKind.u32.wrap (iand .i64 q 1) = if par x then 1 else 0 := by
  have := eq_of_beq (ones_tab x h)
  cases hh : f_math_bits_OnesCount32 (x : Int) with
  | none => rw [hh] at this; cases this
  | some y => rw [hh] at this; exact ⟨y, rfl, Option.some.inj this⟩
def al (n s : Nat) (b : Bool) : Nat := s + if b then 2 ^ (n - 1) else 0
def nx (n s : Nat) (b : Bool) : Nat := al n s b / 2
def ob (n a s : Nat) (b : Bool) : Bool := par (al n s b &&& a)
theorem al_lt {n a b : Nat} (h : CodeOK n a b) {s : Nat} (hs : s < 2 ^ (n - 1)) (c : Bool) : al n s c < 2 ^ n := by
  obtain ⟨q, p1, p2, q1, q2, _⟩ := h.pq
  unfold al; rw [p2]; split <;> omega
theorem nx_lt {n a b : Nat} (h : CodeOK n a b) {s : Nat} (hs : s < 2 ^ (n - 1)) (c : Bool) : nx n s c < 2 ^ (n - 1) := by
  have := al_lt h hs c
  obtain ⟨q, p1, p2, q1, q2, _⟩ := h.pq
  unfold nx; rw [p1]; rw [p2] at this; omega
def un (b : Bool) (m : Int) : Nat := if (m != 2 && ((if b then (1 : Int) else 0) != m)) = true then 1 else 0
theorem un_le (b : Bool) (m : Int) : un b m ≤ 1 := by
  unfold un
  generalize (m != 2 && ((if b then (1 : Int) else 0) != m)) = z
  cases z <;> simp
theorem unlike_ok (b : Bool) (m : Int) : f_hard_unlike (if b then (1 : Int) else 0) m = some ((un b m : Nat) : Int) := by
  unfold f_hard_unlike un
  have : IntKind.u8.wrap (if b = true then (1 : Int) else 0) = if b then (1 : Int) else 0 := by cases b <;> decide
  rw [this]
  generalize (m != 2 && ((if b then (1 : Int) else 0) != m)) = z
  cases z <;> rfl
theorem hstep_ok {n a b : Nat} (h : CodeOK n a b) {s : Nat} (hs : s < 2 ^ (n - 1)) (c : Bool) (ms : List Int) (hm : 2 ≤ ms.length) :
    f_hard_step (n : Int) (a : Int) (b : Int) (s : Int) (if c then (1 : Int) else 0) ms = some (((nx n s c : Nat) : Int), ((un (ob n a s c) (gt ms 0) + un (ob n b s c) (gt ms 1) : Nat) : Int)) := by
  have hal := al_lt h hs c
  obtain ⟨q, p1, p2, q1, q2, _⟩ := h.pq
  have h1 := h.n2; have h2 := h.n7; have h3 := h.a1; have h4 := h.b1; have h5 := h.an; have h6 := h.bn
  have eal : ior .u32 (ishl .u32 (if c then (1 : Int) else 0) (IntKind.i64.wrap ((n : Int) - 1))) (s : Int) = ((al n s c : Nat) : Int) := by
    rw [w64 (by omega) (by omega), show (n : Int) - 1 = ((n - 1 : Nat) : Int) by omega]
    cases c with
    | false =>
      simp only [Bool.false_eq_true, if_false]
      rw [show ((0 : Int)) = ((0 : Nat) : Int) from rfl, ishl32 (by omega) (by omega), Nat.zero_mul, ior32 (by omega) (by omega), Nat.zero_or]; rfl
    | true =>
      simp only [if_true]
      rw [show ((1 : Int)) = ((1 : Nat) : Int) from rfl, ishl32 (by omega) (by omega), Nat.one_mul, ior32 (by omega) (by omega)]
      have := Nat.two_pow_add_eq_or_of_lt hs 1
      have e : 2 ^ (n - 1) ||| s = al n s true := by
        simp only [al, if_true]
        rw [Nat.add_comm]; simpa using this.symm
      rw [e]
  have e1 : al n s c &&& a ≤ al n s c := Nat.and_le_left
  have e2 : al n s c &&& b ≤ al n s c := Nat.and_le_left
  obtain ⟨x, hx, hx2⟩ := ones_some (x := al n s c &&& a) (by omega)
  obtain ⟨y, hy, hy2⟩ := ones_some (x := al n s c &&& b) (by omega)
  have hna : al n s c / 2 = nx n s c := rfl
  unfold f_hard_step
  rw [eal, w64 (by omega) (by omega), if_pos (by omega), iand32 (by omega) (by omega), iand32 (by omega) (by omega), hx, hy]
  simp only [Option.bind_some]
  rw [hx2, hy2, unlike_ok, unlike_ok]
  simp only [Option.bind_some]
  rw [if_pos (by omega), if_pos (by omega)]
  rw [show ((1 : Int)) = ((1 : Nat) : Int) from rfl, ishr_nat (by decide), show al n s c / 2 ^ 1 = nx n s c from hna, ← Int.natCast_add]
  have l1 := un_le (par (al n s c &&& a)) (gt ms 0)
  have l2 := un_le (par (al n s c &&& b)) (gt ms ((1 : Nat) : Int))
  rw [w32s (by omega) (by omega)]
  rfl

def cst (n a b : Nat) (ms : List Int) (t s : Nat) (c : Bool) : Nat := un (ob n a s c) (gt ms ((2 * t : Nat) : Int)) + un (ob n b s c) (gt ms ((2 * t + 1 : Nat) : Int))
theorem cst_le (n a b : Nat) (ms : List Int) (t s : Nat) (c : Bool) : cst n a b ms t s c ≤ 2 := by
  have h1 := un_le (ob n a s c) (gt ms ((2 * t : Nat) : Int))
  have h2 := un_le (ob n b s c) (gt ms ((2 * t + 1 : Nat) : Int))
  unfold cst; omega
theorem drop_gt {ms : List Int} {i j : Nat} (h : i + j < ms.length) : gt ((ms.drop i).take (ms.length - i)) (j : Int) = gt ms ((i + j : Nat) : Int) := by
  rw [gt_nat (by simp; omega), gt_nat h]; simp
theorem hstep_at {n a b : Nat} (h : CodeOK n a b) {s : Nat} (hs : s < 2 ^ (n - 1)) (c : Bool) (ms : List Int) (t : Nat) (ht : 2 * t + 1 < ms.length) :
    f_hard_step (n : Int) (a : Int) (b : Int) (s : Int) (if c then (1 : Int) else 0) ((ms.drop (2 * t)).take (ms.length - 2 * t)) = some (((nx n s c : Nat) : Int), ((cst n a b ms t s c : Nat) : Int)) := by
  rw [hstep_ok h hs c _ (by simp; omega)]
  have h0 := drop_gt (ms := ms) (i := 2 * t) (j := 0) (by omega)
  have h1 := drop_gt (ms := ms) (i := 2 * t) (j := 1) (by omega)
  rw [show ((0 : Nat) : Int) = 0 from rfl] at h0
  rw [show ((1 : Nat) : Int) = 1 from rfl] at h1
  rw [h0, h1]; rfl
def D (n a b : Nat) (ms : List Int) (T N F : Nat) : Nat → Nat → Nat
  | 0, s => if s = 0 then 0 else F
  | k + 1, s => if T - (k + 1) < N then min (cst n a b ms (T - (k + 1)) s false + D n a b ms T N F k (nx n s false)) (cst n a b ms (T - (k + 1)) s true + D n a b ms T N F k (nx n s true))
      else cst n a b ms (T - (k + 1)) s false + D n a b ms T N F k (nx n s false)
theorem D_le (n a b : Nat) (ms : List Int) (T N F : Nat) : ∀ k s, D n a b ms T N F k s ≤ F + 2 * k
  | 0, s => by simp only [D]; split <;> omega
  | k + 1, s => by
    have h1 := D_le n a b ms T N F k (nx n s false)
    have h2 := cst_le n a b ms (T - (k + 1)) s false
    simp only [D]; split <;> omega
def bitOf (n a b : Nat) (ms : List Int) (T N F t s : Nat) : Bool := decide (cst n a b ms t s false + D n a b ms T N F (T - (t + 1)) (nx n s false) ≠ D n a b ms T N F (T - t) s)
def pst (n a b : Nat) (ms : List Int) (T N F : Nat) : Nat → Nat
  | 0 => 0
  | t + 1 => nx n (pst n a b ms T N F t) (bitOf n a b ms T N F t (pst n a b ms T N F t))
def msgN (n a b : Nat) (ms : List Int) (T N F M : Nat) : List Bool := (List.range M).map fun t => bitOf n a b ms T N F t (pst n a b ms T N F t)
theorem pst_lt {n a b : Nat} (h : CodeOK n a b) (ms : List Int) (T N F : Nat) : ∀ t, pst n a b ms T N F t < 2 ^ (n - 1)
  | 0 => by obtain ⟨q, p1, _, q1, _⟩ := h.pq; rw [p1]; simp only [pst]; omega
  | t + 1 => nx_lt h (pst_lt h ms T N F t) _

def tab (T : Nat) (f : Nat → Nat → Int) : List (List Int) := (List.range (T + 1)).map fun t => (List.range 64).map fun s => f t s
theorem tab_len (T : Nat) (f : Nat → Nat → Int) : (tab T f).length = T + 1 := by simp [tab]
theorem tab_row {T : Nat} {f : Nat → Nat → Int} {t : Nat} (ht : t ≤ T) : gt (tab T f) (t : Int) = (List.range 64).map fun s => f t s := by
  rw [gt_nat (by rw [tab_len]; omega)]; simp [tab]
theorem tab_get {T : Nat} {f : Nat → Nat → Int} {t s : Nat} (ht : t ≤ T) (hs : s < 64) : gt (gt (tab T f) (t : Int)) (s : Int) = f t s := by
  rw [tab_row ht, gt_nat (by simpa using hs)]; simp
def upd (f : Nat → Nat → Int) (t s : Nat) (v : Int) : Nat → Nat → Int := fun t' s' => if t' = t ∧ s' = s then v else f t' s'
theorem tab_set {T : Nat} {f : Nat → Nat → Int} {t s : Nat} (v : Int) (ht : t ≤ T) (hs : s < 64) : (tab T f).set t ((gt (tab T f) (t : Int)).set s v) = tab T (upd f t s v) := by
  rw [tab_row ht]
  apply List.ext_getElem
  · simp [tab]
  · intro i h1 h2
    simp only [List.getElem_set]
    split
    · rename_i h; subst h
      apply List.ext_getElem
      · simp [tab]
      · intro j h3 h4
        simp only [List.getElem_set, tab, List.getElem_map, List.getElem_range, upd]
        by_cases hj : s = j
        · subst hj; simp
        · simp [hj, Ne.symm hj]
    · rename_i h
      simp only [tab, List.getElem_map, List.getElem_range, upd]
      apply List.map_congr_left
      intro j _
      rw [if_neg (by omega)]
theorem tab_congr {T : Nat} {f g : Nat → Nat → Int} (h : ∀ t s, t ≤ T → s < 64 → f t s = g t s) : tab T f = tab T g := by
  unfold tab
  apply List.map_congr_left
  intro t ht
  apply List.map_congr_left
  intro s hs
  exact h t s (by simp at ht; omega) (by simpa using hs)
theorem tab_zero (T : Nat) : List.replicate (T + 1) (List.replicate 64 (0 : Int)) = tab T (fun _ _ => 0) := by
  unfold tab
  apply List.ext_getElem
  · simp
  · intro i h1 h2
    rw [List.getElem_replicate, List.getElem_map]
    apply List.ext_getElem
    · simp
    · intro j h3 h4; simp only [List.getElem_replicate, List.getElem_map]
structure Fit (n a b : Nat) (ms : List Int) (T N : Nat) : Prop extends CodeOK n a b where
  len : ms.length = 2 * T
  tn : T = N + (n - 1)
  max : T ≤ 16384
  mks : ∀ m ∈ ms, 0 ≤ m ∧ m ≤ 2
theorem contains_ok (ms : List Int) (hl : ms.length < 140737488351233) : f_slices_ContainsFunc_hard_Mark_hard_Mark ms = some (decide (∃ m ∈ ms, 2 < m)) := by
  have key : ∀ k i : Nat, i + k = ms.length → (∀ j : Nat, j < i → ¬ 2 < gt ms (j : Int)) →
      ∃ r, loop (f_slices_IndexFunc_hard_Mark_hard_Mark.s1 ms) (i : Int) = some r ∧ ((r = .inl () ∧ ∀ j : Nat, j < ms.length → ¬ 2 < gt ms (j : Int)) ∨ ∃ j : Nat, r = .inr (j : Int) ∧ j < ms.length ∧ 2 < gt ms (j : Int)) := by
    intro k
    induction k with
    | zero =>
      intro i hi hj
      obtain rfl : i = ms.length := by omega
      refine ⟨_, loop_done (r := .inl ()) ?_, .inl ⟨rfl, hj⟩⟩
      simp only [f_slices_IndexFunc_hard_Mark_hard_Mark.s1, f_slices_IndexFunc_hard_Mark_hard_Mark.s1c]
      rw [if_neg (by simp)]
    | succ k ih =>
      intro i hi hj
      by_cases hm : 2 < gt ms (i : Int)
      · refine ⟨_, loop_done (r := .inr (i : Int)) ?_, .inr ⟨i, rfl, by omega, hm⟩⟩
        simp only [f_slices_IndexFunc_hard_Mark_hard_Mark.s1, f_slices_IndexFunc_hard_Mark_hard_Mark.s1c, f_hard_fits_1]
        rw [if_pos (by simp; omega), if_pos (by omega)]
        simp only [Option.bind_some]
        rw [if_pos (by simpa using hm)]
      · obtain ⟨r, h1, h2⟩ := ih (i + 1) (by omega) (fun j hj' => by
          by_cases hji : j < i
          · exact hj j hji
          · obtain rfl : j = i := by omega
            exact hm)
        refine ⟨r, ?_, h2⟩
        rw [← h1]
        apply loop_step
        simp only [f_slices_IndexFunc_hard_Mark_hard_Mark.s1, f_slices_IndexFunc_hard_Mark_hard_Mark.s1c, f_hard_fits_1]
        rw [if_pos (by simp; omega), if_pos (by omega)]
        simp only [Option.bind_some]
        rw [if_neg (by simpa using hm), w64 (by omega) (by omega)]
        rfl
  obtain ⟨r, h1, h2⟩ := key ms.length 0 (by omega) (fun j hj => by omega)
  rw [show ((0 : Nat) : Int) = 0 from rfl] at h1
  unfold f_slices_ContainsFunc_hard_Mark_hard_Mark f_slices_IndexFunc_hard_Mark_hard_Mark
  rw [h1]
  rcases h2 with ⟨rfl, hn⟩ | ⟨j, rfl, hj, hm⟩
  · simp only [Option.bind_some, sm]
    congr 1
    rw [decide_eq_false (by omega)]
    symm
    rw [decide_eq_false_iff_not]
    rintro ⟨m, hm, h3⟩
    obtain ⟨j, hj, rfl⟩ := List.mem_iff_getElem.1 hm
    exact hn j hj (by rw [gt_nat hj]; exact h3)
  · simp only [Option.bind_some, sm]
    congr 1
    rw [decide_eq_true (by omega)]
    symm
    rw [decide_eq_true_eq]
    exact ⟨_, List.getElem_mem hj, by rw [← gt_nat hj]; exact hm⟩
theorem fits_ok {n a b T N : Nat} {ms : List Int} (h : Fit n a b ms T N) : f_hard_fits (n : Int) (a : Int) (b : Int) ms = some true := by
  have h1 := h.n2; have h2 := h.n7; have h3 := h.len; have h4 := h.tn; have h5 := h.max
  unfold f_hard_fits
  rw [check_ok h.toCodeOK]
  simp only [Option.bind_some]
  have e1 : ((ms.length : Int)).tmod 2 = 0 := by rw [show (2 : Int) = ((2 : Nat) : Int) from rfl, tmod_nat]; omega
  rw [e1, w64 (x := (n : Int) - 1) (by omega) (by omega), w64 (by omega) (by omega), if_neg (by simp; omega), contains_ok ms (by omega)]
  simp only [Option.bind_some]
  rw [decide_eq_false]
  · rfl
  · rintro ⟨m, hm, hm2⟩
    have := h.mks m hm
    omega

section
variable {n a b T N : Nat} {ms : List Int}
theorem pow_le_of (h : CodeOK n a b) : 2 ^ (n - 1) ≤ 64 := by obtain ⟨q, p1, p2, q1, q2, _⟩ := h.pq; omega
theorem sh_ok (h : CodeOK n a b) : ishl .u32 (1 : Int) (IntKind.i64.wrap ((n : Int) - 1)) = ((2 ^ (n - 1) : Nat) : Int) := by
  have h1 := h.n2; have h2 := h.n7; have := pow_le_of h
  rw [w64 (by omega) (by omega), show (n : Int) - 1 = ((n - 1 : Nat) : Int) by omega, show ((1 : Int)) = ((1 : Nat) : Int) from rfl, ishl32 (by omega) (by omega), Nat.one_mul]
theorem half_ok (h : Fit n a b ms T N) : IntKind.i64.wrap (((ms.length : Int)).tdiv 2) = (T : Int) := by
  have h3 := h.len; have h5 := h.max
  rw [show (2 : Int) = ((2 : Nat) : Int) from rfl, tdiv_nat, w64 (by omega) (by omega), h3]; omega
theorem many_ok (h : Fit n a b ms T N) : IntKind.i64.wrap ((T : Int) - IntKind.i64.wrap ((n : Int) - 1)) = (N : Int) := by
  have h1 := h.n2; have h2 := h.n7; have h4 := h.tn; have h5 := h.max
  rw [w64 (x := (n : Int) - 1) (by omega) (by omega), w64 (by omega) (by omega)]; omega
theorem path_s1 (h : Fit n a b ms T N) : loop (f_hard_Path.s1 (n : Int) ms) (tab T (fun _ _ => 0), 0) = some (tab T fun t s => if t = T ∧ s < 2 ^ (n - 1) then 1048576 else 0) := by
  have hp := pow_le_of h.toCodeOK
  have key := loop_for (f := f_hard_Path.s1 (n : Int) ms) (2 ^ (n - 1)) (fun j => tab T fun t s => if t = T ∧ s < j then 1048576 else 0) (tab T fun t s => if t = T ∧ s < 2 ^ (n - 1) then 1048576 else 0) (fun j hj => ?_) ?_
  · simpa using key
  · simp only [f_hard_Path.s1, f_hard_Path.s1c]
    rw [sh_ok h.toCodeOK, half_ok h, tab_len, if_pos (by rw [decide_eq_true_eq]; omega), if_pos (by omega), if_pos (by omega), Int.toNat_natCast, Int.toNat_natCast, tab_set _ (Nat.le_refl _) (by omega), w32 (by omega) (by omega)]
    congr 3
    apply tab_congr
    intro t s ht hs
    simp only [upd]
    by_cases h1 : t = T ∧ s = j
    · rw [if_pos h1, if_pos ⟨h1.1, by omega⟩]
    · rw [if_neg h1]
      by_cases h2 : t = T ∧ s < j
      · rw [if_pos h2, if_pos ⟨h2.1, by omega⟩]
      · rw [if_neg h2, if_neg (by omega)]
  · simp only [f_hard_Path.s1, f_hard_Path.s1c]
    rw [sh_ok h.toCodeOK, if_neg (by simp)]

def Gk (n a b : Nat) (ms : List Int) (T N k : Nat) : Nat → Nat → Int := fun t s => if T - k ≤ t ∧ t ≤ T ∧ s < 2 ^ (n - 1) then ((D n a b ms T N 1048576 (T - t) s : Nat) : Int) else 0
theorem path_s3 (h : Fit n a b ms T N) {k : Nat} (hk : k < T) :
    loop (f_hard_Path.s3 (n : Int) (a : Int) (b : Int) ms ((T - (k + 1) : Nat) : Int)) (tab T (Gk n a b ms T N k), 0) = some (tab T (Gk n a b ms T N (k + 1))) := by
  have hp := pow_le_of h.toCodeOK
  have h1 := h.n2; have h2 := h.n7; have h3 := h.len; have h4 := h.tn; have h5 := h.max
  obtain ⟨t, ht⟩ : ∃ t, t = T - (k + 1) := ⟨_, rfl⟩
  rw [← ht]
  have htT : t + 1 ≤ T := by omega
  have hkt : T - (t + 1) = k := by omega
  have key := loop_for (f := f_hard_Path.s3 (n : Int) (a : Int) (b : Int) ms (t : Int)) (2 ^ (n - 1))
    (fun j => tab T fun t' s => if t' = t ∧ s < j then ((D n a b ms T N 1048576 (k + 1) s : Nat) : Int) else Gk n a b ms T N k t' s) (tab T (Gk n a b ms T N (k + 1))) (fun j hj => ?_) ?_
  · refine Eq.trans (congrArg (fun x => loop _ (x, (0 : Int))) ?_) key
    apply tab_congr
    intro t' s _ _
    simp
  · obtain ⟨f, hf⟩ : ∃ f : Nat → Nat → Int, f = fun t' s => if t' = t ∧ s < j then ((D n a b ms T N 1048576 (k + 1) s : Nat) : Int) else Gk n a b ms T N k t' s := ⟨_, rfl⟩
    have e2t : IntKind.i64.wrap (2 * (t : Int)) = ((2 * t : Nat) : Int) := by rw [w64 (by omega) (by omega)]; omega
    have et1 : IntKind.i64.wrap ((t : Int) + 1) = ((t + 1 : Nat) : Int) := by rw [w64 (by omega) (by omega)]; rfl
    have ej1 : IntKind.u32.wrap ((j : Int) + 1) = ((j + 1 : Nat) : Int) := by rw [w32 (by omega) (by omega)]; rfl
    have hnx : ∀ c, nx n j c < 2 ^ (n - 1) := fun c => nx_lt h.toCodeOK hj c
    have hfn : ∀ (g : Nat → Nat → Int) (c : Bool), (∀ s, g (t + 1) s = f (t + 1) s) → g (t + 1) (nx n j c) = ((D n a b ms T N 1048576 k (nx n j c) : Nat) : Int) := fun g c hg => by
      rw [hg, hf]
      simp only [Gk]
      rw [if_neg (by omega), if_pos ⟨by omega, by omega, hnx c⟩, hkt]
    have hDl : ∀ c, D n a b ms T N 1048576 k (nx n j c) ≤ 1048576 + 2 * k := fun c => D_le n a b ms T N _ k _
    have hcl : ∀ c, cst n a b ms t j c ≤ 2 := fun c => cst_le n a b ms t j c
    have hs0 := hstep_at h.toCodeOK hj false ms t (by omega)
    have hs1 := hstep_at h.toCodeOK hj true ms t (by omega)
    simp only [Bool.false_eq_true, if_false] at hs0
    simp only [if_true] at hs1
    simp only [← hf]
    simp only [f_hard_Path.s3, f_hard_Path.s3c]
    rw [sh_ok h.toCodeOK, half_ok h, many_ok h, e2t, et1, ej1, if_pos (by rw [decide_eq_true_eq]; omega), if_pos (by omega), Int.toNat_natCast, hs0]
    simp only [Option.bind_some]
    have n0 := hnx false
    have n1 := hnx true
    have d0 := hDl false; have d1 := hDl true; have c0 := hcl false; have c1 := hcl true
    simp only [tab_len]
    rw [if_pos (by omega), if_pos (by omega), if_pos (by omega), if_pos (by omega)]
    rw [tab_get (f := f) (t := t + 1) (s := nx n j false) htT (by omega), hfn f false (fun _ => rfl)]
    simp only [Int.toNat_natCast]
    rw [tab_set _ (by omega) (by omega), w32s (x := ((cst n a b ms t j false : Nat) : Int) + ((D n a b ms T N 1048576 k (nx n j false) : Nat) : Int)) (by omega) (by omega)]
    obtain ⟨x0, hx0⟩ : ∃ x, x = ((cst n a b ms t j false : Nat) : Int) + ((D n a b ms T N 1048576 k (nx n j false) : Nat) : Int) := ⟨_, rfl⟩
    rw [← hx0]
    have hDk : D n a b ms T N 1048576 (k + 1) j = if t < N then min (cst n a b ms t j false + D n a b ms T N 1048576 k (nx n j false)) (cst n a b ms t j true + D n a b ms T N 1048576 k (nx n j true)) else cst n a b ms t j false + D n a b ms T N 1048576 k (nx n j false) := by
      simp only [D, ← ht]
    by_cases hN : t < N
    · rw [if_pos (by simp; omega), if_pos (by omega), hs1]
      simp only [Option.bind_some, tab_len]
      rw [if_pos (by omega), if_pos (by omega), if_pos (by omega), if_pos (by omega), if_pos (by omega), if_pos (by omega)]
      rw [tab_get (f := upd f t j x0) (t := t + 1) (s := nx n j true) htT (by omega), hfn (upd f t j x0) true (fun s => by simp only [upd]; rw [if_neg (by omega)])]
      rw [w32s (x := ((cst n a b ms t j true : Nat) : Int) + ((D n a b ms T N 1048576 k (nx n j true) : Nat) : Int)) (by omega) (by omega)]
      rw [tab_get (f := upd f t j x0) (t := t) (s := j) (by omega) (by omega), tab_set _ (by omega) (by omega)]
      have hv : imin (upd f t j x0 t j) (((cst n a b ms t j true : Nat) : Int) + ((D n a b ms T N 1048576 k (nx n j true) : Nat) : Int)) = ((D n a b ms T N 1048576 (k + 1) j : Nat) : Int) := by
        simp only [upd, and_self, if_true]
        rw [hx0, ← Int.natCast_add, ← Int.natCast_add, imin_nat, hDk, if_pos hN]
      rw [hv]
      congr 3
      apply tab_congr
      intro t' s _ _
      simp only [upd, hf]
      by_cases hh : t' = t ∧ s = j
      · rw [if_pos hh, if_pos ⟨hh.1, by omega⟩, hh.2]
      · rw [if_neg hh, if_neg hh]
        by_cases hh2 : t' = t ∧ s < j
        · rw [if_pos hh2, if_pos ⟨hh2.1, by omega⟩]
        · rw [if_neg hh2, if_neg (by omega)]
    · rw [if_neg (by simp; omega)]
      have hv : x0 = ((D n a b ms T N 1048576 (k + 1) j : Nat) : Int) := by rw [hx0, hDk, if_neg hN]; omega
      rw [hv]
      congr 3
      apply tab_congr
      intro t' s _ _
      simp only [upd, hf]
      by_cases hh : t' = t ∧ s = j
      · rw [if_pos hh, if_pos ⟨hh.1, by omega⟩, hh.2]
      · rw [if_neg hh]
        by_cases hh2 : t' = t ∧ s < j
        · rw [if_pos hh2, if_pos ⟨hh2.1, by omega⟩]
        · rw [if_neg hh2, if_neg (by omega)]
  · simp only [f_hard_Path.s3, f_hard_Path.s3c]
    rw [sh_ok h.toCodeOK, if_neg (by simp)]
    congr 2
    apply tab_congr
    intro t' s _ _
    simp only [Gk]
    by_cases hh : t' = t
    · subst hh
      by_cases hs : s < 2 ^ (n - 1)
      · rw [if_pos ⟨rfl, hs⟩, if_pos ⟨by omega, by omega, hs⟩, show T - t' = k + 1 by omega]
      · rw [if_neg (by omega), if_neg (by omega), if_neg (by omega)]
    · rw [if_neg (by omega)]
      by_cases hs : T - k ≤ t' ∧ t' ≤ T ∧ s < 2 ^ (n - 1)
      · rw [if_pos hs, if_pos (by omega)]
      · rw [if_neg hs, if_neg (by omega)]
theorem path_s2 (h : Fit n a b ms T N) : loop (f_hard_Path.s2 (n : Int) (a : Int) (b : Int) ms) (tab T (Gk n a b ms T N 0), (T : Int) - 1) = some (tab T (Gk n a b ms T N T)) := by
  have h5 := h.max
  have key : ∀ j k : Nat, k + j = T → loop (f_hard_Path.s2 (n : Int) (a : Int) (b : Int) ms) (tab T (Gk n a b ms T N k), (T : Int) - 1 - (k : Int)) = some (tab T (Gk n a b ms T N T)) := by
    intro j
    induction j with
    | zero =>
      intro k hk
      obtain rfl : k = T := by omega
      apply loop_done
      simp only [f_hard_Path.s2, f_hard_Path.s2c]
      rw [if_neg (by simp; omega)]
    | succ j ih =>
      intro k hk
      rw [← ih (k + 1) (by omega)]
      apply loop_step
      simp only [f_hard_Path.s2, f_hard_Path.s2c]
      rw [if_pos (by simp; omega), show (T : Int) - 1 - (k : Int) = ((T - (k + 1) : Nat) : Int) by omega, path_s3 h (by omega)]
      simp only [Option.bind_some]
      rw [w64 (by omega) (by omega), show ((T - (k + 1) : Nat) : Int) - 1 = (T : Int) - 1 - ((k + 1 : Nat) : Int) by omega]
  have := key T 0 (by omega)
  simpa using this
theorem path_s4 (h : Fit n a b ms T N) : loop (f_hard_Path.s4 (n : Int) (a : Int) (b : Int) ms (tab T (Gk n a b ms T N T))) (List.replicate N false, 0, 0) = some (msgN n a b ms T N 1048576 N) := by
  have hp := pow_le_of h.toCodeOK
  have h1 := h.n2; have h2 := h.n7; have h3 := h.len; have h4 := h.tn; have h5 := h.max
  obtain ⟨B, hB⟩ : ∃ B : Nat → Bool, B = fun t => bitOf n a b ms T N 1048576 t (pst n a b ms T N 1048576 t) := ⟨_, rfl⟩
  have key : ∀ k i : Nat, i + k = N → loop (f_hard_Path.s4 (n : Int) (a : Int) (b : Int) ms (tab T (Gk n a b ms T N T))) ((List.range N).map (fun t => if t < i then B t else false), ((pst n a b ms T N 1048576 i : Nat) : Int), (i : Int)) = some (msgN n a b ms T N 1048576 N) := by
    intro k
    induction k with
    | zero =>
      intro i hi
      obtain rfl : i = N := by omega
      apply loop_done
      simp only [f_hard_Path.s4, f_hard_Path.s4c]
      rw [half_ok h, many_ok h, if_neg (by simp)]
      congr 2
      unfold msgN
      apply List.map_congr_left
      intro t ht
      rw [if_pos (by simpa using ht), hB]
    | succ k ih =>
      intro i hi
      rw [← ih (i + 1) (by omega)]
      apply loop_step
      have hs := pst_lt h.toCodeOK ms T N 1048576 i
      obtain ⟨s, hse⟩ : ∃ s, s = pst n a b ms T N 1048576 i := ⟨_, rfl⟩
      rw [← hse] at hs ⊢
      have e2t : IntKind.i64.wrap (2 * (i : Int)) = ((2 * i : Nat) : Int) := by rw [w64 (by omega) (by omega)]; omega
      have et1 : IntKind.i64.wrap ((i : Int) + 1) = ((i + 1 : Nat) : Int) := by rw [w64 (by omega) (by omega)]; rfl
      have n0 := nx_lt h.toCodeOK hs false
      have n1 := nx_lt h.toCodeOK hs true
      have hs0 := hstep_at h.toCodeOK hs false ms i (by omega)
      have hs1 := hstep_at h.toCodeOK hs true ms i (by omega)
      simp only [Bool.false_eq_true, if_false] at hs0
      simp only [if_true] at hs1
      have g1 : gt (gt (tab T (Gk n a b ms T N T)) ((i + 1 : Nat) : Int)) ((nx n s false : Nat) : Int) = ((D n a b ms T N 1048576 (T - (i + 1)) (nx n s false) : Nat) : Int) := by
        rw [tab_get (by omega) (by omega)]; simp only [Gk]; rw [if_pos ⟨by omega, by omega, n0⟩]
      have g2 : gt (gt (tab T (Gk n a b ms T N T)) (i : Int)) (s : Int) = ((D n a b ms T N 1048576 (T - i) s : Nat) : Int) := by
        rw [tab_get (by omega) (by omega)]; simp only [Gk]; rw [if_pos ⟨by omega, by omega, hs⟩]
      have hDl := D_le n a b ms T N 1048576 (T - (i + 1)) (nx n s false)
      have hcl := cst_le n a b ms i s false
      have hbit : ((IntKind.i32.wrap (((cst n a b ms i s false : Nat) : Int) + ((D n a b ms T N 1048576 (T - (i + 1)) (nx n s false) : Nat) : Int))) != ((D n a b ms T N 1048576 (T - i) s : Nat) : Int)) = B i := by
        rw [w32s (by omega) (by omega), hB]
        simp only [← hse, bitOf]
        rw [Bool.eq_iff_iff, bne_iff_ne, decide_eq_true_eq]
        constructor <;> intro h9 h10 <;> apply h9 <;> omega
      have hset : ((List.range N).map (fun t => if t < i then B t else false)).set i (B i) = (List.range N).map (fun t => if t < i + 1 then B t else false) := by
        apply List.ext_getElem
        · simp
        · intro j j1 j2
          simp only [List.getElem_set, List.getElem_map, List.getElem_range]
          by_cases hji : i = j
          · subst hji; simp
          · rw [if_neg hji]
            by_cases hlt : j < i
            · rw [if_pos hlt, if_pos (by omega)]
            · rw [if_neg hlt, if_neg (by omega)]
      have hget : gt ((List.range N).map (fun t => if t < i + 1 then B t else false)) (i : Int) = B i := by
        rw [gt_nat (by simp; omega)]; simp
      have hps : pst n a b ms T N 1048576 (i + 1) = nx n s (B i) := by
        rw [hB]; simp only [pst, ← hse]
      simp only [f_hard_Path.s4, f_hard_Path.s4c]
      rw [half_ok h, many_ok h, e2t, et1, if_pos (by simp; omega), if_pos (by omega), Int.toNat_natCast, hs0]
      simp only [Option.bind_some, tab_len]
      rw [if_pos (by omega), if_pos (by omega), if_pos (by omega), if_pos (by omega), if_pos (by simp; omega), g1, g2, hbit, Int.toNat_natCast, hset, if_pos (by simp; omega), hget, hps]
      cases hBi : B i with
      | false => rw [if_neg (by simp)]
      | true => rw [if_pos rfl, if_pos (by omega), hs1]; rfl
  have := key N 0 (by omega)
  rw [show ((0 : Nat) : Int) = 0 from rfl] at this
  refine Eq.trans (congrArg (fun x => loop _ (x, (0 : Int), (0 : Int))) ?_) this
  apply List.ext_getElem
  · simp
  · intro j j1 j2; simp
theorem path_ok (h : Fit n a b ms T N) : f_hard_Path (n : Int) (a : Int) (b : Int) ms = some (msgN n a b ms T N 1048576 N, ((D n a b ms T N 1048576 T 0 : Nat) : Int), 0) := by
  have hp := pow_le_of h.toCodeOK
  have h1 := h.n2; have h2 := h.n7; have h3 := h.len; have h4 := h.tn; have h5 := h.max
  have ht1 : IntKind.i64.wrap ((T : Int) + 1) = ((T + 1 : Nat) : Int) := by rw [w64 (by omega) (by omega)]; rfl
  have hDl := D_le n a b ms T N 1048576 T 0
  unfold f_hard_Path
  rw [fits_ok h]
  simp only [Option.bind_some]
  rw [if_neg (by simp), half_ok h, many_ok h, ht1, w64 (x := (n : Int) - 1) (by omega) (by omega), if_pos (by omega), if_pos (by omega), Int.toNat_natCast, tab_zero, path_s1 h]
  simp only [Option.bind_some]
  rw [tab_len, if_pos (by omega), Int.toNat_natCast, show ((0 : Int)).toNat = 0 from rfl, tab_set _ (Nat.le_refl _) (by omega), w64 (x := (T : Int) - 1) (by omega) (by omega)]
  have e0 : tab T (upd (fun t s => if t = T ∧ s < 2 ^ (n - 1) then 1048576 else 0) T 0 0) = tab T (Gk n a b ms T N 0) := by
    obtain ⟨q, p1, p2, q1, q2, _⟩ := h.pq
    apply tab_congr
    intro t s ht hs
    simp only [upd, Gk]
    by_cases hh : t = T ∧ s = 0
    · rw [if_pos hh, if_pos (by omega), hh.1, hh.2]; simp [D]
    · rw [if_neg hh]
      by_cases hh2 : t = T ∧ s < 2 ^ (n - 1)
      · rw [if_pos hh2, if_pos (by omega), hh2.1]; simp only [Nat.sub_self, D]; rw [if_neg (by omega)]; rfl
      · rw [if_neg hh2, if_neg (by omega)]
  rw [e0, path_s2 h]
  simp only [Option.bind_some]
  rw [if_pos (by omega), Int.toNat_natCast, path_s4 h]
  simp only [Option.bind_some, tab_len]
  rw [if_pos (by omega)]
  have g0 : gt (gt (tab T (Gk n a b ms T N T)) 0) 0 = ((D n a b ms T N 1048576 T 0 : Nat) : Int) := by
    have := tab_get (f := Gk n a b ms T N T) (T := T) (t := 0) (s := 0) (by omega) (by omega)
    rw [show ((0 : Nat) : Int) = 0 from rfl] at this
    rw [this]
    simp only [Gk]
    obtain ⟨q, p1, p2, q1, q2, _⟩ := h.pq
    rw [if_pos ⟨by omega, by omega, by omega⟩, Nat.sub_zero]
  rw [g0, w64 (by omega) (by omega)]
end
def bitAt (l : List Bool) (i : Nat) : Bool := if i < l.length then gt l (i : Int) else false
def st (n : Nat) (l : List Bool) : Nat → Nat
  | 0 => 0
  | i + 1 => nx n (st n l i) (bitAt l i)
theorem st_lt {n a b : Nat} (h : CodeOK n a b) (l : List Bool) : ∀ i, st n l i < 2 ^ (n - 1)
  | 0 => by obtain ⟨q, p1, _, q1, _⟩ := h.pq; rw [p1]; simp only [st]; omega
  | i + 1 => nx_lt h (st_lt h l i) _
theorem st_down (n : Nat) (l : List Bool) : ∀ k, st n l (l.length + k) * 2 ^ k ≤ st n l l.length
  | 0 => by simp
  | k + 1 => by
    have ih := st_down n l k
    have : st n l (l.length + (k + 1)) = st n l (l.length + k) / 2 := by
      show nx n (st n l (l.length + k)) (bitAt l (l.length + k)) = _
      have : bitAt l (l.length + k) = false := by unfold bitAt; rw [if_neg (by omega)]
      rw [this]; simp [nx, al]
    rw [this, Nat.pow_succ, Nat.mul_comm (2 ^ k) 2, ← Nat.mul_assoc]
    exact Nat.le_trans (Nat.mul_le_mul_right _ (Nat.div_mul_le_self _ 2)) ih
theorem st_end {n a b : Nat} (h : CodeOK n a b) (l : List Bool) : st n l (l.length + (n - 1)) = 0 := by
  have h1 := st_down n l (n - 1)
  have h2 := st_lt h l l.length
  rcases Nat.eq_zero_or_pos (st n l (l.length + (n - 1))) with h0 | h0
  · exact h0
  · have := Nat.mul_le_mul_right (2 ^ (n - 1)) h0
    simp only [Nat.one_mul, Nat.succ_eq_add_one, Nat.zero_add] at this
    omega
theorem bit_read {l : List Bool} (i : Nat) : (if (decide ((i : Int) < (l.length : Int))) = true then (if 0 ≤ (i : Int) ∧ (i : Int) < (l.length : Int) then (some (gt l (i : Int))) else none) else (some false)) = some (bitAt l i) := by
  unfold bitAt
  by_cases h : i < l.length
  · rw [if_pos (by simpa using h), if_pos (by omega), if_pos h]
  · rw [if_neg (by simpa using h), if_neg h]
def cs (n a b : Nat) (ms : List Int) (l : List Bool) : Nat → Nat
  | 0 => 0
  | t + 1 => cs n a b ms l t + cst n a b ms t (st n l t) (bitAt l t)
theorem cs_le (n a b : Nat) (ms : List Int) (l : List Bool) : ∀ t, cs n a b ms l t ≤ 2 * t
  | 0 => by simp [cs]
  | t + 1 => by have := cs_le n a b ms l t; have := cst_le n a b ms t (st n l t) (bitAt l t); simp only [cs]; omega
theorem cost_loop {n a b T N : Nat} {ms : List Int} (h : Fit n a b ms T N) (l : List Bool) : loop (f_hard_Cost.s1 (n : Int) (a : Int) (b : Int) l ms) (0, 0, 0) = some ((cs n a b ms l T : Nat) : Int) := by
  have h1 := h.n2; have h2 := h.n7; have h3 := h.len; have h4 := h.tn; have h5 := h.max
  have key : ∀ k i : Nat, i + k = T → loop (f_hard_Cost.s1 (n : Int) (a : Int) (b : Int) l ms) (((st n l i : Nat) : Int), ((cs n a b ms l i : Nat) : Int), (i : Int)) = some ((cs n a b ms l T : Nat) : Int) := by
    intro k
    induction k with
    | zero =>
      intro i hi
      obtain rfl : i = T := by omega
      apply loop_done
      simp only [f_hard_Cost.s1, f_hard_Cost.s1c]
      rw [half_ok h, if_neg (by simp)]
    | succ k ih =>
      intro i hi
      rw [← ih (i + 1) (by omega)]
      apply loop_step
      have hs := st_lt h.toCodeOK l i
      have hcs := cs_le n a b ms l i
      have hcl := cst_le n a b ms i (st n l i) (bitAt l i)
      have e2t : IntKind.i64.wrap (2 * (i : Int)) = ((2 * i : Nat) : Int) := by rw [w64 (by omega) (by omega)]; omega
      have et1 : IntKind.i64.wrap ((i : Int) + 1) = ((i + 1 : Nat) : Int) := by rw [w64 (by omega) (by omega)]; rfl
      have hst := hstep_at h.toCodeOK hs (bitAt l i) ms i (by omega)
      have ec : IntKind.i32.wrap (((cs n a b ms l i : Nat) : Int) + ((cst n a b ms i (st n l i) (bitAt l i) : Nat) : Int)) = ((cs n a b ms l (i + 1) : Nat) : Int) := by
        rw [w32s (by omega) (by omega)]; rfl
      simp only [f_hard_Cost.s1, f_hard_Cost.s1c, f_hard_Cost.j1]
      rw [half_ok h, if_pos (by rw [decide_eq_true_eq]; omega), bit_read]
      simp only [Option.bind_some]
      rw [e2t, et1]
      have hnx : nx n (st n l i) (bitAt l i) = st n l (i + 1) := rfl
      rw [← hnx]
      cases hb : bitAt l i with
      | false =>
        rw [hb] at hst ec
        simp only [Bool.false_eq_true, if_false] at hst ⊢
        rw [if_pos (by omega), Int.toNat_natCast, hst]
        simp only [Option.bind_some]
        rw [ec]
      | true =>
        rw [hb] at hst ec
        simp only [if_true] at hst ⊢
        rw [if_pos (by omega), Int.toNat_natCast, hst]
        simp only [Option.bind_some]
        rw [ec]
  exact key T 0 (by omega)
theorem cost_ok {n a b T N : Nat} {ms : List Int} (h : Fit n a b ms T N) (l : List Bool) (hl : l.length = N) : f_hard_Cost (n : Int) (a : Int) (b : Int) l ms = some (((cs n a b ms l T : Nat) : Int), 0) := by
  have h5 := h.max
  have hcs := cs_le n a b ms l T
  unfold f_hard_Cost
  rw [fits_ok h]
  simp only [Option.bind_some]
  rw [half_ok h, many_ok h, if_neg (by simp [hl]), cost_loop h l]
  simp only [Option.bind_some]
  rw [w64 (by omega) (by omega)]
section
variable {n a b T N : Nat} {ms : List Int}
theorem bitAt_big {l : List Bool} {i : Nat} (h : l.length ≤ i) : bitAt l i = false := by unfold bitAt; rw [if_neg (by omega)]
theorem bitAt_lt {l : List Bool} {i : Nat} (h : i < l.length) : bitAt l i = gt l (i : Int) := by unfold bitAt; rw [if_pos h]
theorem D_step (F : Nat) {t : Nat} (ht : t < T) (s : Nat) (c : Bool) (hc : N ≤ t → c = false) : D n a b ms T N F (T - t) s ≤ cst n a b ms t s c + D n a b ms T N F (T - (t + 1)) (nx n s c) := by
  have e : T - t = (T - (t + 1)) + 1 := by omega
  rw [e]
  simp only [D]
  rw [show T - (T - (t + 1) + 1) = t by omega]
  by_cases h : t < N
  · rw [if_pos h]
    cases c with
    | false => exact Nat.min_le_left _ _
    | true => exact Nat.min_le_right _ _
  · rw [if_neg h, hc (by omega)]; exact Nat.le_refl _
theorem D_up (F : Nat) (l : List Bool) (hl : l.length = N) {t : Nat} (ht : t < T) :
    D n a b ms T N F (T - t) (st n l t) + cs n a b ms l t ≤ D n a b ms T N F (T - (t + 1)) (st n l (t + 1)) + cs n a b ms l (t + 1) := by
  have h1 := D_step (n := n) (a := a) (b := b) (ms := ms) (N := N) F ht (st n l t) (bitAt l t) (fun h => bitAt_big (by omega))
  simp only [cs]
  have h2 : nx n (st n l t) (bitAt l t) = st n l (t + 1) := rfl
  rw [h2] at h1
  omega
theorem D_mono (F : Nat) (l : List Bool) (hl : l.length = N) : ∀ k t, t + k ≤ T → D n a b ms T N F (T - t) (st n l t) + cs n a b ms l t ≤ D n a b ms T N F (T - (t + k)) (st n l (t + k)) + cs n a b ms l (t + k)
  | 0, t, _ => Nat.le_refl _
  | k + 1, t, h => by
    have h1 := D_mono F l hl k t (by omega)
    have h2 := D_up (n := n) (a := a) (b := b) (ms := ms) F l hl (show t + k < T by omega)
    rw [Nat.add_assoc] at h2
    exact Nat.le_trans h1 h2
theorem D_end (h : Fit n a b ms T N) (F : Nat) (l : List Bool) (hl : l.length = N) : D n a b ms T N F (T - T) (st n l T) + cs n a b ms l T = cs n a b ms l T := by
  have : st n l T = 0 := by have := st_end h.toCodeOK l; rw [hl, ← h.tn] at this; exact this
  rw [this, Nat.sub_self]; simp [D]
theorem cs_ge (h : Fit n a b ms T N) (F : Nat) (l : List Bool) (hl : l.length = N) : D n a b ms T N F T 0 ≤ cs n a b ms l T := by
  have h1 := D_mono (n := n) (a := a) (b := b) (ms := ms) (T := T) (N := N) F l hl T 0 (by omega)
  rw [Nat.zero_add, D_end h F l hl] at h1
  simpa [st, cs] using h1
theorem msgN_len (F M : Nat) : (msgN n a b ms T N F M).length = M := by simp [msgN]
theorem msgN_get (F M : Nat) {t : Nat} (ht : t < M) : gt (msgN n a b ms T N F M) (t : Int) = bitOf n a b ms T N F t (pst n a b ms T N F t) := by
  rw [gt_nat (by rw [msgN_len]; exact ht)]; simp [msgN]
theorem msgN_st (F : Nat) : ∀ t, t ≤ N → st n (msgN n a b ms T N F N) t = pst n a b ms T N F t
  | 0, _ => rfl
  | t + 1, h => by
    have ih := msgN_st F t (by omega)
    simp only [st, pst]
    rw [ih, bitAt_lt (by rw [msgN_len]; omega), msgN_get F N (by omega)]
theorem D_eq (h : Fit n a b ms T N) (F : Nat) {t : Nat} (ht : t < T) :
    D n a b ms T N F (T - t) (st n (msgN n a b ms T N F N) t) = cst n a b ms t (st n (msgN n a b ms T N F N) t) (bitAt (msgN n a b ms T N F N) t) + D n a b ms T N F (T - (t + 1)) (st n (msgN n a b ms T N F N) (t + 1)) := by
  have e : T - t = (T - (t + 1)) + 1 := by omega
  have hst : st n (msgN n a b ms T N F N) (t + 1) = nx n (st n (msgN n a b ms T N F N) t) (bitAt (msgN n a b ms T N F N) t) := rfl
  have hD : ∀ s, D n a b ms T N F (T - t) s = if t < N then min (cst n a b ms t s false + D n a b ms T N F (T - (t + 1)) (nx n s false)) (cst n a b ms t s true + D n a b ms T N F (T - (t + 1)) (nx n s true)) else cst n a b ms t s false + D n a b ms T N F (T - (t + 1)) (nx n s false) := fun s => by
    rw [e]; simp only [D]; rw [show T - (T - (t + 1) + 1) = t by omega]
  by_cases hN : t < N
  · have hb : bitAt (msgN n a b ms T N F N) t = bitOf n a b ms T N F t (st n (msgN n a b ms T N F N) t) := by
      rw [bitAt_lt (by rw [msgN_len]; omega), msgN_get F N hN, msgN_st F t (by omega)]
    rw [hst, hb]
    generalize st n (msgN n a b ms T N F N) t = s
    have hs := hD s
    rw [if_pos hN] at hs
    unfold bitOf
    by_cases hx : cst n a b ms t s false + D n a b ms T N F (T - (t + 1)) (nx n s false) = D n a b ms T N F (T - t) s
    · rw [decide_eq_false (by omega)]; exact hx.symm
    · rw [decide_eq_true (by omega), hs]; rw [hs] at hx; omega
  · rw [hst, bitAt_big (by rw [msgN_len]; omega), hD, if_neg hN]
theorem cs_msg (h : Fit n a b ms T N) (F : Nat) : cs n a b ms (msgN n a b ms T N F N) T = D n a b ms T N F T 0 := by
  have key : ∀ t, t ≤ T → D n a b ms T N F (T - t) (st n (msgN n a b ms T N F N) t) + cs n a b ms (msgN n a b ms T N F N) t = D n a b ms T N F T 0 := by
    intro t
    induction t with
    | zero => intro _; simp [st, cs]
    | succ t ih =>
      intro ht
      have h1 := ih (by omega)
      rw [D_eq h F (by omega)] at h1
      simp only [cs]
      omega
  have := key T (Nat.le_refl _)
  rw [D_end h F _ (msgN_len F N)] at this
  exact this
end

end HD
end Go.Proofs.YtgdhjjdgghilhaaGreat
