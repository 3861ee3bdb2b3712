/- HardLeast: the plain law. -/
import Derived.Test.YthajdlihjobcoaaU5
set_option linter.unusedVariables false
set_option linter.unusedSimpArgs false
set_option maxRecDepth 8000
namespace Go.Proofs.Ythajdlihjobcoaa
open GL

/-! ### None costs less -/
section
variable {n a b T N : Nat} {ms : List Int}
theorem bitAt_big {l : List Bool} {i : Nat} (h : l.length ≤ i) : bitAt l i = false := by unfold bitAt; rw [if_neg (by omega)]
theorem bitAt_lt {l : List Bool} {i : Nat} (h : i < l.length) : bitAt l i = gt l (i : Int) := by unfold bitAt; rw [if_pos h]
theorem D_step (F : Nat) {t : Nat} (ht : t < T) (s : Nat) (c : Bool) (hc : N ≤ t → c = false) : D n a b ms T N F (T - t) s ≤ cst n a b ms t s c + D n a b ms T N F (T - (t + 1)) (nx n s c) := by
  have e : T - t = (T - (t + 1)) + 1 := by omega
  rw [e]
  simp only [D]
  rw [show T - (T - (t + 1) + 1) = t by omega]
  by_cases h : t < N
  · rw [if_pos h]
    cases c with
    | false => exact Nat.min_le_left _ _
    | true => exact Nat.min_le_right _ _
  · rw [if_neg h, hc (by omega)]; exact Nat.le_refl _
theorem D_up (F : Nat) (l : List Bool) (hl : l.length = N) {t : Nat} (ht : t < T) :
    D n a b ms T N F (T - t) (st n l t) + cs n a b ms l t ≤ D n a b ms T N F (T - (t + 1)) (st n l (t + 1)) + cs n a b ms l (t + 1) := by
  have h1 := D_step (n := n) (a := a) (b := b) (ms := ms) (N := N) F ht (st n l t) (bitAt l t) (fun h => bitAt_big (by omega))
  simp only [cs]
  have h2 : nx n (st n l t) (bitAt l t) = st n l (t + 1) := rfl
  rw [h2] at h1
  omega
theorem D_mono (F : Nat) (l : List Bool) (hl : l.length = N) : ∀ k t, t + k ≤ T → D n a b ms T N F (T - t) (st n l t) + cs n a b ms l t ≤ D n a b ms T N F (T - (t + k)) (st n l (t + k)) + cs n a b ms l (t + k)
  | 0, t, _ => Nat.le_refl _
  | k + 1, t, h => by
    have h1 := D_mono F l hl k t (by omega)
    have h2 := D_up (n := n) (a := a) (b := b) (ms := ms) F l hl (show t + k < T by omega)
    rw [Nat.add_assoc] at h2
    exact Nat.le_trans h1 h2
theorem D_end (h : Fit n a b ms T N) (F : Nat) (l : List Bool) (hl : l.length = N) : D n a b ms T N F (T - T) (st n l T) + cs n a b ms l T = cs n a b ms l T := by
  have : st n l T = 0 := by have := st_end h.toCodeOK l; rw [hl, ← h.tn] at this; exact this
  rw [this, Nat.sub_self]; simp [D]
/-- no message costs less -/
theorem cs_ge (h : Fit n a b ms T N) (F : Nat) (l : List Bool) (hl : l.length = N) : D n a b ms T N F T 0 ≤ cs n a b ms l T := by
  have h1 := D_mono (n := n) (a := a) (b := b) (ms := ms) (T := T) (N := N) F l hl T 0 (by omega)
  rw [Nat.zero_add, D_end h F l hl] at h1
  simpa [st, cs] using h1
theorem msgN_len (F M : Nat) : (msgN n a b ms T N F M).length = M := by simp [msgN]
theorem msgN_get (F M : Nat) {t : Nat} (ht : t < M) : gt (msgN n a b ms T N F M) (t : Int) = bitOf n a b ms T N F t (pst n a b ms T N F t) := by
  rw [gt_nat (by rw [msgN_len]; exact ht)]; simp [msgN]
theorem msgN_st (F : Nat) : ∀ t, t ≤ N → st n (msgN n a b ms T N F N) t = pst n a b ms T N F t
  | 0, _ => rfl
  | t + 1, h => by
    have ih := msgN_st F t (by omega)
    simp only [st, pst]
    rw [ih, bitAt_lt (by rw [msgN_len]; omega), msgN_get F N (by omega)]
/-- the told one's cost is the least -/
theorem D_eq (h : Fit n a b ms T N) (F : Nat) {t : Nat} (ht : t < T) :
    D n a b ms T N F (T - t) (st n (msgN n a b ms T N F N) t) = cst n a b ms t (st n (msgN n a b ms T N F N) t) (bitAt (msgN n a b ms T N F N) t) + D n a b ms T N F (T - (t + 1)) (st n (msgN n a b ms T N F N) (t + 1)) := by
  have e : T - t = (T - (t + 1)) + 1 := by omega
  have hst : st n (msgN n a b ms T N F N) (t + 1) = nx n (st n (msgN n a b ms T N F N) t) (bitAt (msgN n a b ms T N F N) t) := rfl
  have hD : ∀ s, D n a b ms T N F (T - t) s = if t < N then min (cst n a b ms t s false + D n a b ms T N F (T - (t + 1)) (nx n s false)) (cst n a b ms t s true + D n a b ms T N F (T - (t + 1)) (nx n s true)) else cst n a b ms t s false + D n a b ms T N F (T - (t + 1)) (nx n s false) := fun s => by
    rw [e]; simp only [D]; rw [show T - (T - (t + 1) + 1) = t by omega]
  by_cases hN : t < N
  · have hb : bitAt (msgN n a b ms T N F N) t = bitOf n a b ms T N F t (st n (msgN n a b ms T N F N) t) := by
      rw [bitAt_lt (by rw [msgN_len]; omega), msgN_get F N hN, msgN_st F t (by omega)]
    rw [hst, hb]
    generalize st n (msgN n a b ms T N F N) t = s
    have hs := hD s
    rw [if_pos hN] at hs
    unfold bitOf
    by_cases hx : cst n a b ms t s false + D n a b ms T N F (T - (t + 1)) (nx n s false) = D n a b ms T N F (T - t) s
    · rw [decide_eq_false (by omega)]; exact hx.symm
    · rw [decide_eq_true (by omega), hs]; rw [hs] at hx; omega
  · rw [hst, bitAt_big (by rw [msgN_len]; omega), hD, if_neg hN]
theorem cs_msg (h : Fit n a b ms T N) (F : Nat) : cs n a b ms (msgN n a b ms T N F N) T = D n a b ms T N F T 0 := by
  have key : ∀ t, t ≤ T → D n a b ms T N F (T - t) (st n (msgN n a b ms T N F N) t) + cs n a b ms (msgN n a b ms T N F N) t = D n a b ms T N F T 0 := by
    intro t
    induction t with
    | zero => intro _; simp [st, cs]
    | succ t ih =>
      intro ht
      have h1 := ih (by omega)
      rw [D_eq h F (by omega)] at h1
      simp only [cs]
      omega
  have := key T (Nat.le_refl _)
  rw [D_end h F _ (msgN_len F N)] at this
  exact this
/-- of as cheap ones it is the least -/
theorem first_diff (h : Fit n a b ms T N) (F : Nat) (l : List Bool) (hl : l.length = N) (hc : cs n a b ms l T = D n a b ms T N F T 0) {t : Nat} (ht : t < N)
    (hsame : ∀ j, j < t → gt l (j : Int) = gt (msgN n a b ms T N F N) (j : Int)) (hd : gt l (t : Int) ≠ gt (msgN n a b ms T N F N) (t : Int)) : gt (msgN n a b ms T N F N) (t : Int) = false := by
  have hTN := h.tn
  have hst : ∀ j, j ≤ t → st n l j = st n (msgN n a b ms T N F N) j := by
    intro j
    induction j with
    | zero => intro _; rfl
    | succ j ih =>
      intro hj
      simp only [st]
      rw [ih (by omega), bitAt_lt (by omega), bitAt_lt (by rw [msgN_len]; omega), hsame j (by omega)]
  -- along l nothing is lost
  have h1 := D_mono (n := n) (a := a) (b := b) (ms := ms) (T := T) (N := N) F l hl t 0 (by omega)
  have h2 := D_up (n := n) (a := a) (b := b) (ms := ms) F l hl (show t < T by omega)
  have h3 := D_mono (n := n) (a := a) (b := b) (ms := ms) (T := T) (N := N) F l hl (T - (t + 1)) (t + 1) (by omega)
  rw [show t + 1 + (T - (t + 1)) = T by omega, D_end h F l hl, hc] at h3
  simp only [Nat.zero_add, Nat.sub_zero, st, cs, Nat.add_zero] at h1
  have h4 : D n a b ms T N F (T - t) (st n l t) = cst n a b ms t (st n l t) (bitAt l t) + D n a b ms T N F (T - (t + 1)) (nx n (st n l t) (bitAt l t)) := by
    have h5 := D_step (n := n) (a := a) (b := b) (ms := ms) (N := N) F (show t < T by omega) (st n l t) (bitAt l t) (fun h => by omega)
    have h6 : nx n (st n l t) (bitAt l t) = st n l (t + 1) := rfl
    rw [h6] at h5 ⊢
    simp only [cs] at h2 h3
    omega
  cases hm : gt (msgN n a b ms T N F N) (t : Int) with
  | false => rfl
  | true =>
    exfalso
    have hlf : gt l (t : Int) = false := by rw [hm] at hd; cases hh : gt l (t : Int) <;> simp_all
    rw [bitAt_lt (by omega), hlf, hst t (Nat.le_refl _), msgN_st F t (by omega)] at h4
    rw [msgN_get F N ht] at hm
    unfold bitOf at hm
    rw [decide_eq_true_eq] at hm
    exact hm h4.symm
theorem less_false (l m : List Bool) (hl : l.length = m.length) (hb : l.length < 140737488351233) (h : ∀ t, t < l.length → (∀ j, j < t → gt l (j : Int) = gt m (j : Int)) → gt l (t : Int) ≠ gt m (t : Int) → gt m (t : Int) = false) : f_foghornlaw22_less l m = some false := by
  have key : ∀ k i : Nat, i + k = l.length → (∀ j, j < i → gt l (j : Int) = gt m (j : Int)) → ∃ r, loop (f_foghornlaw22_less.s1 l m) (i : Int) = some r ∧ (r = .inl () ∨ r = .inr false) := by
    intro k
    induction k with
    | zero =>
      intro i hi hj
      refine ⟨_, loop_done (r := .inl ()) ?_, .inl rfl⟩
      simp only [f_foghornlaw22_less.s1, f_foghornlaw22_less.s1c]
      rw [if_neg (by rw [decide_eq_true_eq]; omega)]
    | succ k ih =>
      intro i hi hj
      by_cases hd : gt l (i : Int) = gt m (i : Int)
      · obtain ⟨r, h1, h2⟩ := ih (i + 1) (by omega) (fun j hj' => by
          by_cases hji : j < i
          · exact hj j hji
          · obtain rfl : j = i := by omega
            exact hd)
        refine ⟨r, ?_, h2⟩
        rw [← h1]
        apply loop_step
        simp only [f_foghornlaw22_less.s1, f_foghornlaw22_less.s1c]
        rw [if_pos (by rw [decide_eq_true_eq]; omega), if_pos (by omega), if_pos (by omega), if_neg (by simp [hd]), w64 (by omega) (by omega)]
        rfl
      · refine ⟨_, loop_done (r := .inr false) ?_, .inr rfl⟩
        simp only [f_foghornlaw22_less.s1, f_foghornlaw22_less.s1c]
        rw [if_pos (by rw [decide_eq_true_eq]; omega), if_pos (by omega), if_pos (by omega), if_pos (by simpa using hd), if_pos (by omega), h i (by omega) hj hd]
  obtain ⟨r, h1, h2⟩ := key l.length 0 (by omega) (fun j hj => by omega)
  rw [show ((0 : Nat) : Int) = 0 from rfl] at h1
  unfold f_foghornlaw22_less
  rw [h1]
  rcases h2 with rfl | rfl <;> rfl
end

/-! ### A code out of any numbers -/
theorem u64_nat (x : Int) : ∃ m : Nat, IntKind.u64.wrap x = (m : Int) ∧ m < 18446744073709551616 := by
  refine ⟨(IntKind.u64.wrap x).toNat, ?_, ?_⟩ <;> simp [IntKind.wrap, IntKind.bits, IntKind.signed, IntKind.min, IntKind.max] <;> omega
theorem fit_ok {length one two : Int} (w1 : (Lit.int .u32 one).wf = true) (w2 : (Lit.int .u32 two).wf = true) :
    ∃ n a b : Nat, CodeOK n a b ∧ f_foghornlaw22_fit length one two = some ((n : Int), (a : Int), (b : Int)) := by
  have b1 := wf_u32 w1
  have b2 := wf_u32 w2
  obtain ⟨m, hm, hmb⟩ := u64_nat length
  obtain ⟨x, hx⟩ : ∃ m : Nat, one = (m : Int) := ⟨one.toNat, by omega⟩
  obtain ⟨y, hy⟩ : ∃ m : Nat, two = (m : Int) := ⟨two.toNat, by omega⟩
  subst hx hy
  have en : IntKind.i64.wrap (2 + IntKind.i64.wrap ((IntKind.u64.wrap length).tmod 6)) = ((m % 6 + 2 : Nat) : Int) := by
    rw [hm, show (6 : Int) = ((6 : Nat) : Int) from rfl, tmod_nat, w64 (x := ((m % 6 : Nat) : Int)) (by omega) (by omega), w64 (by omega) (by omega)]; omega
  obtain ⟨n, hn⟩ : ∃ n, n = m % 6 + 2 := ⟨_, rfl⟩
  have h2 : 2 ≤ n := by omega
  have h7 : n ≤ 7 := by omega
  obtain ⟨q, p1, p2, q1, q2⟩ : ∃ q, 2 ^ (n - 1) = 2 * q ∧ 2 ^ n = 4 * q ∧ 1 ≤ q ∧ q ≤ 32 := by
    have : n = 2 ∨ n = 3 ∨ n = 4 ∨ n = 5 ∨ n = 6 ∨ n = 7 := by omega
    refine ⟨2 ^ (n - 2), ?_⟩
    rcases this with h | h | h | h | h | h <;> rw [h] <;> decide
  have et : IntKind.u32.wrap (ishl .u32 (1 : Int) ((n : Nat) : Int) - 1) = ((2 ^ n - 1 : Nat) : Int) := by
    rw [show ishl .u32 (1 : Int) ((n : Nat) : Int) = ((2 ^ n : Nat) : Int) by rw [show ((1 : Int)) = ((1 : Nat) : Int) from rfl, ishl32 (by omega) (by omega), Nat.one_mul], w32 (by omega) (by omega)]; omega
  have et2 : ishl .u32 (1 : Int) (IntKind.i64.wrap (((n : Nat) : Int) - 1)) = ((2 ^ (n - 1) : Nat) : Int) := by
    rw [w64 (by omega) (by omega), show (n : Int) - 1 = ((n - 1 : Nat) : Int) by omega, show ((1 : Int)) = ((1 : Nat) : Int) from rfl, ishl32 (by omega) (by omega), Nat.one_mul]
  have m1 := Nat.mod_lt x (show 0 < 2 ^ n by omega)
  have m2 := Nat.mod_lt y (show 0 < 2 ^ n by omega)
  have e4 : iand .u32 (x : Int) ((2 ^ n - 1 : Nat) : Int) = ((x % 2 ^ n : Nat) : Int) := by rw [iand32 (by omega) (by omega), Nat.and_two_pow_sub_one_eq_mod]
  have e5 : iand .u32 (y : Int) ((2 ^ n - 1 : Nat) : Int) = ((y % 2 ^ n : Nat) : Int) := by rw [iand32 (by omega) (by omega), Nat.and_two_pow_sub_one_eq_mod]
  have hw : IntKind.i64.wrap ((n : Int) - 1) = ((n - 1 : Nat) : Int) := by rw [w64 (by omega) (by omega)]; omega
  obtain ⟨u, hu⟩ : ∃ u, u = x % 2 ^ n := ⟨_, rfl⟩
  obtain ⟨z, hz⟩ : ∃ z, z = y % 2 ^ n := ⟨_, rfl⟩
  rw [← hu] at m1 e4
  rw [← hz] at m2 e5
  have ho1 : 2 ^ (n - 1) ≤ u ||| 2 ^ (n - 1) := Nat.right_le_or
  have ho2 : u ||| 2 ^ (n - 1) < 2 ^ n := Nat.or_lt_two_pow m1 (by omega)
  unfold f_foghornlaw22_fit
  rw [en, ← hn, et, et2, e4, e5, hw, if_pos (by omega), if_pos (by omega), ior32 (by omega) (by omega)]
  by_cases h0 : z = 0
  · rw [if_pos (by simp [h0])]
    exact ⟨n, u ||| 2 ^ (n - 1), 1, ⟨h2, h7, by omega, by omega, ho2, by omega, by omega⟩, rfl⟩
  · rw [if_neg (by simpa using h0)]
    exact ⟨n, u ||| 2 ^ (n - 1), z, ⟨h2, h7, by omega, by omega, ho2, m2, by omega⟩, rfl⟩

/-! ### The law -/
theorem least_in (l : List Int) (hg : ∀ x ∈ l, (Lit.int .u8 x).wf = true) (hl : l.length * 1 ≤ 140737488351232) : ∃ r, loop (f_foghornlaw22_HardLeast.s1 l) ([], 0) = some r ∧ (r.length ≤ 3000 ∧ ∀ m ∈ r, 0 ≤ m ∧ m ≤ 2) := by
  refine loop_inv (f := f_foghornlaw22_HardLeast.s1 l) (fun s => (s.1.length : Int) = s.2 ∧ s.1.length ≤ 3000 ∧ ∀ m ∈ s.1, 0 ≤ m ∧ m ≤ 2) (fun s => 3000 - s.1.length) _ ?_ ([], 0) ⟨by simp, by simp, by simp⟩
  rintro ⟨xs, i⟩ ⟨h1, h2, h3⟩
  simp only at h1 h2 h3
  simp only [f_foghornlaw22_HardLeast.s1, f_foghornlaw22_HardLeast.s1c]
  by_cases hc : i < (l.length : Int) ∧ i < 3000
  · left
    refine ⟨(xs ++ [(gt l i).tmod 3], i + 1), ?_, ⟨by simp; omega, by simp; omega, ?_⟩, by simp; omega⟩
    · rw [if_pos (by simpa using hc), if_pos (by omega), if_pos (by simp; omega), w64 (by omega) (by omega)]
    · intro m hm
      rcases List.mem_append.1 hm with h | h
      · exact h3 m h
      · simp at h; subst h
        have := wf_u8 (hg _ (gt_mem (show 0 ≤ i by omega) hc.1))
        rw [Int.tmod_eq_emod_of_nonneg this.1]; omega
  · right
    refine ⟨xs, ?_, h2, h3⟩
    rw [if_neg (by simpa using hc)]
theorem least_pad (n a b : Nat) (h2 : 2 ≤ n) (h7 : n ≤ 7) (xs : List Int) (hx : xs.length ≤ 3000) (hm : ∀ m ∈ xs, 0 ≤ m ∧ m ≤ 2) :
    ∃ r, loop (f_foghornlaw22_HardLeast.s2 ((n : Int), (a : Int), (b : Int))) xs = some r ∧ (r.length ≤ 3100 ∧ r.length % 2 = 0 ∧ 2 * (n - 1) ≤ r.length ∧ ∀ m ∈ r, 0 ≤ m ∧ m ≤ 2) := by
  refine loop_inv (f := f_foghornlaw22_HardLeast.s2 ((n : Int), (a : Int), (b : Int))) (fun s => (s.length ≤ 3000 ∨ s.length % 2 = 0 ∧ s.length ≤ 3002) ∧ ∀ m ∈ s, 0 ≤ m ∧ m ≤ 2) (fun s => 3100 - s.length) _ ?_ xs ⟨.inl hx, hm⟩
  rintro ys ⟨h1, h3⟩
  simp only [f_foghornlaw22_HardLeast.s2, f_foghornlaw22_HardLeast.s2c]
  have e1 : ((ys.length : Int)).tmod 2 = ((ys.length % 2 : Nat) : Int) := by rw [show (2 : Int) = ((2 : Nat) : Int) from rfl, tmod_nat]
  rw [e1, w64 (x := (n : Int) - 1) (by omega) (by omega), w64 (by omega) (by omega)]
  by_cases hc : ys.length % 2 = 1 ∨ ys.length < 2 * (n - 1)
  · left
    refine ⟨ys ++ [2], ?_, ⟨?_, ?_⟩, ?_⟩
    · rw [if_pos, if_pos (by simp; omega)]
      simp only [Bool.or_eq_true, bne_iff_ne, ne_eq, decide_eq_true_eq]; omega
    · simp only [List.length_append, List.length_cons, List.length_nil]; omega
    · intro m hm
      rcases List.mem_append.1 hm with h | h
      · exact h3 m h
      · simp at h; omega
    · simp only [List.length_append, List.length_cons, List.length_nil]; omega
  · right
    refine ⟨ys, ?_, by omega, by omega, by omega, h3⟩
    rw [if_neg]
    simp only [Bool.or_eq_true, bne_iff_ne, ne_eq, decide_eq_true_eq]; omega
theorem flip_len (round : Int) (m : List Bool) (hm : m.length < 140737488351233) : ∃ r, loop (f_foghornlaw22_HardLeast.s5 round) (m, 0) = some r ∧ r.length = m.length := by
  refine loop_inv (f := f_foghornlaw22_HardLeast.s5 round) (fun s => s.1.length = m.length ∧ 0 ≤ s.2 ∧ s.2 ≤ (m.length : Int)) (fun s => m.length - s.2.toNat) _ ?_ (m, 0) ⟨rfl, by simp, by simp⟩
  rintro ⟨ys, i⟩ ⟨h1, h2, h3⟩
  simp only at h1 h2 h3
  simp only [f_foghornlaw22_HardLeast.s5, f_foghornlaw22_HardLeast.s5c]
  by_cases hi : i < (ys.length : Int)
  · rw [if_pos (by simpa using hi), if_pos ⟨h2, hi⟩]
    split
    · right
      rw [if_pos ⟨h2, hi⟩, if_pos ⟨h2, hi⟩]
      exact ⟨_, rfl, by simpa using h1⟩
    · left
      refine ⟨(ys, i + 1), by rw [w64 (by omega) (by omega)], ⟨h1, ?_, ?_⟩, ?_⟩ <;> simp only <;> omega
  · right
    exact ⟨ys, by rw [if_neg (by simpa using hi)], h1⟩
theorem least_true (length : Int) (w0 : (Lit.int .i64 length).wf = true) (one : Int) (w1 : (Lit.int .u32 one).wf = true) (two : Int) (w2 : (Lit.int .u32 two).wf = true)
    (l : List Int) (hg : ∀ x ∈ l, (Lit.int .u8 x).wf = true) (hl : l.length * 1 ≤ 140737488351232) (message : List Bool) (w4 : ∀ x ∈ message, True) (hmsg : message.length * 1 ≤ 140737488351232) :
    f_foghornlaw22_HardLeast length one two l message = some true := by
  obtain ⟨n, a, b, hc, hfit⟩ := fit_ok (length := length) w1 w2
  have h2 := hc.n2; have h7 := hc.n7
  unfold f_foghornlaw22_HardLeast
  rw [works_true]
  simp only [Option.bind_some, Bool.not_true, Bool.false_eq_true, if_false]
  rw [hfit]
  simp only [Option.bind_some]
  obtain ⟨r, hr1, hr2, hr3⟩ := least_in l hg hl
  rw [hr1]
  simp only [Option.bind_some]
  obtain ⟨ms, hm1, hm2, hm3, hm4, hm5⟩ := least_pad n a b h2 h7 r hr2 hr3
  rw [hm1]
  simp only [Option.bind_some]
  obtain ⟨T, hT⟩ : ∃ T, T = ms.length / 2 := ⟨_, rfl⟩
  obtain ⟨N, hN⟩ : ∃ N, N = T - (n - 1) := ⟨_, rfl⟩
  have h : Fit n a b ms T N := ⟨hc, by omega, by omega, by omega, hm5⟩
  obtain ⟨M, hM⟩ : ∃ M, M = msgN n a b ms T N 1048576 N := ⟨_, rfl⟩
  have hMl : M.length = N := by rw [hM, msgN_len]
  rw [path_ok h, ← hM]
  simp only [Option.bind_some]
  rw [cost_ok h M hMl]
  simp only [Option.bind_some]
  have hcm : cs n a b ms M T = D n a b ms T N 1048576 T 0 := by rw [hM]; exact cs_msg h _
  have hle := cs_le n a b ms M T
  have hlen := h.len
  rw [hcm, half_ok h, many_ok h, hMl, if_neg (by simp; omega), if_pos (by simp; omega), List.nil_append]
  -- a message of that length
  have pad : ∃ r, loop (f_foghornlaw22_HardLeast.s3 ((n : Int), (a : Int), (b : Int)) ms) message = some r ∧ N ≤ r.length := by
    refine loop_inv (f := f_foghornlaw22_HardLeast.s3 ((n : Int), (a : Int), (b : Int)) ms) (fun s => s.length ≤ max message.length N) (fun s => N - s.length) _ ?_ message (by omega)
    intro ys hy
    simp only [f_foghornlaw22_HardLeast.s3, f_foghornlaw22_HardLeast.s3c]
    rw [half_ok h, many_ok h]
    by_cases hlt : ys.length < N
    · left
      refine ⟨ys ++ [false], by rw [if_pos (by simpa using hlt), if_pos (by simp; omega)], ?_, ?_⟩ <;> simp only [List.length_append, List.length_cons, List.length_nil] <;> omega
    · right
      exact ⟨ys, by rw [if_neg (by simpa using hlt)], by omega⟩
  obtain ⟨r3, hr4, hr5⟩ := pad
  rw [hr4]
  simp only [Option.bind_some, List.append_nil]
  rw [if_pos (by omega), Int.toNat_natCast]
  have rounds : ∀ k i : Nat, i + k = 3 → ∀ B : List Bool, B.length = N → loop (f_foghornlaw22_HardLeast.s4 ((n : Int), (a : Int), (b : Int)) ms (M, ((D n a b ms T N 1048576 T 0 : Nat) : Int), 0)) (B, (i : Int)) = some (.inl ()) := by
    intro k
    induction k with
    | zero =>
      intro i hi B hB
      apply loop_done
      simp only [f_foghornlaw22_HardLeast.s4, f_foghornlaw22_HardLeast.s4c]
      rw [if_neg (by rw [decide_eq_true_eq]; omega)]
    | succ k ih =>
      intro i hi B hB
      obtain ⟨r5, hr6, hr7⟩ := flip_len (i : Int) M (by omega)
      have hge := cs_ge h 1048576 B hB
      rw [← ih (i + 1) (by omega) r5 (by omega)]
      apply loop_step
      simp only [f_foghornlaw22_HardLeast.s4, f_foghornlaw22_HardLeast.s4c]
      rw [if_pos (by rw [decide_eq_true_eq]; omega), cost_ok h B hB]
      simp only [Option.bind_some]
      rw [if_neg (by simp; omega)]
      have hless : (if (((cs n a b ms B T : Nat) : Int) == ((D n a b ms T N 1048576 T 0 : Nat) : Int)) = true then (f_foghornlaw22_less B M).bind fun q100 => some q100 else some false) = some false := by
        by_cases he : cs n a b ms B T = D n a b ms T N 1048576 T 0
        · rw [if_pos (by simp [he]), less_false B M (by omega) (by omega) (fun t ht hs hd => by rw [hM] at hs hd ⊢; exact first_diff h _ B hB he (by omega) hs hd)]; rfl
        · rw [if_neg (by rw [beq_iff_eq]; omega)]
      rw [hless]
      simp only [Option.bind_some, Bool.false_eq_true, if_false, List.nil_append]
      rw [if_pos (by simp; omega), hr6]
      simp only [Option.bind_some]
      rw [w64 (by omega) (by omega)]; rfl
  have := rounds 3 0 (by omega) (r3.take N) (by simp; omega)
  rw [show ((0 : Nat) : Int) = 0 from rfl] at this
  rw [this]
  rfl

end Go.Proofs.Ythajdlihjobcoaa
