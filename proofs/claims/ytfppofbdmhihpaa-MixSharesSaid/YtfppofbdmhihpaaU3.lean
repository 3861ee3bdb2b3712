/- MixShares: the plain law. -/
import Derived.Test.YtfppofbdmhihpaaG3
import Derived.Test.YtfppofbdmhihpaaGlK
set_option linter.unusedVariables false
namespace Go.Proofs.Ytfppofbdmhihpaa
open GL

abbrev C := Fl × Fl
theorem wf_u64 {x : Int} (h : (Lit.int .u64 x).wf = true) : 0 ≤ x ∧ x < 18446744073709551616 := by
  simp [Lit.wf, IntKind.min, IntKind.max, IntKind.bits, IntKind.signed] at h
  omega
theorem float_self (x : Fl) : f_foghornref08_Float x x = some true := by
  unfold f_foghornref08_Float feq fne
  simp only [bne]
  cases (fcmp x x == some Ordering.eq) <;> rfl

theorem same_self (a : List C) (h : a.length ≤ 65536) : f_foghornref08_Same a a = some true := by
  unfold f_foghornref08_Same
  rw [if_neg (by simp)]
  have := loop_for1 (f := f_foghornref08_Same.s1 a a) a.length (.inl ()) (fun i hi => ?_) ?_
  · rw [this]; rfl
  · simp only [f_foghornref08_Same.s1, f_foghornref08_Same.s1c]
    rw [if_pos (by simpa using hi), if_pos (by omega), if_pos (by omega), float_self, float_self]
    simp only [Option.bind_some, Bool.not_true, Bool.false_eq_true, if_false]
    rw [if_pos (by omega), if_pos (by omega)]
    simp only [Option.bind_some, Bool.false_eq_true, if_false]
    rw [w64 (by omega) (by omega)]; rfl
  · simp only [f_foghornref08_Same.s1, f_foghornref08_Same.s1c]
    rw [if_neg (by simp)]

theorem fresh_self (x : List C) (h : x.length ≤ 65536) : f_foghornlaw08_fresh x x x = some true := by
  unfold f_foghornlaw08_fresh
  obtain ⟨y, hy, hyl⟩ : ∃ z, loop f_foghornlaw08_fresh.s1 (x, (0 : Int)) = some z ∧ z.length = x.length := by
    refine loop_inv (fun s : List C × Int => s.1.length = x.length ∧ 0 ≤ s.2 ∧ s.2 ≤ s.1.length) (fun s => s.1.length - s.2.toNat) (fun z : List C => z.length = x.length) ?_ _ ⟨rfl, by simp, by simp⟩
    rintro ⟨y, k⟩ ⟨h1, h2, h3⟩
    simp only at h1 h2 h3
    simp only [f_foghornlaw08_fresh.s1, f_foghornlaw08_fresh.s1c]
    by_cases hk : k < y.length
    · rw [if_pos (by simpa using hk), if_pos (by omega), w64 (by omega) (by omega)]
      exact .inl ⟨_, rfl, ⟨by simpa using h1, by simp; omega, by simp; omega⟩, by simp; omega⟩
    · rw [if_neg (by simpa using hk)]
      exact .inr ⟨_, rfl, h1⟩
  obtain ⟨z, hz, hzl⟩ : ∃ z, loop f_foghornlaw08_fresh.s2 (y, (0 : Int)) = some z ∧ z.length = y.length + 20 := by
    refine loop_inv (fun s : List C × Int => 0 ≤ s.2 ∧ s.2 ≤ 20 ∧ s.1.length = y.length + s.2.toNat) (fun s => 20 - s.2.toNat) (fun z : List C => z.length = y.length + 20) ?_ _ ⟨by simp, by simp, by simp⟩
    rintro ⟨x', k⟩ ⟨h1, h2, h3⟩
    simp only at h1 h2 h3
    simp only [f_foghornlaw08_fresh.s2, f_foghornlaw08_fresh.s2c]
    by_cases hk : k < 20
    · rw [if_pos (by simpa using hk), if_pos (by simp; omega), w64 (by omega) (by omega)]
      exact .inl ⟨_, rfl, ⟨by simp; omega, by simp; omega, by simp; omega⟩, by simp; omega⟩
    · rw [if_neg (by simpa using hk)]
      exact .inr ⟨_, rfl, by omega⟩
  rw [same_self x h]
  simp only [Option.bind_some, Bool.not_true, Bool.false_eq_true, if_false, hy, hz, Bool.true_and]
  rw [w64 (by omega) (by omega)]
  simp; omega

def nums (l : List Int) : List C := (List.range (l.length / 2)).map fun (i : Nat) => (Fl.bits (gt l ((2 * i : Nat) : Int)).toNat, Fl.bits (gt l ((2 * i + 1 : Nat) : Int)).toNat)
theorem nums_len (l : List Int) : (nums l).length = l.length / 2 := by simp [nums]
def mark : C := (Fl.bits 4651892959631900672, Fl.bits 0)

theorem numbers_some (l : List Int) (r : l.length * 8 ≤ 140737488351232) : f_foghornlaw08_numbers l = some (nums l, [mark]) := by
  unfold f_foghornlaw08_numbers
  have key : ∀ n i : Nat, i + n = l.length / 2 → loop (f_foghornlaw08_numbers.s1 l) ((nums l).take i, ((2 * i : Nat) : Int)) = some (nums l) := by
    intro n
    induction n with
    | zero =>
      intro i hi
      apply loop_done
      simp only [f_foghornlaw08_numbers.s1, f_foghornlaw08_numbers.s1c]
      rw [w64 (by omega) (by omega), if_neg (by simp; omega), List.take_of_length_le (by rw [nums_len]; omega)]
    | succ n ih =>
      intro i hi
      refine (loop_step ?_).trans (ih (i + 1) (by omega))
      simp only [f_foghornlaw08_numbers.s1, f_foghornlaw08_numbers.s1c]
      have e : ((2 * i : Nat) : Int) + 1 = ((2 * i + 1 : Nat) : Int) := by omega
      have e2 : ((2 * i : Nat) : Int) + 2 = ((2 * (i + 1) : Nat) : Int) := by omega
      rw [w64 (x := ((2 * i : Nat) : Int) + 1) (by omega) (by omega), w64 (x := ((2 * i : Nat) : Int) + 2) (by omega) (by omega), e, e2, if_pos (by simp; omega), if_pos (by omega), if_pos (by omega), if_pos (by simp [nums_len]; omega),
        List.take_succ_eq_append_getElem (by rw [nums_len]; omega)]
      simp [nums]
  have := key (l.length / 2) 0 (by omega)
  simp only [List.take_zero, Nat.mul_zero, Int.natCast_zero] at this
  rw [this]
  simp only [Option.bind_some, List.append_nil, Int.toNat_natCast]
  rw [if_pos (by simp [nums_len] <;> omega), if_pos (by simp <;> omega)]
  simp [mark]

theorem mark_self : ceq mark mark = true := by decide +kernel

theorem kept_some (l : List Int) (hw : ∀ x ∈ l, (Lit.int .u64 x).wf = true) (r : l.length * 8 ≤ 140737488351232) : f_foghornlaw08_kept (nums l) [mark] l = some true := by
  unfold f_foghornlaw08_kept
  have hn := nums_len l
  have h2 : (l.length : Int).tdiv 2 = ((l.length / 2 : Nat) : Int) := by
    rw [Int.tdiv_eq_ediv_of_nonneg (by omega)]; omega
  rw [h2, w64 (by omega) (by omega), if_neg (by simp [hn]), w64 (by omega) (by omega), if_pos (by simp; omega), if_pos (by simp; omega)]
  have hg : gt (((nums l) ++ [mark]).take (((nums l).length : Int) + 1).toNat) ((nums l).length : Int) = mark := by
    rw [List.take_of_length_le (by simp <;> omega), gt_nat (by simp)]; simp
  rw [hg]
  have hm : ceq mark (Fl.bits 4651892959631900672, Fl.bits 0) = true := mark_self
  rw [hm]
  simp only [Option.bind_some, Bool.not_true, Bool.false_eq_true, if_false]
  have := loop_for1 (f := f_foghornlaw08_kept.s1 (nums l) l) (nums l).length (.inl ()) (fun i hi => ?_) ?_
  · rw [this]; rfl
  · simp only [f_foghornlaw08_kept.s1, f_foghornlaw08_kept.s1c]
    have hgi : gt (nums l) (i : Int) = (Fl.bits (gt l ((2 * i : Nat) : Int)).toNat, Fl.bits (gt l ((2 * i + 1 : Nat) : Int)).toNat) := by
      rw [gt_nat hi]; simp [nums]
    have e0 : (2 : Int) * (i : Int) = ((2 * i : Nat) : Int) := by omega
    have e : ((2 * i : Nat) : Int) + 1 = ((2 * i + 1 : Nat) : Int) := by omega
    have k1 := wf_u64 (hw _ (gt_mem (xs := l) (i := ((2 * i : Nat) : Int)) (by omega) (by omega)))
    have k2 := wf_u64 (hw _ (gt_mem (xs := l) (i := ((2 * i + 1 : Nat) : Int)) (by omega) (by omega)))
    rw [if_pos (by simpa using hi), if_pos (by omega), hgi, e0, w64 (x := ((2 * i : Nat) : Int)) (by omega) (by omega), e, w64 (x := ((2 * i + 1 : Nat) : Int)) (by omega) (by omega)]
    simp only [fbits, Option.bind_some]
    rw [if_pos (by omega), Int.toNat_of_nonneg k1.1, if_neg (by simp), if_pos (by omega), if_pos (by omega), Int.toNat_of_nonneg k2.1]
    simp only [bne_self_eq_false, Option.bind_some, Bool.false_eq_true, if_false]
    rw [w64 (by omega) (by omega)]; rfl
  · simp only [f_foghornlaw08_kept.s1, f_foghornlaw08_kept.s1c]
    rw [if_neg (by simp)]


/-! ### Shares -/
def shr (l : List C) (f s : Nat) : Nat → Nat → List C
  | 0, _ => []
  | k + 1, i => (if i % s = f then [gt l (i : Int)] else []) ++ shr l f s k (i + 1)
theorem shr_len (l : List C) (f s : Nat) : ∀ k i, (shr l f s k i).length ≤ k
  | 0, _ => by simp [shr]
  | k + 1, i => by
    have := shr_len l f s k (i + 1)
    simp only [shr, List.length_append]
    split <;> simp <;> omega
theorem shr_skip (l : List C) (f s : Nat) : ∀ d k i, d ≤ k → (∀ j, i ≤ j → j < i + d → j % s ≠ f) → shr l f s k i = shr l f s (k - d) (i + d)
  | 0, k, i, _, _ => by simp
  | d + 1, 0, i, h, _ => by omega
  | d + 1, k + 1, i, h, hj => by
    have h1 := hj i (by omega) (by omega)
    rw [show shr l f s (k + 1) i = shr l f s k (i + 1) by simp [shr, h1], shr_skip l f s d k (i + 1) (by omega) (fun j a b => hj j (by omega) (by omega))]
    congr 1 <;> omega

theorem share_ref (l : List C) (f s : Nat) (hl : l.length ≤ 65536) (hs : 1 ≤ s) (hs2 : s ≤ 65536) : ∀ (k i : Nat) (out : List C), i + k = l.length → out.length ≤ i →
    loop (f_foghornref08_Share.s1 l (f : Int) (s : Int)) (out, (i : Int)) = some (out ++ shr l f s k i) := by
  intro k
  induction k with
  | zero =>
    intro i out hi ho
    simp only [shr, List.append_nil]
    apply loop_done
    simp only [f_foghornref08_Share.s1, f_foghornref08_Share.s1c]
    rw [if_neg (by simp; omega)]
  | succ k ih =>
    intro i out hi ho
    have hm : (i : Int).tmod (s : Int) = ((i % s : Nat) : Int) := by rw [Int.tmod_eq_emod_of_nonneg (by omega)]; rfl
    by_cases h : i % s = f
    · rw [loop_step (s' := (out ++ [gt l (i : Int)], ((i + 1 : Nat) : Int)))]
      · rw [ih (i + 1) _ (by omega) (by simp; omega)]; simp [shr, h]
      · simp only [f_foghornref08_Share.s1, f_foghornref08_Share.s1c]
        rw [if_pos (by simp; omega), if_pos (by omega), hm, h, if_pos (by simp), if_pos (by omega), if_pos (by simp; omega), w64 (by omega) (by omega)]; rfl
    · rw [loop_step (s' := (out, ((i + 1 : Nat) : Int)))]
      · rw [ih (i + 1) _ (by omega) (by omega)]; simp [shr, h]
      · simp only [f_foghornref08_Share.s1, f_foghornref08_Share.s1c]
        rw [if_pos (by simp; omega), if_pos (by omega), hm, if_neg (by simp; omega), w64 (by omega) (by omega)]; rfl

theorem share_own (l : List C) (f s : Nat) (hl : l.length ≤ 65536) (hs : 1 ≤ s) (hs2 : s ≤ 65536) : ∀ (k i : Nat) (out : List C), l.length - i ≤ k → i ≤ 131072 → i % s = f → out.length ≤ i →
    loop (f_mix_Share.s1 l (s : Int)) (out, (i : Int)) = some (out ++ shr l f s (l.length - i) i) := by
  intro k
  induction k with
  | zero =>
    intro i out hi hb hf ho
    rw [show l.length - i = 0 by omega]
    simp only [shr, List.append_nil]
    apply loop_done
    simp only [f_mix_Share.s1, f_mix_Share.s1c]
    rw [if_neg (by simp; omega)]
  | succ k ih =>
    intro i out hi hb hf ho
    by_cases h : i < l.length
    · rw [loop_step (s' := (out ++ [gt l (i : Int)], ((i + s : Nat) : Int)))]
      · rw [ih (i + s) _ (by omega) (by omega) (by rw [Nat.add_mod_right]; exact hf) (by simp; omega)]
        obtain ⟨m, hm⟩ : ∃ m, l.length - i = m + 1 := ⟨l.length - i - 1, by omega⟩
        rw [hm]
        have hno : ∀ j, i + 1 ≤ j → j < i + s → j % s ≠ f := fun j a b e => by
          have h1 : (j - i) % s = 0 := Nat.sub_mod_eq_zero_of_mod_eq (e.trans hf.symm)
          rw [Nat.mod_eq_of_lt (by omega)] at h1
          omega
        rw [show shr l f s (m + 1) i = [gt l (i : Int)] ++ shr l f s m (i + 1) by simp [shr, hf]]
        by_cases hd : s - 1 ≤ m
        · rw [shr_skip l f s (s - 1) m (i + 1) hd (fun j a b => hno j a (by omega))]
          rw [show l.length - (i + s) = m - (s - 1) by omega, show i + 1 + (s - 1) = i + s by omega]
          simp
        · rw [shr_skip l f s m m (i + 1) (Nat.le_refl _) (fun j a b => hno j a (by omega))]
          rw [show l.length - (i + s) = 0 by omega, Nat.sub_self]
          simp [shr]
      · simp only [f_mix_Share.s1, f_mix_Share.s1c]
        rw [if_pos (by simp; omega), if_pos (by omega), if_pos (by simp; omega), w64 (by omega) (by omega)]; rfl
    · rw [show l.length - i = 0 by omega]
      simp only [shr, List.append_nil]
      apply loop_done
      simp only [f_mix_Share.s1, f_mix_Share.s1c]
      rw [if_neg (by simp; omega)]

theorem share_same (l : List C) (f s : Int) : ∃ x e, f_foghornref08_Share l f s = some (x, e) ∧ f_mix_Share l f s = some (x, e) ∧ x.length ≤ 65536 := by
  unfold f_foghornref08_Share f_mix_Share f_mix_fits
  simp only [Option.bind_some]
  by_cases h : l.length ≤ 65536 ∧ 1 ≤ s ∧ s ≤ 65536 ∧ 0 ≤ f ∧ f < s
  · obtain ⟨h1, h2, h3, h4, h5⟩ := h
    obtain ⟨f', rfl⟩ : ∃ f' : Nat, f = (f' : Int) := ⟨f.toNat, by omega⟩
    obtain ⟨s', rfl⟩ : ∃ s' : Nat, s = (s' : Int) := ⟨s.toNat, by omega⟩
    refine ⟨shr l f' s' l.length 0, 0, ?_, ?_, Nat.le_trans (shr_len _ _ _ _ _) h1⟩
    · rw [if_neg (by simp; omega)]
      have := share_ref l f' s' h1 (by omega) (by omega) l.length 0 [] (by omega) (by simp)
      simp only [Int.natCast_zero, List.nil_append] at this
      rw [this]; rfl
    · rw [if_neg (by simp; omega)]
      simp only [Option.bind_some]
      rw [if_neg (by simp; omega)]
      have := share_own l f' s' h1 (by omega) (by omega) (l.length - f') f' [] (Nat.le_refl _) (by omega) (Nat.mod_eq_of_lt (by omega)) (by simp)
      rw [this]
      simp only [List.nil_append, Option.bind_some]
      have hno : ∀ j, 0 ≤ j → j < 0 + f' → j % s' ≠ f' := fun j _ b e => by rw [Nat.mod_eq_of_lt (by omega)] at e; omega
      by_cases hd : f' ≤ l.length
      · rw [shr_skip l f' s' f' l.length 0 hd hno, Nat.zero_add]
      · rw [shr_skip l f' s' l.length l.length 0 (Nat.le_refl _) (fun j a b => hno j a (by omega)), show l.length - f' = 0 by omega, Nat.sub_self]; rfl
  · refine ⟨[], 1, ?_, ?_, by simp⟩
    · rw [if_pos]
      simp only [Bool.or_eq_true, decide_eq_true_eq]
      omega
    · by_cases hz : 65536 < l.length ∨ s < 1
      · rw [if_pos (by simp; omega)]
        simp
      · rw [if_neg (by simp; omega)]
        simp only [Option.bind_some]
        rw [if_pos]
        simp only [Bool.or_eq_true, Bool.not_eq_true', decide_eq_true_eq, decide_eq_false_iff_not]
        omega

/-! ### Rows merged -/
theorem merge_s2_eq (rows : List (List C)) (h : 0 < rows.length) (s : List C × Int) : f_foghornref08_Merge.s2 rows s = f_mix_Merge.s2 rows s := by
  have h1 : (decide ((0 : Int) < (rows.length : Int))) = true := by simp; omega
  simp only [f_foghornref08_Merge.s2, f_foghornref08_Merge.s2c, f_mix_Merge.s2, f_mix_Merge.s2c, h1, if_true]
  rw [if_pos (by omega)]
  simp only [Option.bind_some]
  rfl

def good (rows : List (List C)) (n0 : Nat) : Prop := (∀ j : Nat, j < rows.length → (gt rows (j : Int)).length = n0) ∧ rows.length * n0 ≤ 65536
open Classical in
theorem merge_ref1 (rows : List (List C)) (n0 : Nat) (hm : rows.length ≤ 65536) (hm0 : 0 < rows.length) (hn : (gt rows (0 : Int)).length = n0) (hn2 : n0 ≤ 140737488351232) : ∀ (k i : Nat), i + k = rows.length →
    (∀ j : Nat, j < i → (gt rows (j : Int)).length = n0) → i * n0 ≤ 65536 →
    loop (f_foghornref08_Merge.s1 rows) (((i * n0 : Nat) : Int), (i : Int)) = some (if good rows n0 then .inl () else .inr ([], 1)) := by
  intro k
  induction k with
  | zero =>
    intro i hi hj hb
    rw [if_pos ⟨fun j h => hj j (by omega), by rw [← show i = rows.length by omega]; exact hb⟩]
    apply loop_done
    simp only [f_foghornref08_Merge.s1, f_foghornref08_Merge.s1c]
    rw [if_neg (by simp; omega)]
  | succ k ih =>
    intro i hi hj hb
    by_cases h1 : (gt rows (i : Int)).length = n0
    · by_cases h2 : (i + 1) * n0 ≤ 65536
      · have e := ih (i + 1) (by omega) (fun j h => by rcases Nat.lt_or_ge j i with h' | h'; exact hj j h'; rw [show j = i by omega]; exact h1) h2
        rw [← e]
        apply loop_step
        simp only [f_foghornref08_Merge.s1, f_foghornref08_Merge.s1c]
        have e1 : (i + 1) * n0 = i * n0 + n0 := by rw [Nat.succ_mul]
        rw [if_pos (by simp; omega), if_pos (by omega), if_pos (by omega), hn, h1, if_neg (by simp), if_pos (by omega), w64 (x := 65536 - ((i * n0 : Nat) : Int)) (by omega) (by omega)]
        simp only [Option.bind_some]
        rw [if_neg (by simp; omega), if_pos (by omega), w64 (by omega) (by omega), w64 (by omega) (by omega), e1]
        rfl
      · rw [if_neg (fun hg => h2 (Nat.le_trans (Nat.mul_le_mul_right _ (by omega)) hg.2))]
        apply loop_done
        simp only [f_foghornref08_Merge.s1, f_foghornref08_Merge.s1c]
        have e1 : (i + 1) * n0 = i * n0 + n0 := by rw [Nat.succ_mul]
        rw [if_pos (by simp; omega), if_pos (by omega), if_pos (by omega), hn, h1, if_neg (by simp), if_pos (by omega), w64 (x := 65536 - ((i * n0 : Nat) : Int)) (by omega) (by omega)]
        simp only [Option.bind_some]
        rw [if_pos (by simp; omega)]
    · rw [if_neg (fun hg => h1 (hg.1 i (by omega)))]
      apply loop_done
      simp only [f_foghornref08_Merge.s1, f_foghornref08_Merge.s1c]
      rw [if_pos (by simp; omega), if_pos (by omega), if_pos (by omega), hn, if_pos (by simp; omega)]
      simp only [Option.bind_some, if_true]

open Classical in
theorem merge_own1 (rows : List (List C)) (n0 : Nat) (hm : rows.length ≤ 65536) (hm0 : 0 < rows.length) (hn : (gt rows (0 : Int)).length = n0) (hn2 : n0 ≤ 140737488351232) : ∀ (k i : Nat), i + k = rows.length →
    (∀ j : Nat, j < i → (gt rows (j : Int)).length = n0) → (0 < i → n0 ≤ 65536 / rows.length) →
    loop (f_mix_Merge.s1 rows) (i : Int) = some (if good rows n0 then .inl () else .inr ([], 1)) := by
  obtain ⟨Q, hQ⟩ : ∃ Q : Nat, Q = 65536 / rows.length := ⟨_, rfl⟩
  have hQ2 : Q ≤ 65536 := hQ ▸ Nat.div_le_self _ _
  have hq : n0 ≤ Q ↔ rows.length * n0 ≤ 65536 := by rw [hQ, Nat.le_div_iff_mul_le hm0, Nat.mul_comm]
  have hw : IntKind.i64.wrap ((65536 : Int).tdiv (rows.length : Int)) = (Q : Int) := by
    rw [Int.tdiv_eq_ediv_of_nonneg (by omega)]
    have e : (65536 : Int) / (rows.length : Int) = (Q : Int) := by rw [hQ]; rfl
    rw [e, w64 (by omega) (by omega)]
  rw [← hQ]
  intro k
  induction k with
  | zero =>
    intro i hi hj hb
    rw [if_pos ⟨fun j h => hj j (by omega), hq.1 (hb (by omega))⟩]
    apply loop_done
    simp only [f_mix_Merge.s1, f_mix_Merge.s1c]
    rw [if_neg (by simp; omega)]
  | succ k ih =>
    intro i hi hj hb
    by_cases h1 : (gt rows (i : Int)).length = n0
    · by_cases h2 : n0 ≤ Q
      · have e := ih (i + 1) (by omega) (fun j h => by rcases Nat.lt_or_ge j i with h' | h'; exact hj j h'; rw [show j = i by omega]; exact h1) (fun _ => h2)
        rw [← e]
        apply loop_step
        simp only [f_mix_Merge.s1, f_mix_Merge.s1c]
        rw [if_pos (by simp; omega), if_pos (by omega), hn, h1, if_neg (by simp), if_pos (by omega), hw]
        simp only [Option.bind_some]
        rw [if_neg (by simp; omega), w64 (by omega) (by omega)]
        rfl
      · rw [if_neg (fun hg => h2 (hq.2 hg.2))]
        apply loop_done
        simp only [f_mix_Merge.s1, f_mix_Merge.s1c]
        rw [if_pos (by simp; omega), if_pos (by omega), hn, h1, if_neg (by simp), if_pos (by omega), hw]
        simp only [Option.bind_some]
        rw [if_pos (by simp; omega)]
    · rw [if_neg (fun hg => h1 (hg.1 i (by omega)))]
      apply loop_done
      simp only [f_mix_Merge.s1, f_mix_Merge.s1c]
      rw [if_pos (by simp; omega), if_pos (by omega), hn, if_pos (by simp; omega)]
      simp only [Option.bind_some, if_true]

theorem merge_s3 (rows : List (List C)) (n : Nat) (n0 : Nat) (hg : good rows n0) (hn : n < n0) : ∀ (k i : Nat) (out : List C), i + k = rows.length → out.length ≤ 131072 →
    loop (f_mix_Merge.s3 rows (n : Int)) (out, (i : Int)) = some (out ++ ((List.range k).map fun j => gt (gt rows ((i + j : Nat) : Int)) (n : Int))) := by
  have hb : rows.length ≤ 65536 := by have := hg.2; have := Nat.le_mul_of_pos_right rows.length (show 0 < n0 by omega); omega
  have hb2 : ∀ k i : Nat, ∀ out : List C, i + k = rows.length → out.length ≤ 131072 + i →
      loop (f_mix_Merge.s3 rows (n : Int)) (out, (i : Int)) = some (out ++ ((List.range k).map fun j => gt (gt rows ((i + j : Nat) : Int)) (n : Int))) := by
    have hn3 : n0 ≤ 65536 ∨ rows.length = 0 := by
      rcases Nat.eq_zero_or_pos rows.length with h | h
      · exact .inr h
      · have := hg.2; have := Nat.le_mul_of_pos_left n0 h; exact .inl (by omega)
    intro k
    induction k with
    | zero =>
      intro i out hi ho
      simp only [List.range_zero, List.map_nil, List.append_nil]
      apply loop_done
      simp only [f_mix_Merge.s3, f_mix_Merge.s3c]
      rw [if_neg (by simp; omega)]
    | succ k ih =>
      intro i out hi ho
      rw [loop_step (s' := (out ++ [gt (gt rows (i : Int)) (n : Int)], ((i + 1 : Nat) : Int)))]
      · rw [ih (i + 1) _ (by omega) (by simp; omega), List.range_succ_eq_map]
        simp only [List.map_cons, List.map_map, Nat.add_zero, List.append_assoc, List.singleton_append]
        congr 3
        apply List.map_congr_left
        intro j _
        simp only [Function.comp]
        congr 2
        omega
      · simp only [f_mix_Merge.s3, f_mix_Merge.s3c]
        rw [if_pos (by simp; omega), if_pos (by omega), hg.1 i (by omega), if_pos (by omega), if_pos (by simp; omega), w64 (by omega) (by omega)]
        rfl
  intro k i out hi ho
  exact hb2 k i out hi (by omega)

theorem merge_s2 (rows : List (List C)) (n0 : Nat) (hg : good rows n0) (hm0 : 0 < rows.length) : ∀ (k n : Nat) (out : List C), n + k = n0 → out.length = n * rows.length →
    ∃ q, loop (f_mix_Merge.s2 rows) (out, (n : Int)) = some q ∧ q.length ≤ 65536 := by
  have h0 := hg.1 0 hm0
  have hb : n0 ≤ 65536 := by have := hg.2; have := Nat.le_mul_of_pos_left n0 hm0; omega
  intro k
  induction k with
  | zero =>
    intro n out hn ho
    refine ⟨out, loop_done ?_, by have := hg.2; rw [ho, show n = n0 by omega, Nat.mul_comm]; exact this⟩
    simp only [f_mix_Merge.s2, f_mix_Merge.s2c]
    rw [show gt rows (0 : Int) = gt rows ((0 : Nat) : Int) from rfl, h0, if_neg (by simp; omega)]
  | succ k ih =>
    intro n out hn ho
    have hle : out.length ≤ 65536 := by
      have := hg.2; rw [ho, Nat.mul_comm]; exact Nat.le_trans (Nat.mul_le_mul_left _ (by omega)) this
    have e3 := merge_s3 rows n n0 hg (by omega) rows.length 0 out (by omega) (by omega)
    obtain ⟨q, e1, e2⟩ := ih (n + 1) (out ++ ((List.range rows.length).map fun j => gt (gt rows ((0 + j : Nat) : Int)) (n : Int))) (by omega) (by simp [ho, Nat.succ_mul])
    refine ⟨q, ?_, e2⟩
    rw [loop_step (s' := (out ++ ((List.range rows.length).map fun j => gt (gt rows ((0 + j : Nat) : Int)) (n : Int)), ((n + 1 : Nat) : Int)))]
    · exact e1
    · simp only [f_mix_Merge.s2, f_mix_Merge.s2c]
      rw [show gt rows (0 : Int) = gt rows ((0 : Nat) : Int) from rfl, h0, if_pos (by simp; omega)]
      rw [show ((0 : Nat) : Int) = 0 from rfl] at e3
      rw [e3]
      simp only [Option.bind_some]
      rw [w64 (by omega) (by omega)]; rfl

theorem merge_same (rows : List (List C)) (hm : rows.length * 24 ≤ 140737488351232) (hx : ∀ x ∈ rows, x.length ≤ 140737488351232) :
    ∃ x e, f_foghornref08_Merge rows = some (x, e) ∧ f_mix_Merge rows = some (x, e) ∧ x.length ≤ 65536 := by
  unfold f_foghornref08_Merge f_mix_Merge f_mix_fits
  simp only [Option.bind_some]
  by_cases h1 : 65536 < rows.length
  · refine ⟨[], 1, ?_, ?_, by simp⟩
    · rw [if_pos (by simp; omega)]
    · rw [if_pos (by simp; omega)]
  · rw [if_neg (by simp; omega), if_neg (by simp; omega)]
    by_cases h2 : rows.length = 0
    · have : rows = [] := List.eq_nil_of_length_eq_zero h2
      subst this
      refine ⟨[], 0, ?_, ?_, by simp⟩
      · rw [loop_done (r := .inl ()) (by simp only [f_foghornref08_Merge.s1, f_foghornref08_Merge.s1c]; rw [if_neg (by simp)])]
        simp only [Option.bind_some, sm]
        rw [loop_done (r := []) (by simp only [f_foghornref08_Merge.s2, f_foghornref08_Merge.s2c]; rw [if_neg (by simp)]; rfl)]
        rfl
      · rw [if_pos (by simp)]
    · have hm0 : 0 < rows.length := by omega
      have hn2 : (gt rows (0 : Int)).length ≤ 140737488351232 := hx _ (gt_mem (by omega) (by omega))
      have k1 := merge_ref1 rows _ (by omega) hm0 rfl hn2 rows.length 0 (by omega) (fun j h => absurd h (by omega)) (by simp)
      have k2 := merge_own1 rows _ (by omega) hm0 rfl hn2 rows.length 0 (by omega) (fun j h => absurd h (by omega)) (fun h => absurd h (by omega))
      rw [Nat.zero_mul, show ((0 : Nat) : Int) = 0 from rfl] at k1
      rw [show ((0 : Nat) : Int) = 0 from rfl] at k2
      rw [if_neg (show ¬ (((rows.length : Int) == (0 : Int)) = true) from fun h => by have := beq_iff_eq.1 h; omega), if_pos (show 0 ≤ (0 : Int) ∧ (0 : Int) < (rows.length : Int) by omega), k1, k2]
      simp only [Option.bind_some]
      by_cases hg : good rows (gt rows (0 : Int)).length
      · rw [if_pos hg]
        simp only [sm]
        obtain ⟨q, e1, e2⟩ := merge_s2 rows _ hg hm0 (gt rows (0 : Int)).length 0 [] (Nat.zero_add _) (by rw [Nat.zero_mul]; rfl)
        rw [show ((0 : Nat) : Int) = 0 from rfl] at e1
        have es : f_foghornref08_Merge.s2 rows = f_mix_Merge.s2 rows := funext fun s => merge_s2_eq rows hm0 s
        have hb := hg.2
        have hb2 : ((gt rows (0 : Int)).length : Int) * (rows.length : Int) ≤ 65536 := by rw [Int.mul_comm, ← Int.natCast_mul]; omega
        have hb3 : 0 ≤ ((gt rows (0 : Int)).length : Int) * (rows.length : Int) := Int.mul_nonneg (by omega) (by omega)
        generalize ((gt rows (0 : Int)).length : Int) * (rows.length : Int) = p at hb2 hb3 ⊢
        rw [w64 (x := p) (by omega) (by omega), if_pos (by omega), es]
        have e0 : List.replicate ((0 : Int)).toNat (Fl.bits 0, Fl.bits 0) = [] := rfl
        rw [e0, e1]
        exact ⟨q, 0, rfl, rfl, e2⟩
      · rw [if_neg hg]
        simp only [sm]
        exact ⟨[], 1, rfl, rfl, by simp⟩

/-! ### The law -/
theorem law_in (rows : List (List Int)) (hm : rows.length * 24 ≤ 140737488351232) (hx : ∀ x ∈ rows, x.length * 8 ≤ 140737488351232) :
    loop (f_foghornlaw08_MixShares.s1 rows) ([], (0 : Int)) = some (rows.map fun x => (nums x, [mark])) := by
  have := loop_for (f := f_foghornlaw08_MixShares.s1 rows) rows.length (fun i => (rows.take i).map fun x => (nums x, [mark])) (rows.map fun x => (nums x, [mark])) (fun i hi => ?_) ?_
  · simpa using this
  · simp only [f_foghornlaw08_MixShares.s1, f_foghornlaw08_MixShares.s1c]
    rw [if_pos (by simp; omega), if_pos (by omega), numbers_some _ (hx _ (gt_mem (by omega) (by omega)))]
    simp only [Option.bind_some]
    rw [if_pos (by simp; omega), w64 (by omega) (by omega), List.take_succ_eq_append_getElem hi, gt_nat hi, List.map_append]
    rfl
  · simp only [f_foghornlaw08_MixShares.s1, f_foghornlaw08_MixShares.s1c]
    rw [if_neg (by simp), List.take_of_length_le (Nat.le_refl _)]

theorem shares_true (l : List Int) (w0 : ∀ x ∈ l, (Lit.int .u64 x).wf = true) (r0 : l.length * 8 ≤ 140737488351232) (f : Int) (w1 : (Lit.int .i64 f).wf = true) (s : Int) (w2 : (Lit.int .i64 s).wf = true)
    (rows : List (List Int)) (w3 : ∀ xs ∈ rows, ∀ x ∈ xs, (Lit.int .u64 x).wf = true) (r3 : rows.length * 24 ≤ 140737488351232) (r4 : ∀ xs ∈ rows, xs.length * 8 ≤ 140737488351232) :
    f_foghornlaw08_MixShares l f s rows = some true := by
  unfold f_foghornlaw08_MixShares
  obtain ⟨x, e, e1, e2, e3⟩ := share_same (nums l) f s
  rw [numbers_some l r0]
  simp only [Option.bind_some, e1, e2, bne_self_eq_false, Bool.false_eq_true, if_false, fresh_self x e3, Bool.not_true, kept_some l w0 r0]
  rw [law_in rows r3 r4]
  simp only [Option.bind_some, List.map_map, Function.comp_def]
  obtain ⟨y, e', e4, e5, e6⟩ := merge_same (rows.map fun x => nums x) (by simpa using r3) (fun z hz => by
    obtain ⟨q, hq, rfl⟩ := List.mem_map.1 hz
    have := r4 q hq
    rw [nums_len]; omega)
  simp only [e4, e5, Option.bind_some, bne_self_eq_false, Bool.false_eq_true, if_false, fresh_self y e6, Bool.not_true]
  have key : loop (f_foghornlaw08_MixShares.s2 rows (rows.map fun x => (nums x, [mark]))) (0 : Int) = some (.inl ()) := by
    refine loop_for1 rows.length (Sum.inl ()) (fun i hi => ?_) ?_
    · simp only [f_foghornlaw08_MixShares.s2, f_foghornlaw08_MixShares.s2c]
      have hm : gt rows (i : Int) ∈ rows := gt_mem (by omega) (by omega)
      have hg : gt (rows.map fun x => (nums x, [mark])) (i : Int) = (nums (gt rows (i : Int)), [mark]) := by
        rw [gt_nat (by simpa using hi), gt_nat hi]; simp
      rw [if_pos (by simpa using hi), if_pos (by simp; omega), if_pos (by omega), hg, kept_some _ (w3 _ hm) (r4 _ hm)]
      simp only [Option.bind_some, Bool.not_true, Bool.false_eq_true, if_false]
      rw [w64 (by omega) (by omega)]; rfl
    · simp only [f_foghornlaw08_MixShares.s2, f_foghornlaw08_MixShares.s2c]
      rw [if_neg (by simp)]
  rw [key]; rfl
end Go.Proofs.Ytfppofbdmhihpaa
