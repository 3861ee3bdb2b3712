/- MixLines: the plain law. -/
import Derived.Test.YtfppofbdmhihpaaG2
import Derived.Test.YtfppofbdmhihpaaGlK
set_option linter.unusedVariables false
namespace Go.Proofs.Ytfppofbdmhihpaa
open GL

abbrev C := Fl × Fl

theorem wf_u64 {x : Int} (h : (Lit.int .u64 x).wf = true) : 0 ≤ x ∧ x < 18446744073709551616 := by
  simp [Lit.wf, IntKind.min, IntKind.max, IntKind.bits, IntKind.signed] at h
  omega

theorem fneg_fneg (x : Fl) : fneg (fneg x) = x := by
  cases x with
  | bits b =>
    show Fl.bits ((b ^^^ 2 ^ 63) ^^^ 2 ^ 63) = Fl.bits b
    rw [Nat.xor_assoc, Nat.xor_self, Nat.xor_zero]
  | nan => rfl

/-- turned by k quarters -/
def T : Nat → C → C
  | 0, z => z
  | k + 1, z => T k (fneg z.2, z.1)

theorem mod4 (n : Int) (h0 : -9223372036854775808 ≤ n) (h1 : n < 9223372036854775808) : (IntKind.i64.wrap (n.tmod 4 + 4)).tmod 4 = n % 4 := by
  have h2 : n.tmod 4 = n % 4 ∨ n.tmod 4 = n % 4 - 4 := by
    rcases Int.lt_or_le n 0 with h | h
    · have h := @Int.tmod_eq_emod n 4
      have e : ((Int.natAbs 4 : Nat) : Int) = 4 := rfl
      split at h <;> omega
    · exact .inl (Int.tmod_eq_emod_of_nonneg h)
  rw [w64 (by omega) (by omega), Int.tmod_eq_emod_of_nonneg (by omega)]
  omega

theorem turn_some (z : C) (n : Int) (h0 : -9223372036854775808 ≤ n) (h1 : n < 9223372036854775808) : f_foghornref08_Turn z n = some (T (n % 4).toNat z) := by
  unfold f_foghornref08_Turn
  rw [mod4 n h0 h1]
  have key : ∀ (k : Nat) (z : C), k ≤ 3 → loop f_foghornref08_Turn.s1 (z, (k : Int)) = some (T k z) := by
    intro k
    induction k with
    | zero =>
      intro z hk
      apply loop_done
      simp only [f_foghornref08_Turn.s1, f_foghornref08_Turn.s1c]
      rw [if_neg (by simp)]; rfl
    | succ k ih =>
      intro z hk
      rw [loop_step (s' := ((fneg z.2, z.1), (k : Int)))]
      · exact ih _ (by omega)
      · simp only [f_foghornref08_Turn.s1, f_foghornref08_Turn.s1c]
        rw [if_pos (by simp <;> omega), w64 (by omega) (by omega)]
        congr 4
        omega
  have h3 : ((n % 4).toNat : Int) = n % 4 := Int.toNat_of_nonneg (by omega)
  have := key (n % 4).toNat z (by omega)
  rw [h3] at this
  rw [this]; rfl

theorem and3 (x : Int) : iand .i64 x 3 = x % 4 := by
  have e : iand .i64 x 3 = IntKind.i64.wrap (((BitVec.ofInt 64 x &&& BitVec.ofInt 64 3).toNat : Nat) : Int) := rfl
  have e3 : (BitVec.ofInt 64 3).toNat = 2 ^ 2 - 1 := by decide
  rw [e, BitVec.toNat_and, e3, Nat.and_two_pow_sub_one_eq_mod, BitVec.toNat_ofInt]
  have h : 0 ≤ x % ((2 ^ 64 : Nat) : Int) := Int.emod_nonneg _ (by decide)
  rw [w64 (by omega) (by omega)]
  omega

def ups (l : List C) (q : Int) : List C := (List.range l.length).map fun (i : Nat) => T (((i : Int) * q) % 4).toNat (gt l (i : Int))

theorem ups_len (l : List C) (q : Int) : (ups l q).length = l.length := by simp [ups]

def er (l : List C) : Int := if 65536 < l.length then 1 else 0

def cutl (l x : List C) : List C := if 65536 < l.length then [] else x

theorem turns_T (z : C) (k : Int) (h0 : 0 ≤ k) (h1 : k < 4) :
    (if k = (0 : Int) then f_mix_turns_1 z else if k = (1 : Int) then f_mix_turns_2 z else if k = (2 : Int) then f_mix_turns_3 z else f_mix_turns_4 z) = some (T k.toNat z) := by
  have : k = 0 ∨ k = 1 ∨ k = 2 ∨ k = 3 := by omega
  rcases this with rfl | rfl | rfl | rfl
  · rfl
  · rfl
  · rfl
  · show f_mix_turns_4 z = some (T 3 z)
    simp [f_mix_turns_4, T, fneg_fneg]

theorem own_up (l : List C) (q : Int) (h0 : -9223372036854775808 ≤ q) (h1 : q < 9223372036854775808) : f_mix_Up l q = some (cutl l (ups l q), er l) := by
  unfold f_mix_Up f_mix_fits f_mix_turns f_mix_by
  simp only [Option.bind_some]
  by_cases h : 65536 < l.length
  · rw [if_pos (by simp; omega)]; simp [cutl, er, h]
  · rw [if_neg (by simp; omega), if_pos (by omega), and3]
    have key : ∀ n i : Nat, i + n = l.length → loop (f_mix_Up.s1 l (q % 4)) (((i : Int) * q) % 4, (ups l q).take i, (i : Int)) = some (ups l q) := by
      intro n
      induction n with
      | zero =>
        intro i hi
        apply loop_done
        simp only [f_mix_Up.s1, f_mix_Up.s1c]
        rw [if_neg (by simp; omega), List.take_of_length_le (by rw [ups_len]; omega)]
      | succ n ih =>
        intro i hi
        refine (loop_step ?_).trans (ih (i + 1) (by omega))
        simp only [f_mix_Up.s1, f_mix_Up.s1c, f_mix_by]
        have hk : 0 ≤ ((i : Int) * q) % 4 ∧ ((i : Int) * q) % 4 < 4 := by omega
        rw [if_pos (by simp; omega), if_pos (by omega), if_pos hk, turns_T _ _ hk.1 hk.2]
        simp only [Option.bind_some]
        rw [if_pos (by simp [ups_len]; omega), and3, w64 (x := ((i : Int) * q) % 4 + q % 4) (by omega) (by omega), w64 (by omega) (by omega), List.take_succ_eq_append_getElem (by rw [ups_len]; omega)]
        have e : (((i : Int) * q) % 4 + q % 4) % 4 = (((i + 1 : Nat) : Int) * q) % 4 := by
          rw [← Int.add_emod]; congr 1
          rw [Int.natCast_add, Int.add_mul]; simp
        rw [e]
        simp [ups]
    have := key l.length 0 (by omega)
    simp only [Int.natCast_zero, Int.zero_mul, List.take_zero] at this
    have e0 : (0 : Int) % 4 = 0 := rfl
    rw [e0] at this
    have e1 : List.replicate ((0 : Int)).toNat (Fl.bits 0, Fl.bits 0) = [] := rfl
    rw [e1, this]; simp [cutl, er, h]

theorem ups_mod (l : List C) (a b : Int) (h : a % 4 = b % 4) : ups l a = ups l b := by
  unfold ups
  apply List.map_congr_left
  intro i _
  rw [Int.mul_emod, h, ← Int.mul_emod]

theorem float_self (x : Fl) : f_foghornref08_Float x x = some true := by
  unfold f_foghornref08_Float feq fne
  simp only [bne]
  cases (fcmp x x == some Ordering.eq) <;> rfl

theorem same_self (a : List C) (h : a.length ≤ 65536) : f_foghornref08_Same a a = some true := by
  unfold f_foghornref08_Same
  rw [if_neg (by simp)]
  have := loop_for1 (f := f_foghornref08_Same.s1 a a) a.length (.inl ()) (fun i hi => ?_) ?_
  · rw [this]; rfl
  · simp only [f_foghornref08_Same.s1, f_foghornref08_Same.s1c]
    rw [if_pos (by simpa using hi), if_pos (by omega), if_pos (by omega), float_self, float_self]
    simp only [Option.bind_some, Bool.not_true, Bool.false_eq_true, if_false]
    rw [if_pos (by omega), if_pos (by omega)]
    simp only [Option.bind_some, Bool.false_eq_true, if_false]
    rw [w64 (by omega) (by omega)]; rfl
  · simp only [f_foghornref08_Same.s1, f_foghornref08_Same.s1c]
    rw [if_neg (by simp)]

theorem fresh_self (x : List C) (h : x.length ≤ 65536) : f_foghornlaw08_fresh x x x = some true := by
  unfold f_foghornlaw08_fresh
  obtain ⟨y, hy, hyl⟩ : ∃ z, loop f_foghornlaw08_fresh.s1 (x, (0 : Int)) = some z ∧ z.length = x.length := by
    refine loop_inv (fun s : List C × Int => s.1.length = x.length ∧ 0 ≤ s.2 ∧ s.2 ≤ s.1.length) (fun s => s.1.length - s.2.toNat) (fun z : List C => z.length = x.length) ?_ _ ⟨rfl, by simp, by simp⟩
    rintro ⟨y, k⟩ ⟨h1, h2, h3⟩
    simp only at h1 h2 h3
    simp only [f_foghornlaw08_fresh.s1, f_foghornlaw08_fresh.s1c]
    by_cases hk : k < y.length
    · rw [if_pos (by simpa using hk), if_pos (by omega), w64 (by omega) (by omega)]
      exact .inl ⟨_, rfl, ⟨by simpa using h1, by simp; omega, by simp; omega⟩, by simp; omega⟩
    · rw [if_neg (by simpa using hk)]
      exact .inr ⟨_, rfl, h1⟩
  obtain ⟨z, hz, hzl⟩ : ∃ z, loop f_foghornlaw08_fresh.s2 (y, (0 : Int)) = some z ∧ z.length = y.length + 20 := by
    refine loop_inv (fun s : List C × Int => 0 ≤ s.2 ∧ s.2 ≤ 20 ∧ s.1.length = y.length + s.2.toNat) (fun s => 20 - s.2.toNat) (fun z : List C => z.length = y.length + 20) ?_ _ ⟨by simp, by simp, by simp⟩
    rintro ⟨x', k⟩ ⟨h1, h2, h3⟩
    simp only at h1 h2 h3
    simp only [f_foghornlaw08_fresh.s2, f_foghornlaw08_fresh.s2c]
    by_cases hk : k < 20
    · rw [if_pos (by simpa using hk), if_pos (by simp; omega), w64 (by omega) (by omega)]
      exact .inl ⟨_, rfl, ⟨by simp; omega, by simp; omega, by simp; omega⟩, by simp; omega⟩
    · rw [if_neg (by simpa using hk)]
      exact .inr ⟨_, rfl, by omega⟩
  rw [same_self x h]
  simp only [Option.bind_some, Bool.not_true, Bool.false_eq_true, if_false, hy, hz, Bool.true_and]
  rw [w64 (by omega) (by omega)]
  simp; omega

def nums (l : List Int) : List C := (List.range (l.length / 2)).map fun (i : Nat) => (Fl.bits (gt l ((2 * i : Nat) : Int)).toNat, Fl.bits (gt l ((2 * i + 1 : Nat) : Int)).toNat)

theorem nums_len (l : List Int) : (nums l).length = l.length / 2 := by simp [nums]

def mark : C := (Fl.bits 4651892959631900672, Fl.bits 0)

theorem numbers_some (l : List Int) (r : l.length * 8 ≤ 140737488351232) : f_foghornlaw08_numbers l = some (nums l, [mark]) := by
  unfold f_foghornlaw08_numbers
  have key : ∀ n i : Nat, i + n = l.length / 2 → loop (f_foghornlaw08_numbers.s1 l) ((nums l).take i, ((2 * i : Nat) : Int)) = some (nums l) := by
    intro n
    induction n with
    | zero =>
      intro i hi
      apply loop_done
      simp only [f_foghornlaw08_numbers.s1, f_foghornlaw08_numbers.s1c]
      rw [w64 (by omega) (by omega), if_neg (by simp; omega), List.take_of_length_le (by rw [nums_len]; omega)]
    | succ n ih =>
      intro i hi
      refine (loop_step ?_).trans (ih (i + 1) (by omega))
      simp only [f_foghornlaw08_numbers.s1, f_foghornlaw08_numbers.s1c]
      have e : ((2 * i : Nat) : Int) + 1 = ((2 * i + 1 : Nat) : Int) := by omega
      have e2 : ((2 * i : Nat) : Int) + 2 = ((2 * (i + 1) : Nat) : Int) := by omega
      rw [w64 (x := ((2 * i : Nat) : Int) + 1) (by omega) (by omega), w64 (x := ((2 * i : Nat) : Int) + 2) (by omega) (by omega), e, e2, if_pos (by simp; omega), if_pos (by omega), if_pos (by omega), if_pos (by simp [nums_len]; omega),
        List.take_succ_eq_append_getElem (by rw [nums_len]; omega)]
      simp [nums]
  have := key (l.length / 2) 0 (by omega)
  simp only [List.take_zero, Nat.mul_zero, Int.natCast_zero] at this
  rw [this]
  simp only [Option.bind_some, List.append_nil, Int.toNat_natCast]
  rw [if_pos (by simp [nums_len] <;> omega), if_pos (by simp <;> omega)]
  simp [mark]

theorem mark_self : ceq mark mark = true := by decide +kernel

theorem kept_some (l : List Int) (hw : ∀ x ∈ l, (Lit.int .u64 x).wf = true) (r : l.length * 8 ≤ 140737488351232) : f_foghornlaw08_kept (nums l) [mark] l = some true := by
  unfold f_foghornlaw08_kept
  have hn := nums_len l
  have h2 : (l.length : Int).tdiv 2 = ((l.length / 2 : Nat) : Int) := by
    rw [Int.tdiv_eq_ediv_of_nonneg (by omega)]; omega
  rw [h2, w64 (by omega) (by omega), if_neg (by simp [hn]), w64 (by omega) (by omega), if_pos (by simp; omega), if_pos (by simp; omega)]
  have hg : gt (((nums l) ++ [mark]).take (((nums l).length : Int) + 1).toNat) ((nums l).length : Int) = mark := by
    rw [List.take_of_length_le (by simp <;> omega), gt_nat (by simp)]; simp
  rw [hg]
  have hm : ceq mark (Fl.bits 4651892959631900672, Fl.bits 0) = true := mark_self
  rw [hm]
  simp only [Option.bind_some, Bool.not_true, Bool.false_eq_true, if_false]
  have := loop_for1 (f := f_foghornlaw08_kept.s1 (nums l) l) (nums l).length (.inl ()) (fun i hi => ?_) ?_
  · rw [this]; rfl
  · simp only [f_foghornlaw08_kept.s1, f_foghornlaw08_kept.s1c]
    have hgi : gt (nums l) (i : Int) = (Fl.bits (gt l ((2 * i : Nat) : Int)).toNat, Fl.bits (gt l ((2 * i + 1 : Nat) : Int)).toNat) := by
      rw [gt_nat hi]; simp [nums]
    have e0 : (2 : Int) * (i : Int) = ((2 * i : Nat) : Int) := by omega
    have e : ((2 * i : Nat) : Int) + 1 = ((2 * i + 1 : Nat) : Int) := by omega
    have k1 := wf_u64 (hw _ (gt_mem (xs := l) (i := ((2 * i : Nat) : Int)) (by omega) (by omega)))
    have k2 := wf_u64 (hw _ (gt_mem (xs := l) (i := ((2 * i + 1 : Nat) : Int)) (by omega) (by omega)))
    rw [if_pos (by simpa using hi), if_pos (by omega), hgi, e0, w64 (x := ((2 * i : Nat) : Int)) (by omega) (by omega), e, w64 (x := ((2 * i + 1 : Nat) : Int)) (by omega) (by omega)]
    simp only [fbits, Option.bind_some]
    rw [if_pos (by omega), Int.toNat_of_nonneg k1.1, if_neg (by simp), if_pos (by omega), if_pos (by omega), Int.toNat_of_nonneg k2.1]
    simp only [bne_self_eq_false, Option.bind_some, Bool.false_eq_true, if_false]
    rw [w64 (by omega) (by omega)]; rfl
  · simp only [f_foghornlaw08_kept.s1, f_foghornlaw08_kept.s1c]
    rw [if_neg (by simp)]

theorem cutl_len (l x : List C) (h : x.length = l.length) : (cutl l x).length ≤ 65536 := by
  unfold cutl
  split
  · simp
  · omega

theorem down_some (l : List C) : f_mix_Down l 1 = some (cutl l (ups l (-1)), er l) := by
  unfold f_mix_Down f_mix_by
  simp only [Option.bind_some]
  rw [and3, w64 (by omega) (by omega), own_up l _ (by omega) (by omega), ups_mod l (0 - 1 % 4) (-1) (by omega)]; rfl

def flat (l : List C) : List Fl := l.flatMap fun z => [z.1, z.2]
theorem flat_len (l : List C) : (flat l).length = 2 * l.length := by
  induction l with
  | nil => rfl
  | cons z l ih => simp [flat] at ih ⊢; omega
theorem flat_app (l : List C) (z : C) : flat (l ++ [z]) = flat l ++ [z.1, z.2] := by simp [flat]
theorem ups_get (l : List C) (q : Int) (i : Nat) (hi : i < l.length) : (ups l q)[i]'(by rw [ups_len]; exact hi) = T (((i : Int) * q) % 4).toNat (gt l (i : Int)) := by simp [ups]

theorem line_ref (l : List C) (h : l.length ≤ 32768) : f_foghornref08_Line l = some (flat (ups l 1), 0) := by
  unfold f_foghornref08_Line
  rw [if_neg (by simp; omega)]
  have := loop_for (f := f_foghornref08_Line.s1 l) l.length (fun i => flat ((ups l 1).take i)) (flat (ups l 1)) (fun i hi => ?_) ?_
  · simp only [List.take_zero] at this
    have e : flat [] = [] := rfl
    rw [e] at this
    rw [this]; rfl
  · simp only [f_foghornref08_Line.s1, f_foghornref08_Line.s1c]
    rw [if_pos (by simpa using hi), if_pos (by omega), turn_some _ _ (by omega) (by omega)]
    simp only [Option.bind_some]
    rw [if_pos (by simp [flat_len, ups_len]; omega), w64 (by omega) (by omega), List.take_succ_eq_append_getElem (by rw [ups_len]; exact hi), flat_app, ups_get l 1 i hi, Int.mul_one]; rfl
  · simp only [f_foghornref08_Line.s1, f_foghornref08_Line.s1c]
    rw [if_neg (by simp), List.take_of_length_le (by rw [ups_len]; exact Nat.le_refl _)]

theorem line_own (l : List C) (h : l.length ≤ 32768) : f_mix_Line l = some (flat (ups l 1), 0) := by
  unfold f_mix_Line f_mix_fits
  simp only [Option.bind_some]
  rw [w64 (by omega) (by omega), if_neg (by simp; omega), own_up l 1 (by omega) (by omega)]
  simp only [Option.bind_some]
  have hc : cutl l (ups l 1) = ups l 1 := by unfold cutl; rw [if_neg (by omega)]
  have hul := ups_len l 1
  rw [if_pos (by omega), hc]
  have := loop_for (f := f_mix_Line.s1 (ups l 1, er l)) l.length (fun i => flat ((ups l 1).take i)) (flat (ups l 1)) (fun i hi => ?_) ?_
  · simp only [List.take_zero] at this
    have e : flat [] = [] := rfl
    have e1 : List.replicate ((0 : Int)).toNat (Fl.bits 0) = [] := rfl
    rw [e] at this
    rw [e1, this]; rfl
  · simp only [f_mix_Line.s1, f_mix_Line.s1c]
    rw [if_pos (by simp [hul]; omega), if_pos (by omega), if_pos (by simp [flat_len, hul]; omega), w64 (by omega) (by omega), List.take_succ_eq_append_getElem (by rw [hul]; exact hi), flat_app, gt_nat (by rw [hul]; exact hi)]; rfl
  · simp only [f_mix_Line.s1, f_mix_Line.s1c]
    rw [if_neg (by simp [hul]), List.take_of_length_le (by rw [hul]; exact Nat.le_refl _)]

theorem line_same (l : List C) (hl : l.length ≤ 140737488351232) : ∃ x e, f_foghornref08_Line l = some (x, e) ∧ f_mix_Line l = some (x, e) ∧ x.length ≤ 65536 := by
  by_cases h : l.length ≤ 32768
  · exact ⟨_, _, line_ref l h, line_own l h, by rw [flat_len, ups_len]; omega⟩
  · refine ⟨[], 1, ?_, ?_, by simp⟩
    · unfold f_foghornref08_Line; rw [if_pos (by simp; omega)]
    · unfold f_mix_Line f_mix_fits
      simp only [Option.bind_some]
      rw [w64 (by omega) (by omega), if_pos (by simp; omega)]

def prs (r : List Fl) : List C := (List.range (r.length / 2)).map fun (i : Nat) => (gt r ((2 * i : Nat) : Int), gt r ((2 * i + 1 : Nat) : Int))
theorem prs_len (r : List Fl) : (prs r).length = r.length / 2 := by simp [prs]

theorem unline_same (r : List Fl) (hr : r.length ≤ 140737488351232) : ∃ x e, f_foghornref08_Unline r = some (x, e) ∧ f_mix_Unline r = some (x, e) ∧ x.length ≤ 65536 := by
  unfold f_foghornref08_Unline f_mix_Unline f_mix_fits
  simp only [Option.bind_some]
  have hm : (r.length : Int).tmod 2 = (r.length : Int) % 2 := Int.tmod_eq_emod_of_nonneg (by omega)
  have hd : (r.length : Int).tdiv 2 = (r.length : Int) / 2 := Int.tdiv_eq_ediv_of_nonneg (by omega)
  rw [hm, hd]
  by_cases h : r.length ≤ 65536 ∧ r.length % 2 = 0
  · rw [if_neg (by simp; omega), if_neg (by simp; omega), w64 (by omega) (by omega), if_pos (by omega)]
    have hpl := prs_len r
    have e2 : ∀ i : Nat, ((2 * i : Nat) : Int) + 2 = ((2 * (i + 1) : Nat) : Int) := by intro i; omega
    have e1 : ∀ i : Nat, ((2 * i : Nat) : Int) + 1 = ((2 * i + 1 : Nat) : Int) := by intro i; omega
    have k1 : ∀ n i : Nat, i + n = r.length / 2 → loop (f_foghornref08_Unline.s1 r) ((ups (prs r) (-1)).take i, ((2 * i : Nat) : Int)) = some (ups (prs r) (-1)) := by
      intro n
      induction n with
      | zero =>
        intro i hi
        apply loop_done
        simp only [f_foghornref08_Unline.s1, f_foghornref08_Unline.s1c]
        rw [w64 (by omega) (by omega), if_neg (by simp; omega), List.take_of_length_le (by rw [ups_len, hpl]; omega)]
      | succ n ih =>
        intro i hi
        refine (loop_step ?_).trans (ih (i + 1) (by omega))
        simp only [f_foghornref08_Unline.s1, f_foghornref08_Unline.s1c]
        have hdv : ((2 * i : Nat) : Int).tdiv 2 = (i : Int) := by rw [Int.tdiv_eq_ediv_of_nonneg (by omega)]; omega
        have hmv : (i : Int).tmod 4 = (i : Int) % 4 := Int.tmod_eq_emod_of_nonneg (by omega)
        have hmm : (0 - (i : Int) % 4) % 4 = ((i : Int) * (-1)) % 4 := by omega
        rw [w64 (x := ((2 * i : Nat) : Int) + 1) (by omega) (by omega), w64 (x := ((2 * i : Nat) : Int) + 2) (by omega) (by omega), e1, e2, hdv, w64 (x := (i : Int)) (by omega) (by omega), hmv, w64 (x := 0 - (i : Int) % 4) (by omega) (by omega),
          if_pos (by simp; omega), if_pos (by omega), if_pos (by omega), turn_some _ _ (by omega) (by omega), hmm]
        simp only [Option.bind_some]
        rw [if_pos (by simp [ups_len, hpl]; omega), List.take_succ_eq_append_getElem (by rw [ups_len, hpl]; omega), ups_get _ _ i (by rw [hpl]; omega), gt_nat (xs := prs r) (by rw [hpl]; omega)]
        simp [prs]
    have k2 : ∀ n i : Nat, i + n = r.length / 2 → loop (f_mix_Unline.s1 r) ((prs r).take i, ((2 * i : Nat) : Int)) = some (prs r) := by
      intro n
      induction n with
      | zero =>
        intro i hi
        apply loop_done
        simp only [f_mix_Unline.s1, f_mix_Unline.s1c]
        rw [if_neg (by simp; omega), List.take_of_length_le (by rw [hpl]; omega)]
      | succ n ih =>
        intro i hi
        refine (loop_step ?_).trans (ih (i + 1) (by omega))
        simp only [f_mix_Unline.s1, f_mix_Unline.s1c]
        rw [w64 (x := ((2 * i : Nat) : Int) + 1) (by omega) (by omega), w64 (x := ((2 * i : Nat) : Int) + 2) (by omega) (by omega), e1, e2, if_pos (by simp; omega), if_pos (by omega), if_pos (by omega), if_pos (by simp [hpl]; omega),
          List.take_succ_eq_append_getElem (by rw [hpl]; omega)]
        simp [prs]
    have k1' := k1 (r.length / 2) 0 (by omega)
    have k2' := k2 (r.length / 2) 0 (by omega)
    simp only [List.take_zero, Nat.mul_zero, Int.natCast_zero] at k1' k2'
    have e0 : List.replicate ((0 : Int)).toNat ((Fl.bits 0, Fl.bits 0) : C) = [] := rfl
    rw [k1', e0, k2']
    simp only [Option.bind_some]
    rw [down_some]
    have hc : cutl (prs r) (ups (prs r) (-1)) = ups (prs r) (-1) := by unfold cutl; rw [if_neg (by rw [hpl]; omega)]
    have he : er (prs r) = 0 := by unfold er; rw [if_neg (by rw [hpl]; omega)]
    rw [hc, he]
    exact ⟨_, _, rfl, rfl, by rw [ups_len, hpl]; omega⟩
  · rw [if_pos (by simp; omega), if_pos (by simp; omega)]
    exact ⟨[], 1, rfl, rfl, by simp⟩

theorem floats_self (a : List Fl) (h : a.length ≤ 65536) : f_foghornref08_Floats a a = some true := by
  unfold f_foghornref08_Floats
  rw [if_neg (by simp)]
  have := loop_for1 (f := f_foghornref08_Floats.s1 a a) a.length (.inl ()) (fun i hi => ?_) ?_
  · rw [this]; rfl
  · simp only [f_foghornref08_Floats.s1, f_foghornref08_Floats.s1c]
    rw [if_pos (by simpa using hi), if_pos (by omega), if_pos (by omega), float_self]
    simp only [Option.bind_some, Bool.not_true, Bool.false_eq_true, if_false]
    rw [w64 (by omega) (by omega)]; rfl
  · simp only [f_foghornref08_Floats.s1, f_foghornref08_Floats.s1c]
    rw [if_neg (by simp)]

def fls (r : List Int) : List Fl := r.map fun x => Fl.bits x.toNat
theorem fls_len (r : List Int) : (fls r).length = r.length := by simp [fls]
theorem fls_some (r : List Int) (h : r.length * 8 ≤ 140737488351232) : loop (f_foghornlaw08_MixLines.s1 r) ([], (0 : Int)) = some (fls r) := by
  have := loop_for (f := f_foghornlaw08_MixLines.s1 r) r.length (fun i => (fls r).take i) (fls r) (fun i hi => ?_) ?_
  · simpa using this
  · simp only [f_foghornlaw08_MixLines.s1, f_foghornlaw08_MixLines.s1c]
    rw [if_pos (by simpa using hi), if_pos (by omega), if_pos (by simp [fls_len]; omega), w64 (by omega) (by omega), List.take_succ_eq_append_getElem (by rw [fls_len]; exact hi), gt_nat hi]
    simp [fls]
  · simp only [f_foghornlaw08_MixLines.s1, f_foghornlaw08_MixLines.s1c]
    rw [if_neg (by simp), List.take_of_length_le (by rw [fls_len]; exact Nat.le_refl _)]

theorem fill_some (x : List Fl) (h : x.length ≤ 65536) : ∃ z, loop f_foghornlaw08_MixLines.s2 (x, (0 : Int)) = some z ∧ z.length = x.length := by
  refine loop_inv (fun s : List Fl × Int => s.1.length = x.length ∧ 0 ≤ s.2 ∧ s.2 ≤ s.1.length) (fun s => s.1.length - s.2.toNat) (fun z : List Fl => z.length = x.length) ?_ _ ⟨rfl, by simp, by simp⟩
  rintro ⟨y, k⟩ ⟨h1, h2, h3⟩
  simp only at h1 h2 h3
  simp only [f_foghornlaw08_MixLines.s2, f_foghornlaw08_MixLines.s2c]
  by_cases hk : k < y.length
  · rw [if_pos (by simpa using hk), if_pos (by omega), w64 (by omega) (by omega)]
    exact .inl ⟨_, rfl, ⟨by simpa using h1, by simp; omega, by simp; omega⟩, by simp; omega⟩
  · rw [if_neg (by simpa using hk)]
    exact .inr ⟨_, rfl, h1⟩
theorem grow_some (y : List Fl) (h : y.length ≤ 65536) : ∃ z, loop f_foghornlaw08_MixLines.s3 (y, (0 : Int)) = some z ∧ z.length = y.length + 20 := by
  refine loop_inv (fun s : List Fl × Int => 0 ≤ s.2 ∧ s.2 ≤ 20 ∧ s.1.length = y.length + s.2.toNat) (fun s => 20 - s.2.toNat) (fun z : List Fl => z.length = y.length + 20) ?_ _ ⟨by simp, by simp, by simp⟩
  rintro ⟨x', k⟩ ⟨h1, h2, h3⟩
  simp only at h1 h2 h3
  simp only [f_foghornlaw08_MixLines.s3, f_foghornlaw08_MixLines.s3c]
  by_cases hk : k < 20
  · rw [if_pos (by simpa using hk), if_pos (by simp; omega), w64 (by omega) (by omega)]
    exact .inl ⟨_, rfl, ⟨by simp; omega, by simp; omega, by simp; omega⟩, by simp; omega⟩
  · rw [if_neg (by simpa using hk)]
    exact .inr ⟨_, rfl, by omega⟩

theorem fmark_self : fne (Fl.bits 4651892959631900672) (Fl.bits 4651892959631900672) = false := by decide +kernel

theorem lines_true (l : List Int) (w0 : ∀ x ∈ l, (Lit.int .u64 x).wf = true) (r0 : l.length * 8 ≤ 140737488351232) (r : List Int) (w1 : ∀ x ∈ r, (Lit.int .u64 x).wf = true) (r1 : r.length * 8 ≤ 140737488351232) :
    f_foghornlaw08_MixLines l r = some true := by
  unfold f_foghornlaw08_MixLines
  have hfl := fls_len r
  have hnl := nums_len l
  rw [numbers_some l r0, fls_some r r1]
  simp only [Option.bind_some, List.nil_append, List.append_nil, List.length_nil, Nat.zero_add, Int.toNat_natCast]
  have htk : ((fls r) ++ [Fl.bits 4651892959631900672]).take (fls r).length = fls r := by simp
  have hdr : ((fls r) ++ [Fl.bits 4651892959631900672]).drop (fls r).length = [Fl.bits 4651892959631900672] := by simp
  rw [if_pos (by omega), if_pos (by simp [hfl]; omega), if_pos (by simp; omega), htk, hdr]
  obtain ⟨x, e, c1, c2, c3⟩ := line_same (nums l) (by omega)
  obtain ⟨y, f, d1, d2, d3⟩ := unline_same (fls r) (by omega)
  obtain ⟨z1, g1, g2⟩ := fill_some x c3
  obtain ⟨z2, g3, g4⟩ := grow_some z1 (by omega)
  rw [c1, c2, d1, d2]
  simp only [Option.bind_some, bne_self_eq_false, Bool.false_eq_true, if_false, floats_self x c3, Bool.not_true, kept_some l w0 r0, g1, g3, fresh_self y d3, Bool.false_or]
  have hg : gt ((fls r ++ [Fl.bits 4651892959631900672]).take (((fls r).length : Int) + 1).toNat) ((fls r).length : Int) = Fl.bits 4651892959631900672 := by
    rw [List.take_of_length_le (by simp <;> omega), gt_nat (by simp)]; simp
  rw [w64 (x := ((fls r).length : Int) + 1) (by omega) (by omega), if_neg (by simp; omega), if_pos (by simp; omega), if_pos (by simp; omega), hg, fmark_self]
  simp only [Option.bind_some, Bool.false_eq_true, if_false]
  have := loop_for1 (f := f_foghornlaw08_MixLines.s4 r (fls r)) r.length (.inl ()) (fun i hi => ?_) ?_
  · rw [this]; rfl
  · have k1 := wf_u64 (w1 _ (gt_mem (xs := r) (i := (i : Int)) (by omega) (by omega)))
    have hgi : gt (fls r) (i : Int) = Fl.bits (gt r (i : Int)).toNat := by rw [gt_nat (by rw [hfl]; exact hi), gt_nat hi]; simp [fls]
    simp only [f_foghornlaw08_MixLines.s4, f_foghornlaw08_MixLines.s4c, List.nil_append, List.append_nil, Int.toNat_natCast, htk]
    rw [if_pos (by simp [hfl]; omega), if_pos (by omega), hgi]
    simp only [fbits, Option.bind_some]
    rw [if_pos (by omega), Int.toNat_of_nonneg k1.1, if_neg (by simp), w64 (by omega) (by omega)]; rfl
  · simp only [f_foghornlaw08_MixLines.s4, f_foghornlaw08_MixLines.s4c, List.nil_append, List.append_nil, Int.toNat_natCast, htk]
    rw [if_neg (by simp [hfl])]
end Go.Proofs.Ytfppofbdmhihpaa
