/- MixMoves: the plain law. -/
import Derived.Test.YtfppofbdmhihpaaG1
import Derived.Test.YtfppofbdmhihpaaGlK
set_option linter.unusedVariables false
namespace Go.Proofs.Ytfppofbdmhihpaa
open GL

abbrev C := Fl × Fl
theorem wf_u64 {x : Int} (h : (Lit.int .u64 x).wf = true) : 0 ≤ x ∧ x < 18446744073709551616 := by
  simp [Lit.wf, IntKind.min, IntKind.max, IntKind.bits, IntKind.signed] at h
  omega
theorem fneg_fneg (x : Fl) : fneg (fneg x) = x := by
  cases x with
  | bits b =>
    show Fl.bits ((b ^^^ 2 ^ 63) ^^^ 2 ^ 63) = Fl.bits b
    rw [Nat.xor_assoc, Nat.xor_self, Nat.xor_zero]
  | nan => rfl

/-- turned by k quarters -/
def T : Nat → C → C
  | 0, z => z
  | k + 1, z => T k (fneg z.2, z.1)

theorem mod4 (n : Int) (h0 : -9223372036854775808 ≤ n) (h1 : n < 9223372036854775808) : (IntKind.i64.wrap (n.tmod 4 + 4)).tmod 4 = n % 4 := by
  have h2 : n.tmod 4 = n % 4 ∨ n.tmod 4 = n % 4 - 4 := by
    rcases Int.lt_or_le n 0 with h | h
    · have h := @Int.tmod_eq_emod n 4
      have e : ((Int.natAbs 4 : Nat) : Int) = 4 := rfl
      split at h <;> omega
    · exact .inl (Int.tmod_eq_emod_of_nonneg h)
  rw [w64 (by omega) (by omega), Int.tmod_eq_emod_of_nonneg (by omega)]
  omega

theorem turn_some (z : C) (n : Int) (h0 : -9223372036854775808 ≤ n) (h1 : n < 9223372036854775808) : f_foghornref08_Turn z n = some (T (n % 4).toNat z) := by
  unfold f_foghornref08_Turn
  rw [mod4 n h0 h1]
  have key : ∀ (k : Nat) (z : C), k ≤ 3 → loop f_foghornref08_Turn.s1 (z, (k : Int)) = some (T k z) := by
    intro k
    induction k with
    | zero =>
      intro z hk
      apply loop_done
      simp only [f_foghornref08_Turn.s1, f_foghornref08_Turn.s1c]
      rw [if_neg (by simp)]; rfl
    | succ k ih =>
      intro z hk
      rw [loop_step (s' := ((fneg z.2, z.1), (k : Int)))]
      · exact ih _ (by omega)
      · simp only [f_foghornref08_Turn.s1, f_foghornref08_Turn.s1c]
        rw [if_pos (by simp <;> omega), w64 (by omega) (by omega)]
        congr 4
        omega
  have h3 : ((n % 4).toNat : Int) = n % 4 := Int.toNat_of_nonneg (by omega)
  have := key (n % 4).toNat z (by omega)
  rw [h3] at this
  rw [this]; rfl

theorem and3 (x : Int) : iand .i64 x 3 = x % 4 := by
  have e : iand .i64 x 3 = IntKind.i64.wrap (((BitVec.ofInt 64 x &&& BitVec.ofInt 64 3).toNat : Nat) : Int) := rfl
  have e3 : (BitVec.ofInt 64 3).toNat = 2 ^ 2 - 1 := by decide
  rw [e, BitVec.toNat_and, e3, Nat.and_two_pow_sub_one_eq_mod, BitVec.toNat_ofInt]
  have h : 0 ≤ x % ((2 ^ 64 : Nat) : Int) := Int.emod_nonneg _ (by decide)
  rw [w64 (by omega) (by omega)]
  omega

def ups (l : List C) (q : Int) : List C := (List.range l.length).map fun (i : Nat) => T (((i : Int) * q) % 4).toNat (gt l (i : Int))
theorem ups_len (l : List C) (q : Int) : (ups l q).length = l.length := by simp [ups]

def er (l : List C) : Int := if 65536 < l.length then 1 else 0
def cutl (l x : List C) : List C := if 65536 < l.length then [] else x

theorem ref_up (l : List C) (q : Int) (h0 : -9223372036854775808 ≤ q) (h1 : q < 9223372036854775808) : f_foghornref08_Up l q = some (cutl l (ups l q), er l) := by
  unfold f_foghornref08_Up
  by_cases h : 65536 < l.length
  · rw [if_pos (by simp; omega)]; simp [cutl, er, h]
  · rw [if_neg (by simp; omega)]
    have := loop_for (f := f_foghornref08_Up.s1 l q) l.length (fun i => (ups l q).take i) (ups l q) (fun i hi => ?_) ?_
    · simp only [List.take_zero] at this
      rw [this]; simp [cutl, er, h]
    · simp only [f_foghornref08_Up.s1, f_foghornref08_Up.s1c]
      have hm : (i : Int).tmod 4 = (i : Int) % 4 := Int.tmod_eq_emod_of_nonneg (by omega)
      have hb : 0 ≤ ((i : Int) % 4) * (q % 4) ∧ ((i : Int) % 4) * (q % 4) ≤ 9 := by
        refine ⟨Int.mul_nonneg (by omega) (by omega), ?_⟩
        have := Int.mul_le_mul (show (i : Int) % 4 ≤ 3 by omega) (show q % 4 ≤ 3 by omega) (by omega) (by omega)
        omega
      have hmod : ((i : Int) % 4 * (q % 4)) % 4 = ((i : Int) * q) % 4 := by rw [← Int.mul_emod]
      rw [if_pos (by simpa using hi), if_pos (by omega), mod4 q h0 h1, hm, w64 (x := (i : Int) % 4 * (q % 4)) (by omega) (by omega), turn_some _ _ (by omega) (by omega), hmod]
      simp only [Option.bind_some]
      rw [if_pos (by simp [ups_len]; omega), w64 (by omega) (by omega), List.take_succ_eq_append_getElem (by rw [ups_len]; exact hi)]
      simp [ups]
    · simp only [f_foghornref08_Up.s1, f_foghornref08_Up.s1c]
      rw [if_neg (by simp), List.take_of_length_le (by rw [ups_len]; exact Nat.le_refl _)]

theorem turns_T (z : C) (k : Int) (h0 : 0 ≤ k) (h1 : k < 4) :
    (if k = (0 : Int) then f_mix_turns_1 z else if k = (1 : Int) then f_mix_turns_2 z else if k = (2 : Int) then f_mix_turns_3 z else f_mix_turns_4 z) = some (T k.toNat z) := by
  have : k = 0 ∨ k = 1 ∨ k = 2 ∨ k = 3 := by omega
  rcases this with rfl | rfl | rfl | rfl
  · rfl
  · rfl
  · rfl
  · show f_mix_turns_4 z = some (T 3 z)
    simp [f_mix_turns_4, T, fneg_fneg]

theorem own_up (l : List C) (q : Int) (h0 : -9223372036854775808 ≤ q) (h1 : q < 9223372036854775808) : f_mix_Up l q = some (cutl l (ups l q), er l) := by
  unfold f_mix_Up f_mix_fits f_mix_turns f_mix_by
  simp only [Option.bind_some]
  by_cases h : 65536 < l.length
  · rw [if_pos (by simp; omega)]; simp [cutl, er, h]
  · rw [if_neg (by simp; omega), if_pos (by omega), and3]
    have key : ∀ n i : Nat, i + n = l.length → loop (f_mix_Up.s1 l (q % 4)) (((i : Int) * q) % 4, (ups l q).take i, (i : Int)) = some (ups l q) := by
      intro n
      induction n with
      | zero =>
        intro i hi
        apply loop_done
        simp only [f_mix_Up.s1, f_mix_Up.s1c]
        rw [if_neg (by simp; omega), List.take_of_length_le (by rw [ups_len]; omega)]
      | succ n ih =>
        intro i hi
        refine (loop_step ?_).trans (ih (i + 1) (by omega))
        simp only [f_mix_Up.s1, f_mix_Up.s1c, f_mix_by]
        have hk : 0 ≤ ((i : Int) * q) % 4 ∧ ((i : Int) * q) % 4 < 4 := by omega
        rw [if_pos (by simp; omega), if_pos (by omega), if_pos hk, turns_T _ _ hk.1 hk.2]
        simp only [Option.bind_some]
        rw [if_pos (by simp [ups_len]; omega), and3, w64 (x := ((i : Int) * q) % 4 + q % 4) (by omega) (by omega), w64 (by omega) (by omega), List.take_succ_eq_append_getElem (by rw [ups_len]; omega)]
        have e : (((i : Int) * q) % 4 + q % 4) % 4 = (((i + 1 : Nat) : Int) * q) % 4 := by
          rw [← Int.add_emod]; congr 1
          rw [Int.natCast_add, Int.add_mul]; simp
        rw [e]
        simp [ups]
    have := key l.length 0 (by omega)
    simp only [Int.natCast_zero, Int.zero_mul, List.take_zero] at this
    have e0 : (0 : Int) % 4 = 0 := rfl
    rw [e0] at this
    have e1 : List.replicate ((0 : Int)).toNat (Fl.bits 0, Fl.bits 0) = [] := rfl
    rw [e1, this]; simp [cutl, er, h]

theorem ups_mod (l : List C) (a b : Int) (h : a % 4 = b % 4) : ups l a = ups l b := by
  unfold ups
  apply List.map_congr_left
  intro i _
  rw [Int.mul_emod, h, ← Int.mul_emod]

theorem down_same (l : List C) (q : Int) (h0 : -9223372036854775808 ≤ q) (h1 : q < 9223372036854775808) :
    f_foghornref08_Down l q = some (cutl l (ups l (-q)), er l) ∧ f_mix_Down l q = some (cutl l (ups l (-q)), er l) := by
  constructor
  · unfold f_foghornref08_Down
    rw [mod4 q h0 h1, w64 (by omega) (by omega), ref_up l _ (by omega) (by omega), ups_mod l (4 - q % 4) (-q) (by omega)]; rfl
  · unfold f_mix_Down f_mix_by
    simp only [Option.bind_some]
    rw [and3, w64 (by omega) (by omega), own_up l _ (by omega) (by omega), ups_mod l (0 - q % 4) (-q) (by omega)]; rfl

def mir (l : List C) : List C := l.map fun z => (z.1, fneg z.2)
theorem mirror_same (l : List C) : f_foghornref08_Mirror l = some (cutl l (mir l), er l) ∧ f_mix_Mirror l = some (cutl l (mir l), er l) := by
  have hml : (mir l).length = l.length := by simp [mir]
  have tk : ∀ i (hi : i < l.length), (mir l).take (i + 1) = (mir l).take i ++ [((gt l (i : Int)).1, fneg (gt l (i : Int)).2)] := by
    intro i hi
    rw [List.take_succ_eq_append_getElem (by rw [hml]; exact hi), gt_nat hi]; simp [mir]
  constructor
  · unfold f_foghornref08_Mirror
    by_cases h : 65536 < l.length
    · rw [if_pos (by simp; omega)]; simp [cutl, er, h]
    · rw [if_neg (by simp; omega)]
      have := loop_for (f := f_foghornref08_Mirror.s1 l) l.length (fun i => (mir l).take i) (mir l) (fun i hi => ?_) ?_
      · simp only [List.take_zero] at this
        rw [this]; simp [cutl, er, h]
      · simp only [f_foghornref08_Mirror.s1, f_foghornref08_Mirror.s1c]
        rw [if_pos (by simpa using hi), if_pos (by omega), if_pos (by omega), if_pos (by simp [hml]; omega), w64 (by omega) (by omega), tk i hi]; rfl
      · simp only [f_foghornref08_Mirror.s1, f_foghornref08_Mirror.s1c]
        rw [if_neg (by simp), List.take_of_length_le (by rw [hml]; exact Nat.le_refl _)]
  · unfold f_mix_Mirror f_mix_fits
    simp only [Option.bind_some]
    by_cases h : 65536 < l.length
    · rw [if_pos (by simp; omega)]; simp [cutl, er, h]
    · rw [if_neg (by simp; omega), if_pos (by omega)]
      have := loop_for (f := f_mix_Mirror.s1 l) l.length (fun i => (mir l).take i) (mir l) (fun i hi => ?_) ?_
      · simp only [List.take_zero] at this
        have e1 : List.replicate ((0 : Int)).toNat (Fl.bits 0, Fl.bits 0) = [] := rfl
        rw [e1, this]; simp [cutl, er, h]
      · simp only [f_mix_Mirror.s1, f_mix_Mirror.s1c]
        rw [if_pos (by simpa using hi), if_pos (by omega), if_pos (by simp [hml]; omega), w64 (by omega) (by omega), tk i hi]; rfl
      · simp only [f_mix_Mirror.s1, f_mix_Mirror.s1c]
        rw [if_neg (by simp), List.take_of_length_le (by rw [hml]; exact Nat.le_refl _)]

theorem float_self (x : Fl) : f_foghornref08_Float x x = some true := by
  unfold f_foghornref08_Float feq fne
  simp only [bne]
  cases (fcmp x x == some Ordering.eq) <;> rfl

theorem same_self (a : List C) (h : a.length ≤ 65536) : f_foghornref08_Same a a = some true := by
  unfold f_foghornref08_Same
  rw [if_neg (by simp)]
  have := loop_for1 (f := f_foghornref08_Same.s1 a a) a.length (.inl ()) (fun i hi => ?_) ?_
  · rw [this]; rfl
  · simp only [f_foghornref08_Same.s1, f_foghornref08_Same.s1c]
    rw [if_pos (by simpa using hi), if_pos (by omega), if_pos (by omega), float_self, float_self]
    simp only [Option.bind_some, Bool.not_true, Bool.false_eq_true, if_false]
    rw [if_pos (by omega), if_pos (by omega)]
    simp only [Option.bind_some, Bool.false_eq_true, if_false]
    rw [w64 (by omega) (by omega)]; rfl
  · simp only [f_foghornref08_Same.s1, f_foghornref08_Same.s1c]
    rw [if_neg (by simp)]

theorem fresh_self (x : List C) (h : x.length ≤ 65536) : f_foghornlaw08_fresh x x x = some true := by
  unfold f_foghornlaw08_fresh
  obtain ⟨y, hy, hyl⟩ : ∃ z, loop f_foghornlaw08_fresh.s1 (x, (0 : Int)) = some z ∧ z.length = x.length := by
    refine loop_inv (fun s : List C × Int => s.1.length = x.length ∧ 0 ≤ s.2 ∧ s.2 ≤ s.1.length) (fun s => s.1.length - s.2.toNat) (fun z : List C => z.length = x.length) ?_ _ ⟨rfl, by simp, by simp⟩
    rintro ⟨y, k⟩ ⟨h1, h2, h3⟩
    simp only at h1 h2 h3
    simp only [f_foghornlaw08_fresh.s1, f_foghornlaw08_fresh.s1c]
    by_cases hk : k < y.length
    · rw [if_pos (by simpa using hk), if_pos (by omega), w64 (by omega) (by omega)]
      exact .inl ⟨_, rfl, ⟨by simpa using h1, by simp; omega, by simp; omega⟩, by simp; omega⟩
    · rw [if_neg (by simpa using hk)]
      exact .inr ⟨_, rfl, h1⟩
  obtain ⟨z, hz, hzl⟩ : ∃ z, loop f_foghornlaw08_fresh.s2 (y, (0 : Int)) = some z ∧ z.length = y.length + 20 := by
    refine loop_inv (fun s : List C × Int => 0 ≤ s.2 ∧ s.2 ≤ 20 ∧ s.1.length = y.length + s.2.toNat) (fun s => 20 - s.2.toNat) (fun z : List C => z.length = y.length + 20) ?_ _ ⟨by simp, by simp, by simp⟩
    rintro ⟨x', k⟩ ⟨h1, h2, h3⟩
    simp only at h1 h2 h3
    simp only [f_foghornlaw08_fresh.s2, f_foghornlaw08_fresh.s2c]
    by_cases hk : k < 20
    · rw [if_pos (by simpa using hk), if_pos (by simp; omega), w64 (by omega) (by omega)]
      exact .inl ⟨_, rfl, ⟨by simp; omega, by simp; omega, by simp; omega⟩, by simp; omega⟩
    · rw [if_neg (by simpa using hk)]
      exact .inr ⟨_, rfl, by omega⟩
  rw [same_self x h]
  simp only [Option.bind_some, Bool.not_true, Bool.false_eq_true, if_false, hy, hz, Bool.true_and]
  rw [w64 (by omega) (by omega)]
  simp; omega

def one : C := (Fl.bits 4607182418800017408, Fl.bits 0)
theorem carrier_same (q n : Int) (h0 : -9223372036854775808 ≤ q) (h1 : q < 9223372036854775808) : ∃ x e, f_foghornref08_Carrier q n = some (x, e) ∧ f_mix_Carrier q n = some (x, e) ∧ x.length ≤ 65536 := by
  unfold f_foghornref08_Carrier f_mix_Carrier f_mix_fits
  by_cases h : n < 0 ∨ 65536 < n
  · refine ⟨[], 1, ?_, ?_, by simp⟩
    · rw [if_pos (by simpa using h)]
    · by_cases hn : n < 0
      · rw [if_pos (by simpa using hn)]; rfl
      · rw [if_neg (by simpa using hn)]
        simp only [Option.bind_some]
        rw [if_pos (by simp; omega)]
  · obtain ⟨m, rfl⟩ : ∃ m : Nat, n = (m : Int) := ⟨n.toNat, by omega⟩
    rw [if_neg (by simpa using h), if_neg (by simp <;> omega)]
    simp only [Option.bind_some]
    rw [if_neg (by simp; omega), if_pos (by omega), Int.toNat_natCast]
    have e1 : loop (f_foghornref08_Carrier.s1 (m : Int)) ([], (0 : Int)) = some (List.replicate m one) := by
      have := loop_for (f := f_foghornref08_Carrier.s1 (m : Int)) m (fun i => List.replicate i one) (List.replicate m one) (fun i hi => ?_) ?_
      · simpa using this
      · simp only [f_foghornref08_Carrier.s1, f_foghornref08_Carrier.s1c]
        rw [if_pos (by simpa using hi), if_pos (by simp; omega), w64 (by omega) (by omega), List.replicate_succ']
        try rfl
      · simp only [f_foghornref08_Carrier.s1, f_foghornref08_Carrier.s1c]
        rw [if_neg (by simp)]
    have e2 : loop (f_mix_Carrier.s1 (m : Int)) (List.replicate m (Fl.bits 0, Fl.bits 0), (0 : Int)) = some (List.replicate m one) := by
      have := loop_for (f := f_mix_Carrier.s1 (m : Int)) m (fun i => List.replicate i one ++ List.replicate (m - i) (Fl.bits 0, Fl.bits 0)) (List.replicate m one) (fun i hi => ?_) ?_
      · simpa using this
      · simp only [f_mix_Carrier.s1, f_mix_Carrier.s1c, Int.toNat_natCast]
        rw [if_pos (by simp; omega), if_pos (by simp; omega), w64 (by omega) (by omega), List.set_append_right _ _ (by simp)]
        have e3 : List.replicate (m - i) ((Fl.bits 0, Fl.bits 0) : C) = (Fl.bits 0, Fl.bits 0) :: List.replicate (m - (i + 1)) (Fl.bits 0, Fl.bits 0) := by
          rw [← List.replicate_succ]; congr 1; omega
        rw [e3, List.replicate_succ']
        simp [one]
      · simp only [f_mix_Carrier.s1, f_mix_Carrier.s1c, Int.toNat_natCast]
        rw [if_neg (by simp)]; simp
    rw [e1, e2]
    simp only [Option.bind_some]
    rw [ref_up _ q h0 h1, own_up _ q h0 h1]
    refine ⟨_, _, rfl, rfl, ?_⟩
    unfold cutl
    split
    · simp
    · rw [ups_len]; simp; omega

def nums (l : List Int) : List C := (List.range (l.length / 2)).map fun (i : Nat) => (Fl.bits (gt l ((2 * i : Nat) : Int)).toNat, Fl.bits (gt l ((2 * i + 1 : Nat) : Int)).toNat)
theorem nums_len (l : List Int) : (nums l).length = l.length / 2 := by simp [nums]
def mark : C := (Fl.bits 4651892959631900672, Fl.bits 0)

theorem numbers_some (l : List Int) (r : l.length * 8 ≤ 140737488351232) : f_foghornlaw08_numbers l = some (nums l, [mark]) := by
  unfold f_foghornlaw08_numbers
  have key : ∀ n i : Nat, i + n = l.length / 2 → loop (f_foghornlaw08_numbers.s1 l) ((nums l).take i, ((2 * i : Nat) : Int)) = some (nums l) := by
    intro n
    induction n with
    | zero =>
      intro i hi
      apply loop_done
      simp only [f_foghornlaw08_numbers.s1, f_foghornlaw08_numbers.s1c]
      rw [w64 (by omega) (by omega), if_neg (by simp; omega), List.take_of_length_le (by rw [nums_len]; omega)]
    | succ n ih =>
      intro i hi
      refine (loop_step ?_).trans (ih (i + 1) (by omega))
      simp only [f_foghornlaw08_numbers.s1, f_foghornlaw08_numbers.s1c]
      have e : ((2 * i : Nat) : Int) + 1 = ((2 * i + 1 : Nat) : Int) := by omega
      have e2 : ((2 * i : Nat) : Int) + 2 = ((2 * (i + 1) : Nat) : Int) := by omega
      rw [w64 (x := ((2 * i : Nat) : Int) + 1) (by omega) (by omega), w64 (x := ((2 * i : Nat) : Int) + 2) (by omega) (by omega), e, e2, if_pos (by simp; omega), if_pos (by omega), if_pos (by omega), if_pos (by simp [nums_len]; omega),
        List.take_succ_eq_append_getElem (by rw [nums_len]; omega)]
      simp [nums]
  have := key (l.length / 2) 0 (by omega)
  simp only [List.take_zero, Nat.mul_zero, Int.natCast_zero] at this
  rw [this]
  simp only [Option.bind_some, List.append_nil, Int.toNat_natCast]
  rw [if_pos (by simp [nums_len] <;> omega), if_pos (by simp <;> omega)]
  simp [mark]

theorem mark_self : ceq mark mark = true := by decide +kernel

theorem kept_some (l : List Int) (hw : ∀ x ∈ l, (Lit.int .u64 x).wf = true) (r : l.length * 8 ≤ 140737488351232) : f_foghornlaw08_kept (nums l) [mark] l = some true := by
  unfold f_foghornlaw08_kept
  have hn := nums_len l
  have h2 : (l.length : Int).tdiv 2 = ((l.length / 2 : Nat) : Int) := by
    rw [Int.tdiv_eq_ediv_of_nonneg (by omega)]; omega
  rw [h2, w64 (by omega) (by omega), if_neg (by simp [hn]), w64 (by omega) (by omega), if_pos (by simp; omega), if_pos (by simp; omega)]
  have hg : gt (((nums l) ++ [mark]).take (((nums l).length : Int) + 1).toNat) ((nums l).length : Int) = mark := by
    rw [List.take_of_length_le (by simp <;> omega), gt_nat (by simp)]; simp
  rw [hg]
  have hm : ceq mark (Fl.bits 4651892959631900672, Fl.bits 0) = true := mark_self
  rw [hm]
  simp only [Option.bind_some, Bool.not_true, Bool.false_eq_true, if_false]
  have := loop_for1 (f := f_foghornlaw08_kept.s1 (nums l) l) (nums l).length (.inl ()) (fun i hi => ?_) ?_
  · rw [this]; rfl
  · simp only [f_foghornlaw08_kept.s1, f_foghornlaw08_kept.s1c]
    have hgi : gt (nums l) (i : Int) = (Fl.bits (gt l ((2 * i : Nat) : Int)).toNat, Fl.bits (gt l ((2 * i + 1 : Nat) : Int)).toNat) := by
      rw [gt_nat hi]; simp [nums]
    have e0 : (2 : Int) * (i : Int) = ((2 * i : Nat) : Int) := by omega
    have e : ((2 * i : Nat) : Int) + 1 = ((2 * i + 1 : Nat) : Int) := by omega
    have k1 := wf_u64 (hw _ (gt_mem (xs := l) (i := ((2 * i : Nat) : Int)) (by omega) (by omega)))
    have k2 := wf_u64 (hw _ (gt_mem (xs := l) (i := ((2 * i + 1 : Nat) : Int)) (by omega) (by omega)))
    rw [if_pos (by simpa using hi), if_pos (by omega), hgi, e0, w64 (x := ((2 * i : Nat) : Int)) (by omega) (by omega), e, w64 (x := ((2 * i + 1 : Nat) : Int)) (by omega) (by omega)]
    simp only [fbits, Option.bind_some]
    rw [if_pos (by omega), Int.toNat_of_nonneg k1.1, if_neg (by simp), if_pos (by omega), if_pos (by omega), Int.toNat_of_nonneg k2.1]
    simp only [bne_self_eq_false, Option.bind_some, Bool.false_eq_true, if_false]
    rw [w64 (by omega) (by omega)]; rfl
  · simp only [f_foghornlaw08_kept.s1, f_foghornlaw08_kept.s1c]
    rw [if_neg (by simp)]

theorem turn_some2 (z : List C) (h : z.length ≤ 140737488351232) : ∃ y, loop f_foghornlaw08_MixMoves.s2 (z, (0 : Int)) = some y ∧ y.length = z.length := by
  refine loop_inv (fun s : List C × Int => s.1.length = z.length ∧ 0 ≤ s.2 ∧ s.2 ≤ s.1.length) (fun s => s.1.length - s.2.toNat) (fun y : List C => y.length = z.length) ?_ _ ⟨rfl, by simp, by simp⟩
  rintro ⟨y, k⟩ ⟨h1, h2, h3⟩
  simp only at h1 h2 h3
  simp only [f_foghornlaw08_MixMoves.s2, f_foghornlaw08_MixMoves.s2c]
  by_cases hk : k < y.length
  · rw [if_pos (by simpa using hk), if_pos (by omega), if_pos (by omega), w64 (by omega) (by omega)]
    exact .inl ⟨_, rfl, ⟨by simpa using h1, by simp; omega, by simp; omega⟩, by simp; omega⟩
  · rw [if_neg (by simpa using hk)]
    exact .inr ⟨_, rfl, h1⟩

theorem cutl_len (l x : List C) (h : x.length = l.length) : (cutl l x).length ≤ 65536 := by
  unfold cutl
  split
  · simp
  · omega

theorem round_some (l : List Int) (hw : ∀ x ∈ l, (Lit.int .u64 x).wf = true) (rl : l.length * 8 ≤ 140737488351232) (q : Int) (h0 : -9223372036854775808 ≤ q) (h1 : q < 9223372036854775808)
    (z : List C) (r : Int) (hz : z.length = (nums l).length) (hr : 0 ≤ r) (hr2 : r < 2) (hz0 : r = 0 → z = nums l) :
    ∃ y, f_foghornlaw08_MixMoves.s1 l q (nums l, [mark]) (z, r) = some (.inl (y, r + 1)) ∧ y.length = (nums l).length := by
  have hnl := nums_len l
  obtain ⟨y, hy, hyl⟩ := turn_some2 z (by omega)
  refine ⟨y, ?_, by omega⟩
  obtain ⟨d1, d2⟩ := down_same z q h0 h1
  obtain ⟨m1, m2⟩ := mirror_same z
  simp only [f_foghornlaw08_MixMoves.s1, f_foghornlaw08_MixMoves.s1c]
  rw [if_pos (by simpa using hr2), ref_up z q h0 h1, own_up z q h0 h1, d1, d2, m1, m2]
  simp only [Option.bind_some, bne_self_eq_false, Bool.or_false, Bool.false_eq_true, if_false, fresh_self _ (cutl_len z _ (ups_len z q)), fresh_self _ (cutl_len z _ (ups_len z (-q))), fresh_self _ (cutl_len z (mir z) (by simp [mir])), Bool.not_true]
  by_cases hr0 : r = 0
  · rw [if_pos (by simp [hr0]), hz0 hr0, kept_some l hw rl]
    rw [hz0 hr0] at hy
    simp only [Option.bind_some, Bool.not_true, Bool.false_eq_true, if_false, hy]
    rw [w64 (by omega) (by omega)]
  · rw [if_neg (by simp [hr0])]
    simp only [Option.bind_some, Bool.false_eq_true, if_false, hy]
    rw [w64 (by omega) (by omega)]

theorem moves_true (l : List Int) (w0 : ∀ x ∈ l, (Lit.int .u64 x).wf = true) (r0 : l.length * 8 ≤ 140737488351232) (q : Int) (w1 : (Lit.int .i64 q).wf = true) (n : Int) (w2 : (Lit.int .i64 n).wf = true) :
    f_foghornlaw08_MixMoves l q n = some true := by
  have hq := wf64 w1
  unfold f_foghornlaw08_MixMoves
  rw [numbers_some l r0]
  simp only [Option.bind_some]
  obtain ⟨y1, h1, k1⟩ := round_some l w0 r0 q hq.1 hq.2 (nums l) 0 rfl (by omega) (by omega) (fun _ => rfl)
  obtain ⟨y2, h2, k2⟩ := round_some l w0 r0 q hq.1 hq.2 y1 1 k1 (by omega) (by omega) (fun h => absurd h (by decide))
  have h3 : f_foghornlaw08_MixMoves.s1 l q (nums l, [mark]) (y2, (1 : Int) + 1) = some (.inr (.inl ())) := by
    simp only [f_foghornlaw08_MixMoves.s1, f_foghornlaw08_MixMoves.s1c]
    rw [if_neg (by simp)]
  rw [loop_step h1, show (0 : Int) + 1 = 1 from rfl, loop_step h2, loop_done h3]
  obtain ⟨x, e, c1, c2, c3⟩ := carrier_same q n hq.1 hq.2
  simp only [Option.bind_some, sm, c1, c2, beq_self_eq_true, if_true, fresh_self x c3]
end Go.Proofs.Ytfppofbdmhihpaa
