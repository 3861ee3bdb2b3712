/- MixNames and MixBack: the plain laws. -/
import Derived.Test.YtfppofbdmhihpaaG5
import Derived.Test.YtfppofbdmhihpaaGlK
set_option linter.unusedVariables false
set_option maxRecDepth 4000
namespace Go.Proofs.Ytfppofbdmhihpaa
open GL

abbrev C := Fl × Fl
theorem wf_u64 {x : Int} (h : (Lit.int .u64 x).wf = true) : 0 ≤ x ∧ x < 18446744073709551616 := by
  simp [Lit.wf, IntKind.min, IntKind.max, IntKind.bits, IntKind.signed] at h
  omega
theorem fneg_fneg (x : Fl) : fneg (fneg x) = x := by
  cases x with
  | bits b =>
    show Fl.bits ((b ^^^ 2 ^ 63) ^^^ 2 ^ 63) = Fl.bits b
    rw [Nat.xor_assoc, Nat.xor_self, Nat.xor_zero]
  | nan => rfl
/-- turned by k quarters -/
def T : Nat → C → C
  | 0, z => z
  | k + 1, z => T k (fneg z.2, z.1)
theorem and3 (x : Int) : iand .i64 x 3 = x % 4 := by
  have e : iand .i64 x 3 = IntKind.i64.wrap (((BitVec.ofInt 64 x &&& BitVec.ofInt 64 3).toNat : Nat) : Int) := rfl
  have e3 : (BitVec.ofInt 64 3).toNat = 2 ^ 2 - 1 := by decide
  rw [e, BitVec.toNat_and, e3, Nat.and_two_pow_sub_one_eq_mod, BitVec.toNat_ofInt]
  have h : 0 ≤ x % ((2 ^ 64 : Nat) : Int) := Int.emod_nonneg _ (by decide)
  rw [w64 (by omega) (by omega)]
  omega
def ups (l : List C) (q : Int) : List C := (List.range l.length).map fun (i : Nat) => T (((i : Int) * q) % 4).toNat (gt l (i : Int))
theorem ups_len (l : List C) (q : Int) : (ups l q).length = l.length := by simp [ups]
def er (l : List C) : Int := if 65536 < l.length then 1 else 0
def cutl (l x : List C) : List C := if 65536 < l.length then [] else x
theorem turns_T (z : C) (k : Int) (h0 : 0 ≤ k) (h1 : k < 4) :
    (if k = (0 : Int) then f_mix_turns_1 z else if k = (1 : Int) then f_mix_turns_2 z else if k = (2 : Int) then f_mix_turns_3 z else f_mix_turns_4 z) = some (T k.toNat z) := by
  have : k = 0 ∨ k = 1 ∨ k = 2 ∨ k = 3 := by omega
  rcases this with rfl | rfl | rfl | rfl
  · rfl
  · rfl
  · rfl
  · show f_mix_turns_4 z = some (T 3 z)
    simp [f_mix_turns_4, T, fneg_fneg]
theorem own_up (l : List C) (q : Int) (h0 : -9223372036854775808 ≤ q) (h1 : q < 9223372036854775808) : f_mix_Up l q = some (cutl l (ups l q), er l) := by
  unfold f_mix_Up f_mix_fits f_mix_turns f_mix_by
  simp only [Option.bind_some]
  by_cases h : 65536 < l.length
  · rw [if_pos (by simp; omega)]; simp [cutl, er, h]
  · rw [if_neg (by simp; omega), if_pos (by omega), and3]
    have key : ∀ n i : Nat, i + n = l.length → loop (f_mix_Up.s1 l (q % 4)) (((i : Int) * q) % 4, (ups l q).take i, (i : Int)) = some (ups l q) := by
      intro n
      induction n with
      | zero =>
        intro i hi
        apply loop_done
        simp only [f_mix_Up.s1, f_mix_Up.s1c]
        rw [if_neg (by simp; omega), List.take_of_length_le (by rw [ups_len]; omega)]
      | succ n ih =>
        intro i hi
        refine (loop_step ?_).trans (ih (i + 1) (by omega))
        simp only [f_mix_Up.s1, f_mix_Up.s1c, f_mix_by]
        have hk : 0 ≤ ((i : Int) * q) % 4 ∧ ((i : Int) * q) % 4 < 4 := by omega
        rw [if_pos (by simp; omega), if_pos (by omega), if_pos hk, turns_T _ _ hk.1 hk.2]
        simp only [Option.bind_some]
        rw [if_pos (by simp [ups_len]; omega), and3, w64 (x := ((i : Int) * q) % 4 + q % 4) (by omega) (by omega), w64 (by omega) (by omega), List.take_succ_eq_append_getElem (by rw [ups_len]; omega)]
        have e : (((i : Int) * q) % 4 + q % 4) % 4 = (((i + 1 : Nat) : Int) * q) % 4 := by
          rw [← Int.add_emod]; congr 1
          rw [Int.natCast_add, Int.add_mul]; simp
        rw [e]
        simp [ups]
    have := key l.length 0 (by omega)
    simp only [Int.natCast_zero, Int.zero_mul, List.take_zero] at this
    have e0 : (0 : Int) % 4 = 0 := rfl
    rw [e0] at this
    have e1 : List.replicate ((0 : Int)).toNat (Fl.bits 0, Fl.bits 0) = [] := rfl
    rw [e1, this]; simp [cutl, er, h]
theorem ups_mod (l : List C) (a b : Int) (h : a % 4 = b % 4) : ups l a = ups l b := by
  unfold ups
  apply List.map_congr_left
  intro i _
  rw [Int.mul_emod, h, ← Int.mul_emod]
theorem float_self (x : Fl) : f_foghornref08_Float x x = some true := by
  unfold f_foghornref08_Float feq fne
  simp only [bne]
  cases (fcmp x x == some Ordering.eq) <;> rfl
theorem same_self (a : List C) (h : a.length ≤ 65536) : f_foghornref08_Same a a = some true := by
  unfold f_foghornref08_Same
  rw [if_neg (by simp)]
  have := loop_for1 (f := f_foghornref08_Same.s1 a a) a.length (.inl ()) (fun i hi => ?_) ?_
  · rw [this]; rfl
  · simp only [f_foghornref08_Same.s1, f_foghornref08_Same.s1c]
    rw [if_pos (by simpa using hi), if_pos (by omega), if_pos (by omega), float_self, float_self]
    simp only [Option.bind_some, Bool.not_true, Bool.false_eq_true, if_false]
    rw [if_pos (by omega), if_pos (by omega)]
    simp only [Option.bind_some, Bool.false_eq_true, if_false]
    rw [w64 (by omega) (by omega)]; rfl
  · simp only [f_foghornref08_Same.s1, f_foghornref08_Same.s1c]
    rw [if_neg (by simp)]
def nums (l : List Int) : List C := (List.range (l.length / 2)).map fun (i : Nat) => (Fl.bits (gt l ((2 * i : Nat) : Int)).toNat, Fl.bits (gt l ((2 * i + 1 : Nat) : Int)).toNat)
theorem nums_len (l : List Int) : (nums l).length = l.length / 2 := by simp [nums]
def mark : C := (Fl.bits 4651892959631900672, Fl.bits 0)
theorem numbers_some (l : List Int) (r : l.length * 8 ≤ 140737488351232) : f_foghornlaw08_numbers l = some (nums l, [mark]) := by
  unfold f_foghornlaw08_numbers
  have key : ∀ n i : Nat, i + n = l.length / 2 → loop (f_foghornlaw08_numbers.s1 l) ((nums l).take i, ((2 * i : Nat) : Int)) = some (nums l) := by
    intro n
    induction n with
    | zero =>
      intro i hi
      apply loop_done
      simp only [f_foghornlaw08_numbers.s1, f_foghornlaw08_numbers.s1c]
      rw [w64 (by omega) (by omega), if_neg (by simp; omega), List.take_of_length_le (by rw [nums_len]; omega)]
    | succ n ih =>
      intro i hi
      refine (loop_step ?_).trans (ih (i + 1) (by omega))
      simp only [f_foghornlaw08_numbers.s1, f_foghornlaw08_numbers.s1c]
      have e : ((2 * i : Nat) : Int) + 1 = ((2 * i + 1 : Nat) : Int) := by omega
      have e2 : ((2 * i : Nat) : Int) + 2 = ((2 * (i + 1) : Nat) : Int) := by omega
      rw [w64 (x := ((2 * i : Nat) : Int) + 1) (by omega) (by omega), w64 (x := ((2 * i : Nat) : Int) + 2) (by omega) (by omega), e, e2, if_pos (by simp; omega), if_pos (by omega), if_pos (by omega), if_pos (by simp [nums_len]; omega),
        List.take_succ_eq_append_getElem (by rw [nums_len]; omega)]
      simp [nums]
  have := key (l.length / 2) 0 (by omega)
  simp only [List.take_zero, Nat.mul_zero, Int.natCast_zero] at this
  rw [this]
  simp only [Option.bind_some, List.append_nil, Int.toNat_natCast]
  rw [if_pos (by simp [nums_len] <;> omega), if_pos (by simp <;> omega)]
  simp [mark]
def flat (l : List C) : List Fl := l.flatMap fun z => [z.1, z.2]
theorem flat_len (l : List C) : (flat l).length = 2 * l.length := by
  induction l with
  | nil => rfl
  | cons z l ih => simp [flat] at ih ⊢; omega
theorem flat_app (l : List C) (z : C) : flat (l ++ [z]) = flat l ++ [z.1, z.2] := by simp [flat]
theorem ups_get (l : List C) (q : Int) (i : Nat) (hi : i < l.length) : (ups l q)[i]'(by rw [ups_len]; exact hi) = T (((i : Int) * q) % 4).toNat (gt l (i : Int)) := by simp [ups]
theorem line_own (l : List C) (h : l.length ≤ 32768) : f_mix_Line l = some (flat (ups l 1), 0) := by
  unfold f_mix_Line f_mix_fits
  simp only [Option.bind_some]
  rw [w64 (by omega) (by omega), if_neg (by simp; omega), own_up l 1 (by omega) (by omega)]
  simp only [Option.bind_some]
  have hc : cutl l (ups l 1) = ups l 1 := by unfold cutl; rw [if_neg (by omega)]
  have hul := ups_len l 1
  rw [if_pos (by omega), hc]
  have := loop_for (f := f_mix_Line.s1 (ups l 1, er l)) l.length (fun i => flat ((ups l 1).take i)) (flat (ups l 1)) (fun i hi => ?_) ?_
  · simp only [List.take_zero] at this
    have e : flat [] = [] := rfl
    have e1 : List.replicate ((0 : Int)).toNat (Fl.bits 0) = [] := rfl
    rw [e] at this
    rw [e1, this]; rfl
  · simp only [f_mix_Line.s1, f_mix_Line.s1c]
    rw [if_pos (by simp [hul]; omega), if_pos (by omega), if_pos (by simp [flat_len, hul]; omega), w64 (by omega) (by omega), List.take_succ_eq_append_getElem (by rw [hul]; exact hi), flat_app, gt_nat (by rw [hul]; exact hi)]; rfl
  · simp only [f_mix_Line.s1, f_mix_Line.s1c]
    rw [if_neg (by simp [hul]), List.take_of_length_le (by rw [hul]; exact Nat.le_refl _)]
def prs (r : List Fl) : List C := (List.range (r.length / 2)).map fun (i : Nat) => (gt r ((2 * i : Nat) : Int), gt r ((2 * i + 1 : Nat) : Int))
theorem prs_len (r : List Fl) : (prs r).length = r.length / 2 := by simp [prs]
theorem floats_self (a : List Fl) (h : a.length ≤ 65536) : f_foghornref08_Floats a a = some true := by
  unfold f_foghornref08_Floats
  rw [if_neg (by simp)]
  have := loop_for1 (f := f_foghornref08_Floats.s1 a a) a.length (.inl ()) (fun i hi => ?_) ?_
  · rw [this]; rfl
  · simp only [f_foghornref08_Floats.s1, f_foghornref08_Floats.s1c]
    rw [if_pos (by simpa using hi), if_pos (by omega), if_pos (by omega), float_self]
    simp only [Option.bind_some, Bool.not_true, Bool.false_eq_true, if_false]
    rw [w64 (by omega) (by omega)]; rfl
  · simp only [f_foghornref08_Floats.s1, f_foghornref08_Floats.s1c]
    rw [if_neg (by simp)]
def mir (l : List C) : List C := l.map fun z => (z.1, fneg z.2)
def shr (l : List C) (f s : Nat) : Nat → Nat → List C
  | 0, _ => []
  | k + 1, i => (if i % s = f then [gt l (i : Int)] else []) ++ shr l f s k (i + 1)
theorem shr_len (l : List C) (f s : Nat) : ∀ k i, (shr l f s k i).length ≤ k
  | 0, _ => by simp [shr]
  | k + 1, i => by
    have := shr_len l f s k (i + 1)
    simp only [shr, List.length_append]
    split <;> simp <;> omega
theorem shr_skip (l : List C) (f s : Nat) : ∀ d k i, d ≤ k → (∀ j, i ≤ j → j < i + d → j % s ≠ f) → shr l f s k i = shr l f s (k - d) (i + d)
  | 0, k, i, _, _ => by simp
  | d + 1, 0, i, h, _ => by omega
  | d + 1, k + 1, i, h, hj => by
    have h1 := hj i (by omega) (by omega)
    rw [show shr l f s (k + 1) i = shr l f s k (i + 1) by simp [shr, h1], shr_skip l f s d k (i + 1) (by omega) (fun j a b => hj j (by omega) (by omega))]
    congr 1 <;> omega
theorem share_own (l : List C) (f s : Nat) (hl : l.length ≤ 65536) (hs : 1 ≤ s) (hs2 : s ≤ 65536) : ∀ (k i : Nat) (out : List C), l.length - i ≤ k → i ≤ 131072 → i % s = f → out.length ≤ i →
    loop (f_mix_Share.s1 l (s : Int)) (out, (i : Int)) = some (out ++ shr l f s (l.length - i) i) := by
  intro k
  induction k with
  | zero =>
    intro i out hi hb hf ho
    rw [show l.length - i = 0 by omega]
    simp only [shr, List.append_nil]
    apply loop_done
    simp only [f_mix_Share.s1, f_mix_Share.s1c]
    rw [if_neg (by simp; omega)]
  | succ k ih =>
    intro i out hi hb hf ho
    by_cases h : i < l.length
    · rw [loop_step (s' := (out ++ [gt l (i : Int)], ((i + s : Nat) : Int)))]
      · rw [ih (i + s) _ (by omega) (by omega) (by rw [Nat.add_mod_right]; exact hf) (by simp; omega)]
        obtain ⟨m, hm⟩ : ∃ m, l.length - i = m + 1 := ⟨l.length - i - 1, by omega⟩
        rw [hm]
        have hno : ∀ j, i + 1 ≤ j → j < i + s → j % s ≠ f := fun j a b e => by
          have h1 : (j - i) % s = 0 := Nat.sub_mod_eq_zero_of_mod_eq (e.trans hf.symm)
          rw [Nat.mod_eq_of_lt (by omega)] at h1
          omega
        rw [show shr l f s (m + 1) i = [gt l (i : Int)] ++ shr l f s m (i + 1) by simp [shr, hf]]
        by_cases hd : s - 1 ≤ m
        · rw [shr_skip l f s (s - 1) m (i + 1) hd (fun j a b => hno j a (by omega))]
          rw [show l.length - (i + s) = m - (s - 1) by omega, show i + 1 + (s - 1) = i + s by omega]
          simp
        · rw [shr_skip l f s m m (i + 1) (Nat.le_refl _) (fun j a b => hno j a (by omega))]
          rw [show l.length - (i + s) = 0 by omega, Nat.sub_self]
          simp [shr]
      · simp only [f_mix_Share.s1, f_mix_Share.s1c]
        rw [if_pos (by simp; omega), if_pos (by omega), if_pos (by simp; omega), w64 (by omega) (by omega)]; rfl
    · rw [show l.length - i = 0 by omega]
      simp only [shr, List.append_nil]
      apply loop_done
      simp only [f_mix_Share.s1, f_mix_Share.s1c]
      rw [if_neg (by simp; omega)]

/-! ### The limits -/
theorem mk_len {α : Type} (n : Int) (z : α) : (mk0 n z).length = n.toNat := by rw [mk0_eq, List.length_replicate]
theorem line_err (l : List C) (h : 32768 < l.length) (h2 : l.length ≤ 65536) : f_mix_Line l = some ([], 1) := by
  unfold f_mix_Line f_mix_fits
  simp only [Option.bind_some]
  rw [w64 (by omega) (by omega), if_pos (by simp; omega)]
theorem names_true : f_foghornlaw08_MixNames = some true := by
  unfold f_foghornlaw08_MixNames
  have e1 : er (mk0 (65536 : Int) ((Fl.bits 0, Fl.bits 0) : C)) = 0 := by unfold er; rw [mk_len]; rfl
  have e2 : er (mk0 (65537 : Int) ((Fl.bits 0, Fl.bits 0) : C)) = 1 := by unfold er; rw [mk_len]; rfl
  have e3 : f_mix_Unline (List.replicate ((3 : Int)).toNat (Fl.bits 0)) = some ([], 1) := by
    unfold f_mix_Unline f_mix_fits
    simp only [Option.bind_some]
    rw [if_pos (by decide)]
  have e4 : f_mix_Carrier 1 (-1) = some ([], 1) := by
    unfold f_mix_Carrier
    rw [if_pos (by decide)]
    rfl
  have e5 : f_mix_Carrier 1 65537 = some ([], 1) := by
    unfold f_mix_Carrier f_mix_fits
    rw [if_neg (by decide)]
    rfl
  have e6 : f_mix_Merge [mk0 (40000 : Int) ((Fl.bits 0, Fl.bits 0) : C), mk0 (40000 : Int) (Fl.bits 0, Fl.bits 0)] = some ([], 1) := by
    have hg : (gt [mk0 (40000 : Int) ((Fl.bits 0, Fl.bits 0) : C), mk0 (40000 : Int) (Fl.bits 0, Fl.bits 0)] 0).length = 40000 := mk_len _ _
    have hw : IntKind.i64.wrap ((65536 : Int).tdiv ((2 : Nat) : Int)) = 32768 := by rfl
    have hl : loop (f_mix_Merge.s1 [mk0 (40000 : Int) ((Fl.bits 0, Fl.bits 0) : C), mk0 (40000 : Int) (Fl.bits 0, Fl.bits 0)]) (0 : Int) = some (.inr ([], 1)) := by
      apply loop_done
      simp only [f_mix_Merge.s1, f_mix_Merge.s1c, List.length_cons, List.length_nil, hg]
      rw [if_pos (by decide), if_pos (by decide), if_neg (by simp), if_pos (by decide), hw]
      rfl
    unfold f_mix_Merge f_mix_fits
    simp only [Option.bind_some, hl, List.length_cons, List.length_nil]
    rw [if_neg (by decide), if_neg (by decide), if_pos (by decide)]
    rfl
  have e7 : f_mix_Merge [] = some ([], 0) := by
    unfold f_mix_Merge f_mix_fits
    simp only [Option.bind_some, List.length_nil]
    rw [if_neg (by decide), if_pos (by decide)]
  rw [if_pos (by decide), own_up _ 1 (by omega) (by omega)]
  simp only [Option.bind_some]
  rw [if_pos (by decide), own_up _ 1 (by omega) (by omega)]
  simp only [Option.bind_some]
  rw [if_pos (by decide), line_own _ (by rw [mk_len]; decide)]
  simp only [Option.bind_some]
  rw [if_pos (by decide), line_err _ (by rw [mk_len]; decide) (by rw [mk_len]; decide)]
  simp only [Option.bind_some]
  rw [if_pos (by decide), e3, e4, e5]
  simp only [Option.bind_some]
  rw [if_pos (by decide), if_pos (by decide), e6, e7]
  simp only [Option.bind_some, e1, e2]
  rfl

/-! ### There and back -/
theorem own_down (l : List C) (q : Int) (h0 : -9223372036854775808 ≤ q) (h1 : q < 9223372036854775808) : f_mix_Down l q = some (cutl l (ups l (-q)), er l) := by
  unfold f_mix_Down f_mix_by
  simp only [Option.bind_some]
  rw [and3, w64 (by omega) (by omega), own_up l _ (by omega) (by omega), ups_mod l (0 - q % 4) (-q) (by omega)]; rfl
theorem T_add : ∀ (a b : Nat) (z : C), T a (T b z) = T (b + a) z
  | a, 0, z => by simp [T]
  | a, b + 1, z => by rw [show b + 1 + a = (b + a) + 1 by omega]; exact T_add a b _
theorem T_four (z : C) : T 4 z = z := by simp [T, fneg_fneg]
theorem ups_back (z : List C) (q : Int) : ups (ups z q) (-q) = z := by
  apply List.ext_getElem
  · rw [ups_len, ups_len]
  · intro i h1 h2
    rw [ups_get _ _ i (by rw [ups_len]; exact h2), gt_nat (by rw [ups_len]; exact h2), ups_get _ _ i h2, T_add, gt_nat h2]
    have hm : ((i : Int) * -q) % 4 = (0 - ((i : Int) * q)) % 4 := by congr 1; rw [Int.mul_neg]; omega
    rw [hm]
    generalize (i : Int) * q = x
    have : (x % 4).toNat + ((0 - x) % 4).toNat = 0 ∨ (x % 4).toNat + ((0 - x) % 4).toNat = 4 := by omega
    rcases this with h | h
    · rw [h]; rfl
    · rw [h, T_four]
theorem cutl_of (l x : List C) (h : l.length ≤ 65536) : cutl l x = x := by unfold cutl; rw [if_neg (by omega)]
theorem er_of (l : List C) (h : l.length ≤ 65536) : er l = 0 := by unfold er; rw [if_neg (by omega)]
theorem prs_flat (l : List C) : prs (flat l) = l := by
  apply List.ext_getElem
  · rw [prs_len, flat_len]; omega
  · intro i h1 h2
    have key : ∀ (l : List C) (i : Nat) (h : i < l.length), (flat l)[2 * i]? = some l[i].1 ∧ (flat l)[2 * i + 1]? = some l[i].2 := by
      intro l
      induction l with
      | nil => intro i h; simp at h
      | cons z l ih =>
        intro i h
        cases i with
        | zero => simp [flat]
        | succ i =>
          have := ih i (by simpa using h)
          rw [show 2 * (i + 1) = 2 * i + 1 + 1 by omega]
          simpa [flat] using this
    obtain ⟨k1, k2⟩ := key l i h2
    have hf := flat_len l
    simp only [prs, List.getElem_map, List.getElem_range]
    rw [gt_nat (show 2 * i < (flat l).length by omega), gt_nat (show 2 * i + 1 < (flat l).length by omega)]
    rw [List.getElem?_eq_getElem (show 2 * i < (flat l).length by omega)] at k1
    rw [List.getElem?_eq_getElem (show 2 * i + 1 < (flat l).length by omega)] at k2
    rw [Option.some.inj k1, Option.some.inj k2]
theorem unline_own (r : List Fl) (h1 : r.length ≤ 65536) (h2 : r.length % 2 = 0) : f_mix_Unline r = some (ups (prs r) (-1), 0) := by
  unfold f_mix_Unline f_mix_fits
  simp only [Option.bind_some]
  have hm : (r.length : Int).tmod 2 = (r.length : Int) % 2 := Int.tmod_eq_emod_of_nonneg (by omega)
  have hd : (r.length : Int).tdiv 2 = (r.length : Int) / 2 := Int.tdiv_eq_ediv_of_nonneg (by omega)
  rw [hm, hd, if_neg (by simp; omega), w64 (by omega) (by omega), if_pos (by omega)]
  have hpl := prs_len r
  have e2 : ∀ i : Nat, ((2 * i : Nat) : Int) + 2 = ((2 * (i + 1) : Nat) : Int) := by intro i; omega
  have e1 : ∀ i : Nat, ((2 * i : Nat) : Int) + 1 = ((2 * i + 1 : Nat) : Int) := by intro i; omega
  have k2 : ∀ n i : Nat, i + n = r.length / 2 → loop (f_mix_Unline.s1 r) ((prs r).take i, ((2 * i : Nat) : Int)) = some (prs r) := by
    intro n
    induction n with
    | zero =>
      intro i hi
      apply loop_done
      simp only [f_mix_Unline.s1, f_mix_Unline.s1c]
      rw [if_neg (by simp; omega), List.take_of_length_le (by rw [hpl]; omega)]
    | succ n ih =>
      intro i hi
      refine (loop_step ?_).trans (ih (i + 1) (by omega))
      simp only [f_mix_Unline.s1, f_mix_Unline.s1c]
      rw [w64 (x := ((2 * i : Nat) : Int) + 1) (by omega) (by omega), w64 (x := ((2 * i : Nat) : Int) + 2) (by omega) (by omega), e1, e2, if_pos (by simp; omega), if_pos (by omega), if_pos (by omega), if_pos (by simp [hpl]; omega),
        List.take_succ_eq_append_getElem (by rw [hpl]; omega)]
      simp [prs]
  have k2' := k2 (r.length / 2) 0 (by omega)
  simp only [List.take_zero, Nat.mul_zero, Int.natCast_zero] at k2'
  have e0 : List.replicate ((0 : Int)).toNat ((Fl.bits 0, Fl.bits 0) : C) = [] := rfl
  rw [e0, k2']
  simp only [Option.bind_some]
  rw [own_down _ 1 (by omega) (by omega), cutl_of _ _ (by rw [hpl]; omega), er_of _ (by rw [hpl]; omega)]
  rfl
theorem mir_len (l : List C) : (mir l).length = l.length := by simp [mir]
theorem mir_mir (l : List C) : mir (mir l) = l := by simp [mir, fneg_fneg, Function.comp_def]
theorem mirror_own (l : List C) (h : l.length ≤ 65536) : f_mix_Mirror l = some (mir l, 0) := by
  have hml := mir_len l
  have tk : ∀ i (hi : i < l.length), (mir l).take (i + 1) = (mir l).take i ++ [((gt l (i : Int)).1, fneg (gt l (i : Int)).2)] := by
    intro i hi
    rw [List.take_succ_eq_append_getElem (by rw [hml]; exact hi), gt_nat hi]; simp [mir]
  unfold f_mix_Mirror f_mix_fits
  simp only [Option.bind_some]
  rw [if_neg (by simp; omega), if_pos (by omega)]
  have := loop_for (f := f_mix_Mirror.s1 l) l.length (fun i => (mir l).take i) (mir l) (fun i hi => ?_) ?_
  · simp only [List.take_zero] at this
    have e1 : List.replicate ((0 : Int)).toNat (Fl.bits 0, Fl.bits 0) = [] := rfl
    rw [e1, this]; rfl
  · simp only [f_mix_Mirror.s1, f_mix_Mirror.s1c]
    rw [if_pos (by simpa using hi), if_pos (by omega), if_pos (by simp [hml]; omega), w64 (by omega) (by omega), tk i hi]; rfl
  · simp only [f_mix_Mirror.s1, f_mix_Mirror.s1c]
    rw [if_neg (by simp), List.take_of_length_le (by rw [hml]; exact Nat.le_refl _)]

theorem same_of (a b : List C) (hl : a.length = b.length) (hb : a.length ≤ 65536) (h : ∀ i : Nat, i < a.length → f_foghornref08_Float (gt a (i : Int)).1 (gt b (i : Int)).1 = some true ∧ f_foghornref08_Float (gt a (i : Int)).2 (gt b (i : Int)).2 = some true) :
    f_foghornref08_Same a b = some true := by
  have key : loop (f_foghornref08_Same.s1 a b) (0 : Int) = some (.inl ()) := by
    refine loop_for1 a.length (Sum.inl ()) (fun i hi => ?_) ?_
    · simp only [f_foghornref08_Same.s1, f_foghornref08_Same.s1c]
      rw [if_pos (by simpa using hi), if_pos (by omega), if_pos (by omega), (h i hi).1, (h i hi).2]
      simp only [Option.bind_some, Bool.not_true, Bool.false_eq_true, if_false]
      rw [if_pos (by omega), if_pos (by omega)]
      simp only [Option.bind_some, Bool.false_eq_true, if_false]
      rw [w64 (by omega) (by omega)]; rfl
    · simp only [f_foghornref08_Same.s1, f_foghornref08_Same.s1c]
      rw [if_neg (by simp)]
  unfold f_foghornref08_Same
  rw [if_neg (by simp [hl]), key]; rfl
theorem floats_of (a b : List Fl) (hl : a.length = b.length) (hb : a.length ≤ 65536) (h : ∀ i : Nat, i < a.length → f_foghornref08_Float (gt a (i : Int)) (gt b (i : Int)) = some true) :
    f_foghornref08_Floats a b = some true := by
  have key : loop (f_foghornref08_Floats.s1 a b) (0 : Int) = some (.inl ()) := by
    refine loop_for1 a.length (Sum.inl ()) (fun i hi => ?_) ?_
    · simp only [f_foghornref08_Floats.s1, f_foghornref08_Floats.s1c]
      rw [if_pos (by simpa using hi), if_pos (by omega), if_pos (by omega), h i hi]
      simp only [Option.bind_some, Bool.not_true, Bool.false_eq_true, if_false]
      rw [w64 (by omega) (by omega)]; rfl
    · simp only [f_foghornref08_Floats.s1, f_foghornref08_Floats.s1c]
      rw [if_neg (by simp)]
  unfold f_foghornref08_Floats
  rw [if_neg (by simp [hl]), key]; rfl

def w4 : List C := [(Fl.bits 4607182418800017408, Fl.bits 0), (Fl.bits 4607182418800017408, Fl.bits 0), (Fl.bits 4607182418800017408, Fl.bits 0), (Fl.bits 4607182418800017408, Fl.bits 0)]
def w2 : List C := [(Fl.bits 4607182418800017408, Fl.bits 4611686018427387904), (Fl.bits 4613937818241073152, Fl.bits 4616189618054758400)]
def v4 : List C := [(Fl.bits 4607182418800017408, Fl.bits 0), (Fl.bits 0, Fl.bits 4607182418800017408), (Fl.bits 13830554455654793216, Fl.bits 0), (Fl.bits 0, Fl.bits 13830554455654793216)]
def v2 : List Fl := [(Fl.bits 4607182418800017408), (Fl.bits 4611686018427387904), (Fl.bits 13839561654909534208), (Fl.bits 4613937818241073152)]
theorem awake_true : f_foghornlaw08_awake = some true := by
  have s1 : f_foghornref08_Same (ups w4 1) v4 = some true := by
    refine same_of _ _ (by rw [ups_len]; rfl) (by rw [ups_len]; decide) fun i hi => ?_
    have key : ∀ i : Nat, i < 4 → (((feq (gt (ups w4 1) (i : Int)).1 (gt v4 (i : Int)).1) || ((fne (gt (ups w4 1) (i : Int)).1 (gt (ups w4 1) (i : Int)).1) && (fne (gt v4 (i : Int)).1 (gt v4 (i : Int)).1))) = true) ∧
      (((feq (gt (ups w4 1) (i : Int)).2 (gt v4 (i : Int)).2) || ((fne (gt (ups w4 1) (i : Int)).2 (gt (ups w4 1) (i : Int)).2) && (fne (gt v4 (i : Int)).2 (gt v4 (i : Int)).2))) = true) := by decide +kernel
    have := key i (by rw [ups_len] at hi; exact hi)
    exact ⟨by unfold f_foghornref08_Float; rw [this.1], by unfold f_foghornref08_Float; rw [this.2]⟩
  have s2 : f_foghornref08_Floats (flat (ups w2 1)) v2 = some true := by
    have hl : (flat (ups w2 1)).length = 4 := by rw [flat_len, ups_len]; rfl
    refine floats_of _ _ (by rw [hl]; rfl) (by omega) fun i hi => ?_
    have key : ∀ i : Nat, i < 4 → (((feq (gt (flat (ups w2 1)) (i : Int)) (gt v2 (i : Int))) || ((fne (gt (flat (ups w2 1)) (i : Int)) (gt (flat (ups w2 1)) (i : Int))) && (fne (gt v2 (i : Int)) (gt v2 (i : Int))))) = true) := by decide +kernel
    have := key i (by omega)
    unfold f_foghornref08_Float; rw [this]
  have h1 : f_mix_Up w4 1 = some (ups w4 1, 0) := by rw [own_up _ 1 (by omega) (by omega), cutl_of _ _ (by decide), er_of _ (by decide)]
  have h2 : f_mix_Line w2 = some (flat (ups w2 1), 0) := line_own _ (by decide)
  unfold f_foghornlaw08_awake
  rw [show [(Fl.bits 4607182418800017408, Fl.bits 0), (Fl.bits 4607182418800017408, Fl.bits 0), (Fl.bits 4607182418800017408, Fl.bits 0), (Fl.bits 4607182418800017408, Fl.bits 0)] = w4 from rfl, h1]
  simp only [Option.bind_some]
  rw [show [(Fl.bits 4607182418800017408, Fl.bits 4611686018427387904), (Fl.bits 4613937818241073152, Fl.bits 4616189618054758400)] = w2 from rfl, h2]
  simp only [Option.bind_some]
  rw [if_pos (by decide), show [(Fl.bits 4607182418800017408, Fl.bits 0), (Fl.bits 0, Fl.bits 4607182418800017408), (Fl.bits 13830554455654793216, Fl.bits 0), (Fl.bits 0, Fl.bits 13830554455654793216)] = v4 from rfl, s1]
  simp only [Option.bind_some, if_true]
  rw [show [(Fl.bits 4607182418800017408), (Fl.bits 4611686018427387904), (Fl.bits 13839561654909534208), (Fl.bits 4613937818241073152)] = v2 from rfl, s2]
  rfl

/-! Shares of a row of full rounds, merged again. -/
theorem shr_list (l : List C) (f s : Nat) (hf : f < s) : ∀ (n i : Nat), i % s = 0 → shr l f s (n * s) i = (List.range n).map fun j => gt l ((i + j * s + f : Nat) : Int)
  | 0, i, _ => by simp [shr]
  | n + 1, i, hi => by
    have hno1 : ∀ j, i ≤ j → j < i + f → j % s ≠ f := fun j a b e => by
      have h1 : (j - i) % s = f := by
        have : j = (j - i) + i := by omega
        rw [this, Nat.add_mod, hi, Nat.add_zero, Nat.mod_mod] at e; exact e
      rw [Nat.mod_eq_of_lt (by omega)] at h1; omega
    have hif : (i + f) % s = f := by rw [Nat.add_mod, hi, Nat.zero_add, Nat.mod_mod, Nat.mod_eq_of_lt hf]
    have hno2 : ∀ j, i + f + 1 ≤ j → j < i + f + 1 + (s - 1 - f) → j % s ≠ f := fun j a b e => by
      have h1 : (j - i) % s = f := by
        have : j = (j - i) + i := by omega
        rw [this, Nat.add_mod, hi, Nat.add_zero, Nat.mod_mod] at e; exact e
      rw [Nat.mod_eq_of_lt (by omega)] at h1; omega
    have e1 : (n + 1) * s = n * s + s := Nat.succ_mul n s
    rw [shr_skip l f s f _ i (by omega) hno1]
    obtain ⟨m, hm⟩ : ∃ m, (n + 1) * s - f = m + 1 := ⟨(n + 1) * s - f - 1, by omega⟩
    rw [hm, show shr l f s (m + 1) (i + f) = gt l ((i + f : Nat) : Int) :: shr l f s m (i + f + 1) by simp [shr, hif]]
    rw [shr_skip l f s (s - 1 - f) m (i + f + 1) (by omega) hno2, show m - (s - 1 - f) = n * s by omega, show i + f + 1 + (s - 1 - f) = i + s by omega]
    rw [shr_list l f s hf n (i + s) (by rw [Nat.add_mod_right]; exact hi), List.range_succ_eq_map]
    simp only [List.map_cons, List.map_map, Nat.zero_mul, Nat.add_zero, List.cons.injEq, true_and]
    apply List.map_congr_left
    intro j _
    simp only [Function.comp, Nat.succ_mul]
    congr 2
    omega

theorem merge_back (z : List C) (n s : Nat) (hs : 1 ≤ s) (hs2 : s ≤ 20) (hz : z.length = n * s) (hn : n * s ≤ 32768) :
    f_mix_Merge ((List.range s).map fun k => shr z k s (n * s) 0) = some (z, 0) := by
  have hn2 : n ≤ 32768 := Nat.le_trans (Nat.le_mul_of_pos_right n hs) hn
  have hrow : ∀ k : Nat, k < s → gt ((List.range s).map fun k => shr z k s (n * s) 0) (k : Int) = (List.range n).map fun j => gt z ((j * s + k : Nat) : Int) := fun k hk => by
    rw [gt_nat (by simpa using hk)]
    simp only [List.getElem_map, List.getElem_range]
    rw [shr_list z k s hk n 0 (Nat.zero_mod _)]
    simp
  have hlen : ((List.range s).map fun k => shr z k s (n * s) 0).length = s := by simp
  generalize ((List.range s).map fun k => shr z k s (n * s) 0) = rows at hrow hlen
  have h0 : (gt rows (0 : Int)).length = n := by rw [show (0 : Int) = ((0 : Nat) : Int) from rfl, hrow 0 (by omega)]; simp
  have hrl : ∀ k : Nat, k < s → (gt rows (k : Int)).length = n := fun k hk => by rw [hrow k hk]; simp
  have hrg : ∀ k j : Nat, k < s → j < n → gt (gt rows (k : Int)) (j : Int) = gt z ((j * s + k : Nat) : Int) := fun k j hk hj => by
    rw [hrow k hk, gt_nat (by simpa using hj)]; simp
  obtain ⟨Q, hQ⟩ : ∃ Q : Nat, Q = 65536 / s := ⟨_, rfl⟩
  have hQ2 : Q ≤ 65536 := hQ ▸ Nat.div_le_self _ _
  have hq : n ≤ Q := by rw [hQ, Nat.le_div_iff_mul_le (by omega)]; omega
  have hw : IntKind.i64.wrap ((65536 : Int).tdiv (s : Int)) = (Q : Int) := by
    rw [Int.tdiv_eq_ediv_of_nonneg (by omega)]
    have e : (65536 : Int) / (s : Int) = (Q : Int) := by rw [hQ]; rfl
    rw [e, w64 (by omega) (by omega)]
  have k1 : loop (f_mix_Merge.s1 rows) (0 : Int) = some (.inl ()) := by
    refine loop_for1 s (Sum.inl ()) (fun i hi => ?_) ?_
    · simp only [f_mix_Merge.s1, f_mix_Merge.s1c, hlen, h0]
      rw [if_pos (by simpa using hi), if_pos (by omega), hrl i hi, if_neg (by simp), if_pos (by omega), hw]
      simp only [Option.bind_some]
      rw [if_neg (by simp; omega), w64 (by omega) (by omega)]; rfl
    · simp only [f_mix_Merge.s1, f_mix_Merge.s1c, hlen]
      rw [if_neg (by simp)]
  have k3 : ∀ j : Nat, j < n → ∀ (k i : Nat) (out : List C), i + k = s → out.length ≤ 65536 + i →
      loop (f_mix_Merge.s3 rows (j : Int)) (out, (i : Int)) = some (out ++ ((List.range k).map fun m => gt z ((j * s + (i + m) : Nat) : Int))) := by
    intro j hj k
    induction k with
    | zero =>
      intro i out hi ho
      simp only [List.range_zero, List.map_nil, List.append_nil]
      apply loop_done
      simp only [f_mix_Merge.s3, f_mix_Merge.s3c, hlen]
      rw [if_neg (by simp; omega)]
    | succ k ih =>
      intro i out hi ho
      rw [loop_step (s' := (out ++ [gt z ((j * s + i : Nat) : Int)], ((i + 1 : Nat) : Int)))]
      · rw [ih (i + 1) _ (by omega) (by simp; omega), List.range_succ_eq_map]
        simp only [List.map_cons, List.map_map, Nat.add_zero, List.append_assoc, List.singleton_append]
        congr 3
        apply List.map_congr_left
        intro m _
        simp only [Function.comp]
        congr 2
        omega
      · simp only [f_mix_Merge.s3, f_mix_Merge.s3c, hlen]
        rw [if_pos (by simp; omega), if_pos (by omega), hrl i (by omega), if_pos (by omega), hrg i j (by omega) hj, if_pos (by simp; omega), w64 (by omega) (by omega)]
        rfl
  have k2 : loop (f_mix_Merge.s2 rows) ([], (0 : Int)) = some z := by
    have := loop_for (f := f_mix_Merge.s2 rows) n (fun j => z.take (j * s)) z (fun j hj => ?_) ?_
    · simpa using this
    · simp only [f_mix_Merge.s2, f_mix_Merge.s2c, h0]
      have hle : (j + 1) * s ≤ n * s := Nat.mul_le_mul_right _ hj
      have e1 : (j + 1) * s = j * s + s := Nat.succ_mul j s
      have := k3 j hj s 0 (z.take (j * s)) (by omega) (by simp; omega)
      rw [show ((0 : Nat) : Int) = 0 from rfl] at this
      rw [if_pos (by simp; omega), this]
      simp only [Option.bind_some]
      rw [w64 (by omega) (by omega)]
      congr 3
      rw [e1, List.take_add]
      congr 1
      apply List.ext_getElem
      · simp; omega
      · intro i h1 h2
        simp only [List.length_map, List.length_range] at h1
        simp only [List.getElem_map, List.getElem_range, List.getElem_take, List.getElem_drop, Nat.zero_add]
        rw [gt_nat (by omega)]
    · simp only [f_mix_Merge.s2, f_mix_Merge.s2c, h0]
      rw [if_neg (by simp), List.take_of_length_le (by omega)]
  unfold f_mix_Merge f_mix_fits
  simp only [Option.bind_some, hlen]
  have hp : ((n : Int) * (s : Int)) = ((n * s : Nat) : Int) := (Int.natCast_mul n s).symm
  rw [if_neg (by simp; omega), if_neg (fun h => by have := beq_iff_eq.1 h; omega), if_pos (show 0 ≤ (0 : Int) ∧ (0 : Int) < (s : Int) by omega), k1]
  simp only [Option.bind_some, sm, h0]
  rw [hp, w64 (by omega) (by omega), if_pos (by omega)]
  have e0 : List.replicate ((0 : Int)).toNat (Fl.bits 0, Fl.bits 0) = [] := rfl
  rw [e0, k2]; rfl

theorem step_of (s : Int) (h0 : -9223372036854775808 ≤ s) (h1 : s < 9223372036854775808) : ∃ n : Nat, 1 ≤ n ∧ n ≤ 20 ∧ IntKind.i64.wrap (1 + (IntKind.i64.wrap (s.tmod 20 + 20)).tmod 20) = (n : Int) := by
  have h2 : s.tmod 20 = s % 20 ∨ s.tmod 20 = s % 20 - 20 := by
    rcases Int.lt_or_le s 0 with h | h
    · have h := @Int.tmod_eq_emod s 20
      have e : ((Int.natAbs 20 : Nat) : Int) = 20 := rfl
      split at h <;> omega
    · exact .inl (Int.tmod_eq_emod_of_nonneg h)
  rw [w64 (x := s.tmod 20 + 20) (by omega) (by omega), Int.tmod_eq_emod_of_nonneg (show 0 ≤ s.tmod 20 + 20 by omega), w64 (by omega) (by omega)]
  exact ⟨(1 + (s.tmod 20 + 20) % 20).toNat, by omega, by omega, by omega⟩

theorem back_j (r : List Int) (rr : r.length * 8 ≤ 140737488351232) (q s : Int) (h0 : -9223372036854775808 ≤ q) (h1 : q < 9223372036854775808) (h2 : -9223372036854775808 ≤ s) (h3 : s < 9223372036854775808)
    (z : List C) (hz : z.length ≤ 32768) : f_foghornlaw08_MixBack.j1 r q s z = some true := by
  have hz2 : z.length ≤ 65536 := by omega
  have hu := ups_len z
  have u1 : f_mix_Up z q = some (ups z q, 0) := by rw [own_up _ _ h0 h1, cutl_of _ _ hz2, er_of _ hz2]
  have u2 : f_mix_Down (ups z q) q = some (z, 0) := by rw [own_down _ _ h0 h1, cutl_of _ _ (by rw [hu]; exact hz2), er_of _ (by rw [hu]; exact hz2), ups_back]
  have u3 : f_mix_Down z q = some (ups z (-q), 0) := by rw [own_down _ _ h0 h1, cutl_of _ _ hz2, er_of _ hz2]
  have u4 : f_mix_Up (ups z (-q)) q = some (z, 0) := by
    have := ups_back z (-q)
    rw [Int.neg_neg] at this
    rw [own_up _ _ h0 h1, cutl_of _ _ (by rw [hu]; exact hz2), er_of _ (by rw [hu]; exact hz2), this]
  have u5 : f_mix_Line z = some (flat (ups z 1), 0) := line_own z hz
  have hfl : (flat (ups z 1)).length = 2 * z.length := by rw [flat_len, hu]
  have u6 : f_mix_Unline (flat (ups z 1)) = some (z, 0) := by rw [unline_own _ (by omega) (by omega), prs_flat, ups_back]
  have u7 : f_mix_Mirror z = some (mir z, 0) := mirror_own z hz2
  have u8 : f_mix_Mirror (mir z) = some (z, 0) := by rw [mirror_own _ (by rw [mir_len]; exact hz2), mir_mir]
  have hs := same_self z hz2
  unfold f_foghornlaw08_MixBack.j1
  rw [u1]; simp only [Option.bind_some]
  rw [u2]; simp only [Option.bind_some]
  rw [u3]; simp only [Option.bind_some]
  rw [u4]; simp only [Option.bind_some]
  rw [u5]; simp only [Option.bind_some]
  rw [u6]; simp only [Option.bind_some]
  rw [u7]; simp only [Option.bind_some]
  rw [u8]
  simp only [Option.bind_some, bne_self_eq_false, Bool.or_self, Bool.false_eq_true, if_false, hs, Bool.not_true, Bool.false_or]
  rw [hfl, w64 (by omega) (by omega), if_neg (by simp), numbers_some r rr]
  simp only [Option.bind_some]
  have hn := nums_len r
  -- the line
  have hln : ((nums r).take 32768).length ≤ 32768 := by simp; omega
  have k1 : loop (f_foghornlaw08_MixBack.s1 (nums r, [mark])) ([], (0 : Int)) = some (flat ((nums r).take 32768)) := by
    have := loop_for (f := f_foghornlaw08_MixBack.s1 (nums r, [mark])) ((nums r).take 32768).length (fun i => flat ((nums r).take i)) (flat ((nums r).take 32768)) (fun i hi => ?_) ?_
    · have e0 : flat ((nums r).take 0) = [] := rfl
      rw [e0] at this
      exact this
    · simp only [List.length_take] at hi
      simp only [f_foghornlaw08_MixBack.s1, f_foghornlaw08_MixBack.s1c]
      rw [if_pos (by simp; omega), if_pos (by omega), if_pos (by omega), if_pos (by simp [flat_len]; omega), w64 (by omega) (by omega), List.take_succ_eq_append_getElem (by omega), flat_app, gt_nat (by omega)]; rfl
    · simp only [f_foghornlaw08_MixBack.s1, f_foghornlaw08_MixBack.s1c]
      rw [if_neg (by simp; omega)]
      congr 2
      simp only [List.length_take]
      rcases Nat.le_total 32768 (nums r).length with h | h
      · rw [Nat.min_eq_left h]
      · rw [Nat.min_eq_right h, List.take_of_length_le (Nat.le_refl _), List.take_of_length_le h]
  rw [k1]
  simp only [Option.bind_some]
  generalize (nums r).take 32768 = y at hln
  have hfy := flat_len y
  have u9 : f_mix_Unline (flat y) = some (ups y (-1), 0) := by rw [unline_own _ (by omega) (by omega), prs_flat]
  have u10 : f_mix_Line (ups y (-1)) = some (flat y, 0) := by
    have := ups_back y (-1)
    rw [Int.neg_neg] at this
    rw [line_own _ (by rw [ups_len]; exact hln), this]
  rw [u9]; simp only [Option.bind_some]
  rw [u10]
  simp only [Option.bind_some, bne_self_eq_false, Bool.or_self, Bool.false_eq_true, if_false, floats_self _ (show (flat y).length ≤ 65536 by omega), Bool.not_true]
  -- shares
  obtain ⟨n, n1, n2, hst⟩ := step_of s h2 h3
  have hdiv : IntKind.i64.wrap ((z.length : Int).tdiv (n : Int)) = ((z.length / n : Nat) : Int) := by
    have h := Nat.div_le_self z.length n
    rw [Int.tdiv_eq_ediv_of_nonneg (by omega), show (z.length : Int) / (n : Int) = ((z.length / n : Nat) : Int) from rfl]
    generalize z.length / n = d at h ⊢
    rw [w64 (by omega) (by omega)]
  have hmul : z.length / n * n ≤ z.length := Nat.div_mul_le_self _ _
  have hcut : IntKind.i64.wrap (((z.length / n : Nat) : Int) * (n : Int)) = ((z.length / n * n : Nat) : Int) := by
    rw [← Int.natCast_mul]
    generalize z.length / n * n = d at hmul ⊢
    rw [w64 (by omega) (by omega)]
  have hlt : ((z.drop 0).take (((z.length / n * n : Nat) : Int).toNat - 0)).length = z.length / n * n := by
    rw [Int.toNat_natCast, List.drop_zero, Nat.sub_zero, List.length_take]; omega
  have k2 : loop (f_foghornlaw08_MixBack.s2 s z) ([], (0 : Int)) = some (.inl ((List.range n).map fun k => shr ((z.drop 0).take (((z.length / n * n : Nat) : Int).toNat - 0)) k n (z.length / n * n) 0)) := by
    have := loop_for (f := f_foghornlaw08_MixBack.s2 s z) n (fun i => (List.range i).map fun k => shr ((z.drop 0).take (((z.length / n * n : Nat) : Int).toNat - 0)) k n (z.length / n * n) 0)
      (.inl ((List.range n).map fun k => shr ((z.drop 0).take (((z.length / n * n : Nat) : Int).toNat - 0)) k n (z.length / n * n) 0)) (fun i hi => ?_) ?_
    · simpa using this
    · simp only [f_foghornlaw08_MixBack.s2, f_foghornlaw08_MixBack.s2c, hst, hdiv, hcut]
      rw [if_pos (by simpa using hi), if_pos (by omega), if_pos (by omega)]
      generalize ((z.drop 0).take (((z.length / n * n : Nat) : Int).toNat - 0)) = x at hlt
      have hsh : f_mix_Share x (i : Int) (n : Int) = some (shr x i n (z.length / n * n) 0, 0) := by
        unfold f_mix_Share f_mix_fits
        simp only [Option.bind_some]
        rw [if_neg (by simp; omega)]
        simp only [Option.bind_some]
        rw [if_neg (by simp; omega)]
        have := share_own x i n (by omega) (by omega) (by omega) (x.length - i) i [] (Nat.le_refl _) (by omega) (Nat.mod_eq_of_lt hi) (by simp)
        rw [this]
        simp only [List.nil_append, Option.bind_some]
        have hno : ∀ j, 0 ≤ j → j < 0 + i → j % n ≠ i := fun j _ b e => by rw [Nat.mod_eq_of_lt (by omega)] at e; omega
        rw [hlt]
        by_cases hd : i ≤ z.length / n * n
        · rw [shr_skip x i n i _ 0 hd hno, Nat.zero_add]
        · rw [shr_skip x i n (z.length / n * n) _ 0 (Nat.le_refl _) (fun j a b => hno j a (by omega)), show z.length / n * n - i = 0 by omega, Nat.sub_self]; rfl
      rw [hsh]
      simp only [Option.bind_some, bne_self_eq_false, Bool.false_eq_true, if_false]
      rw [if_pos (by simp; omega), w64 (by omega) (by omega), List.range_succ, List.map_append]; rfl
    · simp only [f_foghornlaw08_MixBack.s2, f_foghornlaw08_MixBack.s2c, hst]
      rw [if_neg (by simp)]
  rw [k2]
  simp only [Option.bind_some, sm, hst, hdiv, hcut]
  rw [merge_back _ (z.length / n) n n1 n2 hlt (by omega)]
  simp only [Option.bind_some, beq_self_eq_true, if_true]
  rw [if_pos (by omega), if_pos (by omega), same_self _ (by rw [hlt]; omega)]
  rfl

theorem back_true (l : List Int) (w0 : ∀ x ∈ l, (Lit.int .u64 x).wf = true) (r0 : l.length * 8 ≤ 140737488351232) (r : List Int) (w1 : ∀ x ∈ r, (Lit.int .u64 x).wf = true) (r1 : r.length * 8 ≤ 140737488351232)
    (q : Int) (w2 : (Lit.int .i64 q).wf = true) (s : Int) (w3 : (Lit.int .i64 s).wf = true) : f_foghornlaw08_MixBack l r q s = some true := by
  have hq : -9223372036854775808 ≤ q ∧ q < 9223372036854775808 := by simp [Lit.wf, IntKind.min, IntKind.max, IntKind.bits, IntKind.signed] at w2; omega
  have hs : -9223372036854775808 ≤ s ∧ s < 9223372036854775808 := by simp [Lit.wf, IntKind.min, IntKind.max, IntKind.bits, IntKind.signed] at w3; omega
  unfold f_foghornlaw08_MixBack
  rw [awake_true]
  simp only [Option.bind_some, Bool.not_true, Bool.false_eq_true, if_false]
  rw [numbers_some l r0]
  simp only [Option.bind_some]
  split
  · rename_i h
    have h' : 32768 < (nums l).length := by have := of_decide_eq_true h; omega
    rw [if_pos (by simp; omega)]
    exact back_j r r1 q s hq.1 hq.2 hs.1 hs.2 _ (by simp; omega)
  · rename_i h
    exact back_j r r1 q s hq.1 hq.2 hs.1 hs.2 _ (by have : ¬ ((32768 : Int) < ((nums l).length : Int)) := fun hh => h (decide_eq_true hh); omega)
end Go.Proofs.Ytfppofbdmhihpaa
