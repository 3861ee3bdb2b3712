/- The plain law of MixAdds. -/
import Derived.Test.YtfppofbdmhihpaaG5
import Derived.Test.YtfppofbdmhihpaaGlK
import Derived.Test.YtfppofbdmhihpaaGlW
import Derived.Test.YtfppofbdmhihpaaGlU
set_option linter.unusedVariables false
set_option linter.unusedSimpArgs false
set_option maxRecDepth 8000
set_option exponentiation.threshold 3000
namespace Go.Proofs.Ytfppofbdmhihpaa
open GL Go

theorem lst {σ R : Type} {f : σ → Option (σ ⊕ R)} (n : Nat) (g : Nat → σ) (r : R)
    (h1 : ∀ i : Nat, i < n → f (g i) = some (.inl (g (i + 1)))) (h2 : f (g n) = some (.inr r)) : loop f (g 0) = some r := by
  have : ∀ k i : Nat, i + k = n → loop f (g i) = some r := by
    intro k
    induction k with
    | zero => intro i hi; obtain rfl : i = n := by omega
              exact loop_done h2
    | succ k ih => intro i hi; rw [loop_step (h1 i (by omega))]; exact ih (i + 1) (by omega)
  exact this n 0 (by omega)
abbrev C := Fl × Fl
theorem wf_u64 {x : Int} (h : (Lit.int .u64 x).wf = true) : 0 ≤ x ∧ x < 18446744073709551616 := by
  simp [Lit.wf, IntKind.min, IntKind.max, IntKind.bits, IntKind.signed] at h
  omega
theorem fneg_fneg (x : Fl) : fneg (fneg x) = x := by
  cases x with
  | bits b =>
    show Fl.bits ((b ^^^ 2 ^ 63) ^^^ 2 ^ 63) = Fl.bits b
    rw [Nat.xor_assoc, Nat.xor_self, Nat.xor_zero]
  | nan => rfl
/-- turned by k quarters -/
def T : Nat → C → C
  | 0, z => z
  | k + 1, z => T k (fneg z.2, z.1)
theorem and3 (x : Int) : iand .i64 x 3 = x % 4 := by
  have e : iand .i64 x 3 = IntKind.i64.wrap (((BitVec.ofInt 64 x &&& BitVec.ofInt 64 3).toNat : Nat) : Int) := rfl
  have e3 : (BitVec.ofInt 64 3).toNat = 2 ^ 2 - 1 := by decide
  rw [e, BitVec.toNat_and, e3, Nat.and_two_pow_sub_one_eq_mod, BitVec.toNat_ofInt]
  have h : 0 ≤ x % ((2 ^ 64 : Nat) : Int) := Int.emod_nonneg _ (by decide)
  rw [w64 (by omega) (by omega)]
  omega
def ups (l : List C) (q : Int) : List C := (List.range l.length).map fun (i : Nat) => T (((i : Int) * q) % 4).toNat (gt l (i : Int))
theorem ups_len (l : List C) (q : Int) : (ups l q).length = l.length := by simp [ups]
def er (l : List C) : Int := if 65536 < l.length then 1 else 0
def cutl (l x : List C) : List C := if 65536 < l.length then [] else x
theorem turns_T (z : C) (k : Int) (h0 : 0 ≤ k) (h1 : k < 4) :
    (if k = (0 : Int) then f_mix_turns_1 z else if k = (1 : Int) then f_mix_turns_2 z else if k = (2 : Int) then f_mix_turns_3 z else f_mix_turns_4 z) = some (T k.toNat z) := by
  have : k = 0 ∨ k = 1 ∨ k = 2 ∨ k = 3 := by omega
  rcases this with rfl | rfl | rfl | rfl
  · rfl
  · rfl
  · rfl
  · show f_mix_turns_4 z = some (T 3 z)
    simp [f_mix_turns_4, T, fneg_fneg]
theorem own_up (l : List C) (q : Int) (h0 : -9223372036854775808 ≤ q) (h1 : q < 9223372036854775808) : f_mix_Up l q = some (cutl l (ups l q), er l) := by
  unfold f_mix_Up f_mix_fits f_mix_turns f_mix_by
  simp only [Option.bind_some]
  by_cases h : 65536 < l.length
  · rw [if_pos (by simp; omega)]; simp [cutl, er, h]
  · rw [if_neg (by simp; omega), if_pos (by omega), and3]
    have key : ∀ n i : Nat, i + n = l.length → loop (f_mix_Up.s1 l (q % 4)) (((i : Int) * q) % 4, (ups l q).take i, (i : Int)) = some (ups l q) := by
      intro n
      induction n with
      | zero =>
        intro i hi
        apply loop_done
        simp only [f_mix_Up.s1, f_mix_Up.s1c]
        rw [if_neg (by simp; omega), List.take_of_length_le (by rw [ups_len]; omega)]
      | succ n ih =>
        intro i hi
        refine (loop_step ?_).trans (ih (i + 1) (by omega))
        simp only [f_mix_Up.s1, f_mix_Up.s1c, f_mix_by]
        have hk : 0 ≤ ((i : Int) * q) % 4 ∧ ((i : Int) * q) % 4 < 4 := by omega
        rw [if_pos (by simp; omega), if_pos (by omega), if_pos hk, turns_T _ _ hk.1 hk.2]
        simp only [Option.bind_some]
        rw [if_pos (by simp [ups_len]; omega), and3, w64 (x := ((i : Int) * q) % 4 + q % 4) (by omega) (by omega), w64 (by omega) (by omega), List.take_succ_eq_append_getElem (by rw [ups_len]; omega)]
        have e : (((i : Int) * q) % 4 + q % 4) % 4 = (((i + 1 : Nat) : Int) * q) % 4 := by
          rw [← Int.add_emod]; congr 1
          rw [Int.natCast_add, Int.add_mul]; simp
        rw [e]
        simp [ups]
    have := key l.length 0 (by omega)
    simp only [Int.natCast_zero, Int.zero_mul, List.take_zero] at this
    have e0 : (0 : Int) % 4 = 0 := rfl
    rw [e0] at this
    have e1 : List.replicate ((0 : Int)).toNat (Fl.bits 0, Fl.bits 0) = [] := rfl
    rw [e1, this]; simp [cutl, er, h]
theorem ups_mod (l : List C) (a b : Int) (h : a % 4 = b % 4) : ups l a = ups l b := by
  unfold ups
  apply List.map_congr_left
  intro i _
  rw [Int.mul_emod, h, ← Int.mul_emod]
theorem float_self (x : Fl) : f_foghornref08_Float x x = some true := by
  unfold f_foghornref08_Float feq fne
  simp only [bne]
  cases (fcmp x x == some Ordering.eq) <;> rfl
theorem same_self (a : List C) (h : a.length ≤ 65536) : f_foghornref08_Same a a = some true := by
  unfold f_foghornref08_Same
  rw [if_neg (by simp)]
  have := loop_for1 (f := f_foghornref08_Same.s1 a a) a.length (.inl ()) (fun i hi => ?_) ?_
  · rw [this]; rfl
  · simp only [f_foghornref08_Same.s1, f_foghornref08_Same.s1c]
    rw [if_pos (by simpa using hi), if_pos (by omega), if_pos (by omega), float_self, float_self]
    simp only [Option.bind_some, Bool.not_true, Bool.false_eq_true, if_false]
    rw [if_pos (by omega), if_pos (by omega)]
    simp only [Option.bind_some, Bool.false_eq_true, if_false]
    rw [w64 (by omega) (by omega)]; rfl
  · simp only [f_foghornref08_Same.s1, f_foghornref08_Same.s1c]
    rw [if_neg (by simp)]
def flat (l : List C) : List Fl := l.flatMap fun z => [z.1, z.2]
theorem flat_len (l : List C) : (flat l).length = 2 * l.length := by
  induction l with
  | nil => rfl
  | cons z l ih => simp [flat] at ih ⊢; omega
theorem flat_app (l : List C) (z : C) : flat (l ++ [z]) = flat l ++ [z.1, z.2] := by simp [flat]
theorem ups_get (l : List C) (q : Int) (i : Nat) (hi : i < l.length) : (ups l q)[i]'(by rw [ups_len]; exact hi) = T (((i : Int) * q) % 4).toNat (gt l (i : Int)) := by simp [ups]
theorem line_own (l : List C) (h : l.length ≤ 32768) : f_mix_Line l = some (flat (ups l 1), 0) := by
  unfold f_mix_Line f_mix_fits
  simp only [Option.bind_some]
  rw [w64 (by omega) (by omega), if_neg (by simp; omega), own_up l 1 (by omega) (by omega)]
  simp only [Option.bind_some]
  have hc : cutl l (ups l 1) = ups l 1 := by unfold cutl; rw [if_neg (by omega)]
  have hul := ups_len l 1
  rw [if_pos (by omega), hc]
  have := loop_for (f := f_mix_Line.s1 (ups l 1, er l)) l.length (fun i => flat ((ups l 1).take i)) (flat (ups l 1)) (fun i hi => ?_) ?_
  · simp only [List.take_zero] at this
    have e : flat [] = [] := rfl
    have e1 : List.replicate ((0 : Int)).toNat (Fl.bits 0) = [] := rfl
    rw [e] at this
    rw [e1, this]; rfl
  · simp only [f_mix_Line.s1, f_mix_Line.s1c]
    rw [if_pos (by simp [hul]; omega), if_pos (by omega), if_pos (by simp [flat_len, hul]; omega), w64 (by omega) (by omega), List.take_succ_eq_append_getElem (by rw [hul]; exact hi), flat_app, gt_nat (by rw [hul]; exact hi)]; rfl
  · simp only [f_mix_Line.s1, f_mix_Line.s1c]
    rw [if_neg (by simp [hul]), List.take_of_length_le (by rw [hul]; exact Nat.le_refl _)]
theorem floats_self (a : List Fl) (h : a.length ≤ 65536) : f_foghornref08_Floats a a = some true := by
  unfold f_foghornref08_Floats
  rw [if_neg (by simp)]
  have := loop_for1 (f := f_foghornref08_Floats.s1 a a) a.length (.inl ()) (fun i hi => ?_) ?_
  · rw [this]; rfl
  · simp only [f_foghornref08_Floats.s1, f_foghornref08_Floats.s1c]
    rw [if_pos (by simpa using hi), if_pos (by omega), if_pos (by omega), float_self]
    simp only [Option.bind_some, Bool.not_true, Bool.false_eq_true, if_false]
    rw [w64 (by omega) (by omega)]; rfl
  · simp only [f_foghornref08_Floats.s1, f_foghornref08_Floats.s1c]
    rw [if_neg (by simp)]
theorem same_of (a b : List C) (hl : a.length = b.length) (hb : a.length ≤ 65536) (h : ∀ i : Nat, i < a.length → f_foghornref08_Float (gt a (i : Int)).1 (gt b (i : Int)).1 = some true ∧ f_foghornref08_Float (gt a (i : Int)).2 (gt b (i : Int)).2 = some true) :
    f_foghornref08_Same a b = some true := by
  have key : loop (f_foghornref08_Same.s1 a b) (0 : Int) = some (.inl ()) := by
    refine loop_for1 a.length (Sum.inl ()) (fun i hi => ?_) ?_
    · simp only [f_foghornref08_Same.s1, f_foghornref08_Same.s1c]
      rw [if_pos (by simpa using hi), if_pos (by omega), if_pos (by omega), (h i hi).1, (h i hi).2]
      simp only [Option.bind_some, Bool.not_true, Bool.false_eq_true, if_false]
      rw [if_pos (by omega), if_pos (by omega)]
      simp only [Option.bind_some, Bool.false_eq_true, if_false]
      rw [w64 (by omega) (by omega)]; rfl
    · simp only [f_foghornref08_Same.s1, f_foghornref08_Same.s1c]
      rw [if_neg (by simp)]
  unfold f_foghornref08_Same
  rw [if_neg (by simp [hl]), key]; rfl
theorem floats_of (a b : List Fl) (hl : a.length = b.length) (hb : a.length ≤ 65536) (h : ∀ i : Nat, i < a.length → f_foghornref08_Float (gt a (i : Int)) (gt b (i : Int)) = some true) :
    f_foghornref08_Floats a b = some true := by
  have key : loop (f_foghornref08_Floats.s1 a b) (0 : Int) = some (.inl ()) := by
    refine loop_for1 a.length (Sum.inl ()) (fun i hi => ?_) ?_
    · simp only [f_foghornref08_Floats.s1, f_foghornref08_Floats.s1c]
      rw [if_pos (by simpa using hi), if_pos (by omega), if_pos (by omega), h i hi]
      simp only [Option.bind_some, Bool.not_true, Bool.false_eq_true, if_false]
      rw [w64 (by omega) (by omega)]; rfl
    · simp only [f_foghornref08_Floats.s1, f_foghornref08_Floats.s1c]
      rw [if_neg (by simp)]
  unfold f_foghornref08_Floats
  rw [if_neg (by simp [hl]), key]; rfl

def aw4 : List C := [(Fl.bits 4607182418800017408, Fl.bits 0), (Fl.bits 4607182418800017408, Fl.bits 0), (Fl.bits 4607182418800017408, Fl.bits 0), (Fl.bits 4607182418800017408, Fl.bits 0)]
def aw2 : List C := [(Fl.bits 4607182418800017408, Fl.bits 4611686018427387904), (Fl.bits 4613937818241073152, Fl.bits 4616189618054758400)]
def av4 : List C := [(Fl.bits 4607182418800017408, Fl.bits 0), (Fl.bits 0, Fl.bits 4607182418800017408), (Fl.bits 13830554455654793216, Fl.bits 0), (Fl.bits 0, Fl.bits 13830554455654793216)]
def av2 : List Fl := [(Fl.bits 4607182418800017408), (Fl.bits 4611686018427387904), (Fl.bits 13839561654909534208), (Fl.bits 4613937818241073152)]
theorem cutl_of (l x : List C) (h : l.length ≤ 65536) : cutl l x = x := by unfold cutl; rw [if_neg (by omega)]
theorem er_of (l : List C) (h : l.length ≤ 65536) : er l = 0 := by unfold er; rw [if_neg (by omega)]
theorem awake_true : f_foghornlaw08_awake = some true := by
  have s1 : f_foghornref08_Same (ups aw4 1) av4 = some true := by
    refine same_of _ _ (by rw [ups_len]; rfl) (by rw [ups_len]; decide) fun i hi => ?_
    have key : ∀ i : Nat, i < 4 → (((feq (gt (ups aw4 1) (i : Int)).1 (gt av4 (i : Int)).1) || ((fne (gt (ups aw4 1) (i : Int)).1 (gt (ups aw4 1) (i : Int)).1) && (fne (gt av4 (i : Int)).1 (gt av4 (i : Int)).1))) = true) ∧
      (((feq (gt (ups aw4 1) (i : Int)).2 (gt av4 (i : Int)).2) || ((fne (gt (ups aw4 1) (i : Int)).2 (gt (ups aw4 1) (i : Int)).2) && (fne (gt av4 (i : Int)).2 (gt av4 (i : Int)).2))) = true) := by decide +kernel
    have := key i (by rw [ups_len] at hi; exact hi)
    exact ⟨by unfold f_foghornref08_Float; rw [this.1], by unfold f_foghornref08_Float; rw [this.2]⟩
  have s2 : f_foghornref08_Floats (flat (ups aw2 1)) av2 = some true := by
    have hl : (flat (ups aw2 1)).length = 4 := by rw [flat_len, ups_len]; rfl
    refine floats_of _ _ (by rw [hl]; rfl) (by omega) fun i hi => ?_
    have key : ∀ i : Nat, i < 4 → (((feq (gt (flat (ups aw2 1)) (i : Int)) (gt av2 (i : Int))) || ((fne (gt (flat (ups aw2 1)) (i : Int)) (gt (flat (ups aw2 1)) (i : Int))) && (fne (gt av2 (i : Int)) (gt av2 (i : Int))))) = true) := by decide +kernel
    have := key i (by omega)
    unfold f_foghornref08_Float; rw [this]
  have h1 : f_mix_Up aw4 1 = some (ups aw4 1, 0) := by rw [own_up _ 1 (by omega) (by omega), cutl_of _ _ (by decide), er_of _ (by decide)]
  have h2 : f_mix_Line aw2 = some (flat (ups aw2 1), 0) := line_own _ (by decide)
  unfold f_foghornlaw08_awake
  rw [show [(Fl.bits 4607182418800017408, Fl.bits 0), (Fl.bits 4607182418800017408, Fl.bits 0), (Fl.bits 4607182418800017408, Fl.bits 0), (Fl.bits 4607182418800017408, Fl.bits 0)] = aw4 from rfl, h1]
  simp only [Option.bind_some]
  rw [show [(Fl.bits 4607182418800017408, Fl.bits 4611686018427387904), (Fl.bits 4613937818241073152, Fl.bits 4616189618054758400)] = aw2 from rfl, h2]
  simp only [Option.bind_some]
  rw [if_pos (by decide), show [(Fl.bits 4607182418800017408, Fl.bits 0), (Fl.bits 0, Fl.bits 4607182418800017408), (Fl.bits 13830554455654793216, Fl.bits 0), (Fl.bits 0, Fl.bits 13830554455654793216)] = av4 from rfl, s1]
  simp only [Option.bind_some, if_true]
  rw [show [(Fl.bits 4607182418800017408), (Fl.bits 4611686018427387904), (Fl.bits 13839561654909534208), (Fl.bits 4613937818241073152)] = av2 from rfl, s2]
  rfl

theorem own_down (l : List C) (q : Int) (h0 : -9223372036854775808 ≤ q) (h1 : q < 9223372036854775808) : f_mix_Down l q = some (cutl l (ups l (-q)), er l) := by
  unfold f_mix_Down f_mix_by
  simp only [Option.bind_some]
  rw [and3, w64 (by omega) (by omega), own_up l _ (by omega) (by omega), ups_mod l (0 - q % 4) (-q) (by omega)]; rfl
theorem T_add : ∀ (a b : Nat) (z : C), T a (T b z) = T (b + a) z
  | a, 0, z => by simp [T]
  | a, b + 1, z => by rw [show b + 1 + a = (b + a) + 1 by omega]; exact T_add a b _
theorem T_four (z : C) : T 4 z = z := by simp [T, fneg_fneg]
def mir (l : List C) : List C := l.map fun z => (z.1, fneg z.2)
theorem own_mirror (l : List C) : f_mix_Mirror l = some (cutl l (mir l), er l) := by
  have hml : (mir l).length = l.length := by simp [mir]
  have tk : ∀ i (hi : i < l.length), (mir l).take (i + 1) = (mir l).take i ++ [((gt l (i : Int)).1, fneg (gt l (i : Int)).2)] := by
    intro i hi
    rw [List.take_succ_eq_append_getElem (by rw [hml]; exact hi), gt_nat hi]; simp [mir]
  unfold f_mix_Mirror f_mix_fits
  simp only [Option.bind_some]
  by_cases h : 65536 < l.length
  · rw [if_pos (by simp; omega)]; simp [cutl, er, h]
  · rw [if_neg (by simp; omega), if_pos (by omega)]
    have := loop_for (f := f_mix_Mirror.s1 l) l.length (fun i => (mir l).take i) (mir l) (fun i hi => ?_) ?_
    · simp only [List.take_zero] at this
      have e1 : List.replicate ((0 : Int)).toNat (Fl.bits 0, Fl.bits 0) = [] := rfl
      rw [e1, this]; simp [cutl, er, h]
    · simp only [f_mix_Mirror.s1, f_mix_Mirror.s1c]
      rw [if_pos (by simpa using hi), if_pos (by omega), if_pos (by simp [hml]; omega), w64 (by omega) (by omega), tk i hi]; rfl
    · simp only [f_mix_Mirror.s1, f_mix_Mirror.s1c]
      rw [if_neg (by simp), List.take_of_length_le (by rw [hml]; exact Nat.le_refl _)]

def one : C := (Fl.bits 4607182418800017408, Fl.bits 0)
theorem own_carrier {q : Int} {m : Nat} (hm : m ≤ 65536) (h0 : -9223372036854775808 ≤ q) (h1 : q < 9223372036854775808) : f_mix_Carrier q (m : Int) = some (ups (List.replicate m one) q, 0) := by
  unfold f_mix_Carrier f_mix_fits
  rw [if_neg (by simp <;> omega)]
  simp only [Option.bind_some]
  rw [if_neg (by simp; omega), if_pos (by omega), Int.toNat_natCast]
  have e2 : loop (f_mix_Carrier.s1 (m : Int)) (List.replicate m (Fl.bits 0, Fl.bits 0), (0 : Int)) = some (List.replicate m one) := by
    have := loop_for (f := f_mix_Carrier.s1 (m : Int)) m (fun i => List.replicate i one ++ List.replicate (m - i) (Fl.bits 0, Fl.bits 0)) (List.replicate m one) (fun i hi => ?_) ?_
    · simpa using this
    · simp only [f_mix_Carrier.s1, f_mix_Carrier.s1c, Int.toNat_natCast]
      rw [if_pos (by simp; omega), if_pos (by simp; omega), w64 (by omega) (by omega), List.set_append_right _ _ (by simp)]
      have e3 : List.replicate (m - i) ((Fl.bits 0, Fl.bits 0) : C) = (Fl.bits 0, Fl.bits 0) :: List.replicate (m - (i + 1)) (Fl.bits 0, Fl.bits 0) := by
        rw [← List.replicate_succ]; congr 1; omega
      rw [e3, List.replicate_succ']
      simp [one]
    · simp only [f_mix_Carrier.s1, f_mix_Carrier.s1c, Int.toNat_natCast]
      rw [if_neg (by simp)]; simp
  rw [e2]
  simp only [Option.bind_some]
  rw [own_up _ q h0 h1]
  unfold cutl er
  rw [List.length_replicate, if_neg (by omega), if_neg (by omega)]; rfl
/-! ### What a float stands for -/
theorem log2_mul_pow {m : Nat} (hm : m ≠ 0) (a : Nat) : (m * 2 ^ a).log2 = m.log2 + a := by
  have h0 : m * 2 ^ a ≠ 0 := Nat.mul_ne_zero hm (Nat.ne_of_gt (Nat.two_pow_pos a))
  rw [Nat.log2_eq_iff h0]
  have l1 := Nat.log2_self_le hm
  have l2 : m < 2 ^ (m.log2 + 1) := Nat.lt_log2_self
  constructor
  · rw [Nat.pow_add]; exact Nat.mul_le_mul_right _ l1
  · rw [show m.log2 + a + 1 = m.log2 + 1 + a by omega, Nat.pow_add _ _ a]; exact Nat.mul_lt_mul_of_pos_right l2 (Nat.two_pow_pos a)
theorem cut_exact (neg : Bool) {m : Nat} (hm : m ≠ 0) (d : Nat) : Ieee.Toward.even.cut neg (m * 2 ^ d) d = m := by
  unfold Ieee.Toward.cut
  rw [log2_mul_pow hm, Nat.min_eq_left (by omega)]
  have hp := Nat.two_pow_pos d
  simp only [Nat.one_shiftLeft, Nat.mul_div_cancel _ hp, Nat.mul_mod_left]
  have e1 : decide (2 ^ d < 2 * 0) = false := by rw [decide_eq_false_iff_not]; omega
  have e2 : (2 ^ d == 2 * 0) = false := by rw [beq_eq_false_iff_ne]; omega
  rw [e1, e2]; simp
theorem nearest_eq (neg : Bool) {mag : Nat} (place : Int) (h : mag ≠ 0) : Ieee.double.nearest neg mag place = Ieee.double.word neg (min ((max (place + mag.log2 - 52) (-1074) - (-1074)).toNat * 4503599627370496 + Ieee.Toward.even.cut neg (mag <<< (place - max (place + mag.log2 - 52) (-1074)).toNat) (max (place + mag.log2 - 52) (-1074) - place).toNat) 9218868437227405312) := by
  unfold Ieee.Format.nearest
  rw [if_neg h]
  have e1 : (Ieee.double.fractionBits : Nat) = 52 := rfl
  have e2 : Ieee.double.leastPlace = -1074 := by decide
  have e3 : Ieee.double.binade = 4503599627370496 := by decide
  have e4 : Ieee.double.infRung = 9218868437227405312 := by decide
  simp only [e1, e2, e3, e4]
  rfl
theorem read_eq (w : Nat) : Ieee.double.read w = (if w % 9223372036854775808 < 4503599627370496 then .number (w / 9223372036854775808 % 2 == 1) (w % 9223372036854775808) (-1074)
    else if w % 9223372036854775808 < 9218868437227405312 then .number (w / 9223372036854775808 % 2 == 1) (4503599627370496 + w % 9223372036854775808 % 4503599627370496) (-1074 + ((w % 9223372036854775808 / 4503599627370496 - 1 : Nat) : Int))
    else if w % 9223372036854775808 = 9218868437227405312 then .infinity (w / 9223372036854775808 % 2 == 1) else .nan (w / 9223372036854775808 % 2 == 1) (w % 9223372036854775808 - 9218868437227405312)) := by
  have e1 : Ieee.double.signWeight = 9223372036854775808 := by decide
  have e2 : Ieee.double.leastPlace = -1074 := by decide
  have e3 : Ieee.double.binade = 4503599627370496 := by decide
  have e4 : Ieee.double.infRung = 9218868437227405312 := by decide
  simp only [Ieee.Format.read, e1, e2, e3, e4]
theorem word_eq (neg : Bool) (r : Nat) : Ieee.double.word neg r = if neg then 9223372036854775808 + r else r := by
  have e1 : Ieee.double.signWeight = 9223372036854775808 := by decide
  simp only [Ieee.Format.word, e1]
theorem read_word (neg : Bool) {t kept : Nat} (h : kept < 9007199254740992) (h2 : t = 0 ∨ 4503599627370496 ≤ kept) (ht : t < 2000) :
    ∃ m e, Ieee.double.read (Ieee.double.word neg (min (t * 4503599627370496 + kept) 9218868437227405312)) = .number neg m e ∧ -1074 ≤ e ∧ m * 2 ^ (e + 1074).toNat = kept * 2 ^ t := by
  rw [Nat.min_eq_left (by omega), word_eq, read_eq]
  generalize hr : t * 4503599627370496 + kept = r
  have hlt : r < 9218868437227405312 := by omega
  generalize hw : (if neg then 9223372036854775808 + r else r) = w
  have w1 : w % 9223372036854775808 = r := by
    cases neg
    · simp at hw; omega
    · simp at hw; omega
  have w2 : (w / 9223372036854775808 % 2 == 1) = neg := by
    cases neg
    · simp only [Bool.false_eq_true, if_false] at hw
      rw [beq_eq_false_iff_ne]; omega
    · simp only [if_true] at hw
      rw [beq_iff_eq]; omega
  rw [w1, w2]
  by_cases hc : r < 4503599627370496
  · rw [if_pos hc]
    have : t = 0 := by omega
    subst this
    refine ⟨_, _, rfl, by omega, ?_⟩
    have : r = kept := by omega
    subst this
    rfl
  · rw [if_neg hc, if_pos hlt]
    refine ⟨_, _, rfl, by omega, ?_⟩
    have e1 : 4503599627370496 + r % 4503599627370496 = kept := by omega
    have e2 : (-1074 + ((r / 4503599627370496 - 1 : Nat) : Int) + 1074).toNat = t := by omega
    rw [e1, e2]
/-- a number that the format has is written as it is -/
theorem near (neg : Bool) {z p K mag : Nat} {place : Int} (hm : mag ≠ 0) (hK : K < 9007199254740992) (hp : p ≤ 800) (hz : p ≤ z) (hpl : 0 ≤ place + z) (h : mag * 2 ^ (place + z).toNat = K * 2 ^ (z - p)) :
    ∃ m e, Ieee.double.read (Ieee.double.nearest neg mag place) = .number neg m e ∧ -1074 ≤ e ∧ m * 2 ^ (e + 1074).toNat = K * 2 ^ (1074 - p) := by
  have hK0 : K ≠ 0 := by
    intro e
    subst e
    rw [Nat.zero_mul] at h
    exact Nat.mul_ne_zero hm (Nat.ne_of_gt (Nat.two_pow_pos _)) h
  have hL : K.log2 ≤ 52 := by
    have := (Nat.log2_lt hK0 (k := 53)).2 (by simpa using hK)
    omega
  have hlog : place + (mag.log2 : Int) = K.log2 - p := by
    have a1 := log2_mul_pow hm (place + z).toNat
    have a2 := log2_mul_pow hK0 (z - p)
    rw [h] at a1
    omega
  rw [nearest_eq neg place hm]
  have hlast : max (place + mag.log2 - 52) (-1074) = max ((K.log2 : Int) - p - 52) (-1074) := by rw [hlog]
  rw [hlast]
  generalize hl : max ((K.log2 : Int) - p - 52) (-1074) = last
  -- the digits that are kept
  have hlp : last ≤ -p := by omega
  have key : mag * 2 ^ (place - last).toNat = (K * 2 ^ (-p - last).toNat) * 2 ^ (last - place).toNat := by
    have hP := Nat.two_pow_pos (place + z).toNat
    apply Nat.eq_of_mul_eq_mul_right hP
    have s1 : mag * 2 ^ (place - last).toNat * 2 ^ (place + z).toNat = (mag * 2 ^ (place + z).toNat) * 2 ^ (place - last).toNat := by
      rw [Nat.mul_assoc, Nat.mul_comm (2 ^ (place - last).toNat), ← Nat.mul_assoc]
    rw [s1, h, Nat.mul_assoc, ← Nat.pow_add, Nat.mul_assoc K, ← Nat.pow_add, Nat.mul_assoc K, ← Nat.pow_add]
    congr 2
    omega
  have hk0 : K * 2 ^ (-p - last).toNat ≠ 0 := Nat.mul_ne_zero hK0 (Nat.ne_of_gt (Nat.two_pow_pos _))
  rw [Nat.shiftLeft_eq, key, cut_exact neg hk0]
  have hkl := log2_mul_pow hK0 (-p - last).toNat
  have hk53 : K * 2 ^ (-p - last).toNat < 9007199254740992 := by
    have l2 : K * 2 ^ (-p - last).toNat < 2 ^ ((K * 2 ^ (-p - last).toNat).log2 + 1) := Nat.lt_log2_self
    have l3 : 2 ^ ((K * 2 ^ (-p - last).toNat).log2 + 1) ≤ 2 ^ 53 := Nat.pow_le_pow_right (by decide) (by omega)
    have l4 : (2 : Nat) ^ 53 = 9007199254740992 := by decide
    omega
  have hk52 : (last - (-1074)).toNat = 0 ∨ 4503599627370496 ≤ K * 2 ^ (-p - last).toNat := by
    by_cases hc : last = -1074
    · left; omega
    · right
      have l1 := Nat.log2_self_le hk0
      have l3 : 2 ^ 52 ≤ 2 ^ (K * 2 ^ (-p - last).toNat).log2 := Nat.pow_le_pow_right (by decide) (by omega)
      have l4 : (2 : Nat) ^ 52 = 4503599627370496 := by decide
      omega
  obtain ⟨m, e, r1, r2, r3⟩ := read_word neg hk53 hk52 (by omega)
  refine ⟨m, e, r1, r2, r3.trans ?_⟩
  rw [Nat.mul_assoc, ← Nat.pow_add]
  congr 2
  omega
def sg (s : Bool) (m : Nat) : Int := if s then -(m : Int) else (m : Int)
theorem sg_mul (s : Bool) (m n : Nat) : sg s (m * n) = sg s m * (n : Int) := by
  cases s <;> simp [sg, Int.neg_mul]
theorem signed_eq (s : Bool) (m u : Nat) : Ieee.signed s m u = sg s (m * 2 ^ u) := by
  unfold Ieee.signed sg
  rw [Nat.shiftLeft_eq]
/-- 'x' stands for 'k / 2 ^ p' -/
def Val (p : Nat) (x : Fl) (k : Int) : Prop := ∃ b s m e, x = .bits b ∧ Ieee.double.read b = .number s m e ∧ -1074 ≤ e ∧ sg s (m * 2 ^ (e + 1074).toNat) = k * ((2 ^ (1074 - p) : Nat) : Int)
theorem pow_pos_i (a : Nat) : (0 : Int) < ((2 ^ a : Nat) : Int) := by have := Nat.two_pow_pos a; omega
theorem val_near (neg : Bool) {z p : Nat} {k total : Int} {place : Int} (hp : p ≤ 800) (hz : p ≤ z) (hpl : 0 ≤ place + z) (hk : k.natAbs < 9007199254740992)
    (h : total * ((2 ^ (place + z).toNat : Nat) : Int) = k * ((2 ^ (z - p) : Nat) : Int)) (hs : total ≠ 0 → neg = decide (total < 0)) : Val p (.bits (Ieee.double.nearest neg total.natAbs place)) k := by
  have p1 := pow_pos_i (place + z).toNat
  have p2 := pow_pos_i (z - p)
  by_cases h0 : total = 0
  · subst h0
    rw [Int.zero_mul] at h
    have hk0 : k = 0 := by
      rcases Int.mul_eq_zero.1 h.symm with h | h
      · exact h
      · omega
    subst hk0
    refine ⟨_, neg, 0, -1074, rfl, ?_, by decide, ?_⟩
    · have : Ieee.double.nearest neg (0 : Int).natAbs place = Ieee.double.word neg 0 := rfl
      rw [this]
      cases neg <;> decide
    · rw [Nat.zero_mul, Int.zero_mul]; cases neg <;> rfl
  · obtain ⟨m, e, r1, r2, r3⟩ := near neg (mag := total.natAbs) (K := k.natAbs) (place := place) (z := z) (p := p) (by omega) hk hp hz hpl (by
      have := congrArg Int.natAbs h
      rw [Int.natAbs_mul, Int.natAbs_mul, Int.natAbs_natCast, Int.natAbs_natCast] at this
      exact this)
    refine ⟨_, neg, m, e, rfl, r1, r2, ?_⟩
    rw [r3, sg_mul, hs h0]
    congr 1
    by_cases ht : total < 0
    · have : k < 0 := by
        apply Int.not_le.mp
        intro hk
        have a1 : 0 ≤ k * ((2 ^ (z - p) : Nat) : Int) := Int.mul_nonneg hk (by omega)
        have a2 : total * ((2 ^ (place + z).toNat : Nat) : Int) < 0 := Int.mul_neg_of_neg_of_pos ht p1
        omega
      rw [decide_eq_true ht]; simp only [sg, if_true]; omega
    · have : 0 ≤ k := by
        apply Int.not_lt.mp
        intro hk
        have a1 : k * ((2 ^ (z - p) : Nat) : Int) < 0 := Int.mul_neg_of_neg_of_pos hk p2
        have a2 : 0 ≤ total * ((2 ^ (place + z).toNat : Nat) : Int) := Int.mul_nonneg (by omega) (by omega)
        omega
      rw [decide_eq_false ht]; simp only [sg, Bool.false_eq_true, if_false]; omega
theorem fofi_val {k : Int} (hk : k.natAbs < 9007199254740992) : Val 0 (fofi k) k := by
  have := val_near (decide (k < 0)) (z := 0) (p := 0) (k := k) (total := k) (place := 0) (by decide) (by decide) (by decide) hk rfl (fun _ => rfl)
  exact this
theorem zero_val (p : Nat) : Val p (.bits 0) 0 := by
  refine ⟨0, false, 0, -1074, rfl, by decide, by decide, ?_⟩
  rw [Nat.zero_mul, Int.zero_mul]; rfl
theorem sum_read {a b : Nat} {s t : Bool} {m n : Nat} {i j : Int} {p : Nat} {k l : Int} (hp : p ≤ 800) (hi : -1074 ≤ i) (hj : -1074 ≤ j)
    (h1 : sg s (m * 2 ^ (i + 1074).toNat) = k * ((2 ^ (1074 - p) : Nat) : Int)) (h2 : sg t (n * 2 ^ (j + 1074).toNat) = l * ((2 ^ (1074 - p) : Nat) : Int)) (hk : (k + l).natAbs < 9007199254740992) :
    ∃ d, (Ieee.Datum.number s m i).sum (.number t n j) = some d ∧ Val p (.bits (Ieee.double.write d)) (k + l) := by
  refine ⟨_, rfl, ?_⟩
  refine val_near (z := 1074) (p := p) (k := k + l) _ hp (by omega) (by omega) hk ?_ (fun h => by rw [if_neg h])
  rw [signed_eq, signed_eq, Int.add_mul, Int.add_mul, ← h1, ← h2, ← sg_mul, ← sg_mul, Nat.mul_assoc, ← Nat.pow_add, Nat.mul_assoc, ← Nat.pow_add]
  congr 4 <;> omega
theorem fadd_val {p : Nat} {x y : Fl} {k l : Int} (h1 : Val p x k) (h2 : Val p y l) (hp : p ≤ 800) (hk : (k + l).natAbs < 9007199254740992) : Val p (fadd x y) (k + l) := by
  obtain ⟨a, s, m, i, rfl, r1, hi, v1⟩ := h1
  obtain ⟨b, t, n, j, rfl, r2, hj, v2⟩ := h2
  obtain ⟨d, e1, e2⟩ := sum_read (a := a) (b := b) hp hi hj v1 v2 hk
  have : fadd (.bits a) (.bits b) = .bits (Ieee.double.write d) := by
    show farith .add _ _ = _
    have : floatBits .add .f64 a b = some (Ieee.double.write d) := by
      show Ieee.double.add a b = _
      unfold Ieee.Format.add
      rw [r1, r2, e1]; rfl
    simp only [farith, this]
  rw [this]; exact e2
theorem sg_not (s : Bool) (m : Nat) : sg (!s) m = - sg s m := by cases s <;> simp [sg]
theorem fsub_val {p : Nat} {x y : Fl} {k l : Int} (h1 : Val p x k) (h2 : Val p y l) (hp : p ≤ 800) (hk : (k - l).natAbs < 9007199254740992) : Val p (fsub x y) (k - l) := by
  obtain ⟨a, s, m, i, rfl, r1, hi, v1⟩ := h1
  obtain ⟨b, t, n, j, rfl, r2, hj, v2⟩ := h2
  obtain ⟨d, e1, e2⟩ := sum_read (a := a) (b := b) (t := !t) (n := n) (l := -l) hp hi hj v1 (by rw [sg_not, v2, Int.neg_mul]) (by rw [← Int.sub_eq_add_neg]; exact hk)
  have : fsub (.bits a) (.bits b) = .bits (Ieee.double.write d) := by
    show farith .sub _ _ = _
    have : floatBits .sub .f64 a b = some (Ieee.double.write d) := by
      show Ieee.double.sub a b = _
      unfold Ieee.Format.sub
      rw [r1, r2]
      show (Ieee.Datum.sum _ (Ieee.Datum.number (!t) n j)).map _ = _
      rw [e1]; rfl
    simp only [farith, this]
  rw [this, Int.sub_eq_add_neg]; exact e2
theorem sg_prod (s t : Bool) (m n : Nat) : sg (s ^^ t) (m * n) = sg s m * sg t n := by
  cases s <;> cases t <;> simp [sg, Int.neg_mul, Int.mul_neg]
theorem fmul_val {p q : Nat} {x y : Fl} {k l : Int} (h1 : Val p x k) (h2 : Val q y l) (hp : p + q ≤ 800) (hk : (k * l).natAbs < 9007199254740992) : Val (p + q) (fmul x y) (k * l) := by
  obtain ⟨a, s, m, i, rfl, r1, hi, v1⟩ := h1
  obtain ⟨b, t, n, j, rfl, r2, hj, v2⟩ := h2
  have hw : floatBits .mul .f64 a b = some (Ieee.double.nearest (s ^^ t) (m * n) (i + j)) := by
    show Ieee.double.mul a b = _
    unfold Ieee.Format.mul
    rw [r1, r2]; rfl
  have hf : fmul (.bits a) (.bits b) = .bits (Ieee.double.nearest (s ^^ t) (m * n) (i + j)) := by
    show farith .mul _ _ = _
    simp only [farith, hw]
  rw [hf]
  have hab : (sg (s ^^ t) (m * n)).natAbs = m * n := by unfold sg; split <;> omega
  rw [← hab]
  refine val_near (z := 2148) (p := p + q) (k := k * l) (total := sg (s ^^ t) (m * n)) _ hp (by omega) (by omega) hk ?_ (fun h => ?_)
  · rw [← sg_mul]
    have e : m * n * 2 ^ (i + j + ((2148 : Nat) : Int)).toNat = (m * 2 ^ (i + 1074).toNat) * (n * 2 ^ (j + 1074).toNat) := by
      rw [show (i + j + ((2148 : Nat) : Int)).toNat = (i + 1074).toNat + (j + 1074).toNat by omega, Nat.pow_add]
      rw [Nat.mul_assoc, Nat.mul_assoc]
      congr 1
      rw [← Nat.mul_assoc, ← Nat.mul_assoc, Nat.mul_comm n]
    rw [e, sg_prod, v1, v2, show 2148 - (p + q) = (1074 - p) + (1074 - q) by omega, Nat.pow_add, Int.natCast_mul]
    generalize ((2 ^ (1074 - p) : Nat) : Int) = P
    generalize ((2 ^ (1074 - q) : Nat) : Int) = Q
    grind
  · unfold sg at h ⊢
    cases hst : (s ^^ t)
    · rw [hst] at h
      simp only [Bool.false_eq_true, if_false] at h ⊢
      symm; rw [decide_eq_false_iff_not]; omega
    · rw [hst] at h
      simp only [if_true] at h ⊢
      symm; rw [decide_eq_true_eq]; omega
theorem feq_val {p : Nat} {x y : Fl} {k : Int} (h1 : Val p x k) (h2 : Val p y k) : feq x y = true := by
  obtain ⟨a, s, m, i, rfl, r1, hi, v1⟩ := h1
  obtain ⟨b, t, n, j, rfl, r2, hj, v2⟩ := h2
  have : fcmp (.bits a) (.bits b) = some .eq := by
    show (Ieee.double.read a).order (Ieee.double.read b) = _
    rw [r1, r2]
    unfold Ieee.Datum.order
    simp only [signed_eq]
    have hP := pow_pos_i (min i j + 1074).toNat
    have e : sg s (m * 2 ^ (i - min i j).toNat) = sg t (n * 2 ^ (j - min i j).toNat) := by
      apply Int.eq_of_mul_eq_mul_right (a := ((2 ^ (min i j + 1074).toNat : Nat) : Int)) (by omega)
      rw [← sg_mul, ← sg_mul, Nat.mul_assoc, ← Nat.pow_add, Nat.mul_assoc, ← Nat.pow_add, show (i - min i j).toNat + (min i j + 1074).toNat = (i + 1074).toNat by omega, show (j - min i j).toNat + (min i j + 1074).toNat = (j + 1074).toNat by omega, v1, v2]
    rw [e]
    congr 1
    simp
  unfold feq
  rw [this]; rfl
theorem fneg_val {p : Nat} {x : Fl} {k : Int} (h : Val p x k) : Val p (fneg x) (-k) := by
  obtain ⟨a, s, m, i, rfl, r1, hi, v1⟩ := h
  have hr := rung_neg a
  have hs : ((a ^^^ 2 ^ 63) / 9223372036854775808 % 2 == 1) = !(a / 9223372036854775808 % 2 == 1) := by
    have t1 : (a ^^^ 2 ^ 63).testBit 63 = !a.testBit 63 := by rw [Nat.testBit_xor, Nat.testBit_two_pow]; simp
    rw [Nat.testBit_eq_decide_div_mod_eq, Nat.testBit_eq_decide_div_mod_eq] at t1
    exact t1
  rw [show (2 : Nat) ^ 63 = 9223372036854775808 from rfl] at hr hs
  have rd : Ieee.double.read (a ^^^ 9223372036854775808) = (Ieee.double.read a).opposite := by
    rw [read_eq, read_eq, hr, hs]
    split
    · rfl
    · split
      · rfl
      · split <;> rfl
  refine ⟨a ^^^ 9223372036854775808, !s, m, i, rfl, by rw [rd, r1]; rfl, hi, ?_⟩
  rw [sg_not, v1, Int.neg_mul]
/-! ### Order, scale, quotients by 4096 -/
theorem fcmp_val {p : Nat} {x y : Fl} {k l : Int} (h1 : Val p x k) (h2 : Val p y l) : fcmp x y = some (compare k l) := by
  obtain ⟨a, s, m, i, rfl, r1, hi, v1⟩ := h1
  obtain ⟨b, t, n, j, rfl, r2, hj, v2⟩ := h2
  show (Ieee.double.read a).order (Ieee.double.read b) = _
  rw [r1, r2]
  unfold Ieee.Datum.order
  simp only [signed_eq]
  have hP := pow_pos_i (min i j + 1074).toNat
  have hQ := pow_pos_i (1074 - p)
  have e1 : sg s (m * 2 ^ (i - min i j).toNat) * ((2 ^ (min i j + 1074).toNat : Nat) : Int) = k * ((2 ^ (1074 - p) : Nat) : Int) := by
    rw [← sg_mul, Nat.mul_assoc, ← Nat.pow_add, show (i - min i j).toNat + (min i j + 1074).toNat = (i + 1074).toNat by omega, v1]
  have e2 : sg t (n * 2 ^ (j - min i j).toNat) * ((2 ^ (min i j + 1074).toNat : Nat) : Int) = l * ((2 ^ (1074 - p) : Nat) : Int) := by
    rw [← sg_mul, Nat.mul_assoc, ← Nat.pow_add, show (j - min i j).toNat + (min i j + 1074).toNat = (j + 1074).toNat by omega, v2]
  generalize sg s (m * 2 ^ (i - min i j).toNat) = A at *
  generalize sg t (n * 2 ^ (j - min i j).toNat) = B at *
  generalize ((2 ^ (min i j + 1074).toNat : Nat) : Int) = P at *
  generalize ((2 ^ (1074 - p) : Nat) : Int) = K at *
  congr 1
  have lt1 : A < B ↔ k < l := by
    rw [← Int.mul_lt_mul_right hP, e1, e2, Int.mul_lt_mul_right hQ]
  have eq1 : A = B ↔ k = l := by
    constructor
    · intro h
      subst h
      exact Int.eq_of_mul_eq_mul_right (by omega) (e1.symm.trans e2)
    · intro h
      subst h
      exact Int.eq_of_mul_eq_mul_right (by omega) (e1.trans e2.symm)
  show compareOfLessAndEq A B = compareOfLessAndEq k l
  unfold compareOfLessAndEq
  simp only [lt1, eq1]
theorem fgt_val {p : Nat} {x y : Fl} {k l : Int} (h1 : Val p x k) (h2 : Val p y l) : fgt x y = decide (l < k) := by
  unfold fgt
  rw [fcmp_val h1 h2]
  show (some (compareOfLessAndEq k l) == some Ordering.gt) = _
  unfold compareOfLessAndEq
  by_cases h : k < l
  · rw [if_pos h, decide_eq_false (by omega)]; rfl
  · rw [if_neg h]
    by_cases h' : k = l
    · rw [if_pos h', decide_eq_false (by omega)]; rfl
    · rw [if_neg h', decide_eq_true (by omega)]; rfl
theorem feq_ne {p : Nat} {x y : Fl} {k l : Int} (h1 : Val p x k) (h2 : Val p y l) (h : k ≠ l) : feq x y = false := by
  unfold feq
  rw [fcmp_val h1 h2]
  show (some (compareOfLessAndEq k l) == some Ordering.eq) = _
  unfold compareOfLessAndEq
  by_cases h' : k < l
  · rw [if_pos h']; rfl
  · rw [if_neg h', if_neg h]; rfl
theorem val_scale {p d : Nat} {x : Fl} {k : Int} (h : Val p x k) (hd : p + d ≤ 1074) : Val (p + d) x (k * ((2 ^ d : Nat) : Int)) := by
  obtain ⟨b, s, m, e, rfl, r, he, v⟩ := h
  refine ⟨b, s, m, e, rfl, r, he, v.trans ?_⟩
  rw [Int.mul_assoc, ← Int.natCast_mul, ← Nat.pow_add]
  congr 4
  omega
theorem read_lt {b : Nat} {s : Bool} {m : Nat} {e : Int} (h : Ieee.double.read b = .number s m e) : m < 9007199254740992 := by
  rw [read_eq] at h
  split at h
  · cases h; omega
  · split at h
    · cases h; omega
    · split at h <;> cases h
theorem fadd_s {p : Nat} {x y : Fl} {k l : Int} (h1 : Val p x k) (h2 : Val p y l) (hp : p ≤ 800) (hk : (k + l).natAbs < 9007199254740992) : ∃ r, farithS .add x y = some r ∧ Val p r (k + l) := by
  obtain ⟨a, s, m, i, rfl, r1, hi, v1⟩ := h1
  obtain ⟨b, t, n, j, rfl, r2, hj, v2⟩ := h2
  obtain ⟨d, e1, e2⟩ := sum_read (a := a) (b := b) hp hi hj v1 v2 hk
  refine ⟨_, ?_, e2⟩
  have : floatBits .add .f64 a b = some (Ieee.double.write d) := by
    show Ieee.double.add a b = _
    unfold Ieee.Format.add
    rw [r1, r2, e1]; rfl
  simp only [farithS, this]; rfl
theorem quo_s {x : Fl} {k : Int} (h : Val 0 x k) (hk : k.natAbs < 9007199254740992) : ∃ r, farithS .quo x (Fl.bits 4661225614328463360) = some r ∧ Val 12 r k := by
  obtain ⟨a, s, m, i, rfl, r1, hi, v1⟩ := h
  have hm := read_lt r1
  have r2 : Ieee.double.read 4661225614328463360 = .number false 4503599627370496 (-40) := by decide
  have hl : m.log2 ≤ 52 := by
    by_cases h0 : m = 0
    · subst h0; decide
    · have := (Nat.log2_lt h0 (k := 53)).2 (by simpa using hm); omega
  have l52 : (4503599627370496 : Nat).log2 = 52 := by decide
  generalize hmo : 106 - m.log2 = more
  have hq : (m <<< more) / 4503599627370496 = m * 2 ^ (more - 52) := by
    rw [Nat.shiftLeft_eq, show more = (more - 52) + 52 by omega, Nat.pow_add, ← Nat.mul_assoc, show (4503599627370496 : Nat) = 2 ^ 52 by decide, Nat.mul_div_cancel _ (by decide)]
    congr 1
  have hr : (m <<< more) % 4503599627370496 = 0 := by
    rw [Nat.shiftLeft_eq, show more = (more - 52) + 52 by omega, Nat.pow_add, ← Nat.mul_assoc, show (4503599627370496 : Nat) = 2 ^ 52 by decide, Nat.mul_mod_left]
  have hw : floatBits .quo .f64 a 4661225614328463360 = some (Ieee.double.nearest s (2 * (m * 2 ^ (more - 52))) (i + 40 - more - 1)) := by
    show Ieee.double.div a 4661225614328463360 = _
    unfold Ieee.Format.div
    rw [r1, r2]
    unfold Ieee.Datum.quotient
    simp only [l52]
    rw [if_neg (by decide)]
    have e54 : Ieee.double.fractionBits + 2 + 52 - m.log2 = more := by
      show 52 + 2 + 52 - m.log2 = more
      omega
    rw [e54, hq, hr]
    show some (Ieee.double.nearest (s ^^ false) (2 * (m * 2 ^ (more - 52)) + 0) (i - -40 - more - 1)) = _
    rw [Bool.xor_false, Nat.add_zero, Int.sub_neg]
  refine ⟨_, by simp only [farithS, hw]; rfl, ?_⟩
  have hab : (sg s (2 * (m * 2 ^ (more - 52)))).natAbs = 2 * (m * 2 ^ (more - 52)) := by unfold sg; split <;> omega
  rw [← hab]
  refine val_near (z := 1374) (p := 12) (k := k) (total := sg s (2 * (m * 2 ^ (more - 52)))) s (by decide) (by decide) (by omega) hk ?_ (fun h => ?_)
  · rw [← sg_mul]
    have e : 2 * (m * 2 ^ (more - 52)) * 2 ^ (i + 40 - more - 1 + ((1374 : Nat) : Int)).toNat = m * 2 ^ (i + 1074).toNat * 2 ^ (1374 - 12 - 1074) := by
      rw [show 2 * (m * 2 ^ (more - 52)) = m * 2 ^ (more - 51) by rw [show more - 51 = more - 52 + 1 by omega, Nat.pow_succ]; generalize 2 ^ (more - 52) = X; rw [Nat.mul_comm X 2, ← Nat.mul_assoc, ← Nat.mul_assoc, Nat.mul_comm 2 m]]
      rw [Nat.mul_assoc, ← Nat.pow_add, Nat.mul_assoc, ← Nat.pow_add]
      congr 2
      omega
    rw [e, sg_mul, v1, Int.mul_assoc, ← Int.natCast_mul, ← Nat.pow_add]
  · unfold sg at h ⊢
    cases s
    · simp only [Bool.false_eq_true, if_false] at h ⊢
      symm; rw [decide_eq_false_iff_not]; omega
    · simp only [if_true] at h ⊢
      symm; rw [decide_eq_true_eq]; omega
theorem farithS_val {op : BinOp} {x y : Fl} {p : Nat} {k : Int} (hx : ∃ a, x = .bits a) (hy : ∃ b, y = .bits b) (h : Val p (farith op x y) k) : farithS op x y = some (farith op x y) := by
  obtain ⟨a, rfl⟩ := hx
  obtain ⟨b, rfl⟩ := hy
  obtain ⟨c, _, _, _, hc, _⟩ := h
  simp only [farith, farithS] at hc ⊢
  cases hf : floatBits op .f64 a b with
  | none => rw [hf] at hc; cases hc
  | some r => rfl
theorem Val.bits {p : Nat} {x : Fl} {k : Int} (h : Val p x k) : ∃ a, x = .bits a := by
  obtain ⟨a, _, _, _, h, _⟩ := h
  exact ⟨a, h⟩
theorem sq_nn (x : Int) : 0 ≤ x * x := by
  by_cases h0 : 0 ≤ x
  · exact Int.mul_nonneg h0 h0
  · exact Int.mul_nonneg_of_nonpos_of_nonpos (by omega) (by omega)
theorem mul_bd2 {g o C D : Int} (hC : 0 ≤ C) (hD : 0 ≤ D) (h : -C ≤ g ∧ g ≤ C) (k : -D ≤ o ∧ o ≤ D) : g * o ≤ C * D ∧ -(C * D) ≤ g * o := by
  have a1 : 0 ≤ (C - g) * (D + o) := Int.mul_nonneg (by omega) (by omega)
  have a2 : 0 ≤ (C + g) * (D - o) := Int.mul_nonneg (by omega) (by omega)
  have a3 : 0 ≤ (C - g) * (D - o) := Int.mul_nonneg (by omega) (by omega)
  have a4 : 0 ≤ (C + g) * (D + o) := Int.mul_nonneg (by omega) (by omega)
  have e1 : (C - g) * (D + o) = C * D + C * o - g * D - g * o := by grind
  have e2 : (C + g) * (D - o) = C * D - C * o + g * D - g * o := by grind
  have e3 : (C - g) * (D - o) = C * D - C * o - g * D + g * o := by grind
  have e4 : (C + g) * (D + o) = C * D + C * o + g * D + g * o := by grind
  omega
/-! ### Whole numbers -/
theorem wf_u16' {x : Int} (h : (Lit.int .u16 x).wf = true) : 0 ≤ x ∧ x < 65536 := by
  simp [Lit.wf, IntKind.min, IntKind.max, IntKind.bits, IntKind.signed] at h
  omega
theorem c32768 : Val 0 (Fl.bits 4674736413210574848) 32768 := ⟨_, false, 4503599627370496, -37, rfl, by decide, by decide, by decide +kernel⟩
def wv (x : Int) : Fl := farith .sub (fofi x) (Fl.bits 4674736413210574848)
theorem wv_ok {x : Int} (h : 0 ≤ x ∧ x < 65536) : farithS .sub (fofi x) (Fl.bits 4674736413210574848) = some (wv x) ∧ Val 0 (wv x) (x - 32768) := by
  have h1 := fsub_val (fofi_val (k := x) (by omega)) c32768 (by decide) (by omega)
  exact ⟨farithS_val ⟨_, rfl⟩ ⟨_, rfl⟩ h1, h1⟩
abbrev I2 := Int × Int
def whl (l : List Int) (n : Nat) : List C := (List.range n).map fun (i : Nat) => (wv (gt l ((2 * i : Nat) : Int)), wv (gt l ((2 * i + 1 : Nat) : Int)))
theorem whl_len (l : List Int) (n : Nat) : (whl l n).length = n := by simp [whl]
def NZ (B : Int) (l : List C) (R : Nat → I2) : Prop := ∀ i : Nat, i < l.length → Val 0 (gt l (i : Int)).1 (R i).1 ∧ Val 0 (gt l (i : Int)).2 (R i).2 ∧ (-B ≤ (R i).1 ∧ (R i).1 ≤ B) ∧ (-B ≤ (R i).2 ∧ (R i).2 ≤ B)
def nu (l : List Int) (i : Nat) : I2 := (gt l ((2 * i : Nat) : Int) - 32768, gt l ((2 * i + 1 : Nat) : Int) - 32768)
theorem whole_ok {l : List Int} (hw : ∀ x ∈ l, (Lit.int .u16 x).wf = true) (hl : l.length ≤ 1048576) : f_foghornlaw08_whole l = some (whl l (l.length / 2)) ∧ NZ 32768 (whl l (l.length / 2)) (nu l) := by
  have hb : ∀ i : Nat, i < l.length → 0 ≤ gt l (i : Int) ∧ gt l (i : Int) < 65536 := fun i hi => by rw [gt_nat hi]; exact wf_u16' (hw _ (List.getElem_mem hi))
  constructor
  · unfold f_foghornlaw08_whole
    have := lst (f := f_foghornlaw08_whole.s1 l) (l.length / 2) (fun i => (whl l i, ((2 * i : Nat) : Int))) (whl l (l.length / 2)) (fun i hi => by
      simp only [f_foghornlaw08_whole.s1, f_foghornlaw08_whole.s1c]
      have e1 : IntKind.i64.wrap (((2 * i : Nat) : Int) + 1) = ((2 * i + 1 : Nat) : Int) := by rw [w64 (by omega) (by omega)]; omega
      have e2 : IntKind.i64.wrap (((2 * i : Nat) : Int) + 2) = ((2 * (i + 1) : Nat) : Int) := by rw [w64 (by omega) (by omega)]; omega
      rw [e1, e2, if_pos (by rw [decide_eq_true_eq]; omega), if_pos (by omega), (wv_ok (hb (2 * i) (by omega))).1]
      simp only [Option.bind_some]
      rw [if_pos (by omega), (wv_ok (hb (2 * i + 1) (by omega))).1]
      simp only [Option.bind_some]
      rw [if_pos (by rw [whl_len]; simp only [List.length_cons, List.length_nil]; omega)]
      simp [whl, List.range_succ]) (by
      simp only [f_foghornlaw08_whole.s1, f_foghornlaw08_whole.s1c]
      have e1 : IntKind.i64.wrap (((2 * (l.length / 2) : Nat) : Int) + 1) = ((2 * (l.length / 2) + 1 : Nat) : Int) := by rw [w64 (by omega) (by omega)]; omega
      rw [e1, if_neg (by rw [decide_eq_true_eq]; omega)])
    have this2 : loop (f_foghornlaw08_whole.s1 l) ([], 0) = some (whl l (l.length / 2)) := this
    rw [this2]; rfl
  · intro i hi
    rw [whl_len] at hi
    have hg : gt (whl l (l.length / 2)) (i : Int) = (wv (gt l ((2 * i : Nat) : Int)), wv (gt l ((2 * i + 1 : Nat) : Int))) := by
      rw [gt_nat (by rw [whl_len]; exact hi)]; simp [whl]
    have b0 := hb (2 * i) (by omega)
    have b1 := hb (2 * i + 1) (by omega)
    rw [hg]
    unfold nu
    exact ⟨(wv_ok b0).2, (wv_ok b1).2, by simp only; omega, by simp only; omega⟩
/-! ### Turned values -/
def TI : Nat → I2 → I2
  | 0, r => r
  | k + 1, r => TI k (-r.2, r.1)
theorem T_val : ∀ (k : Nat) {z : C} {r : I2}, Val 0 z.1 r.1 → Val 0 z.2 r.2 → Val 0 (T k z).1 (TI k r).1 ∧ Val 0 (T k z).2 (TI k r).2
  | 0, _, _, h1, h2 => ⟨h1, h2⟩
  | k + 1, z, r, h1, h2 => T_val k (z := (fneg z.2, z.1)) (r := (-r.2, r.1)) (fneg_val h2) h1
theorem four {k : Nat} (hk : k < 4) : k = 0 ∨ k = 1 ∨ k = 2 ∨ k = 3 := by omega
theorem TI_mul {k : Nat} (hk : k < 4) (r : I2) : r.1 * (TI k (1, 0)).1 - r.2 * (TI k (1, 0)).2 = (TI k r).1 ∧ r.1 * (TI k (1, 0)).2 + r.2 * (TI k (1, 0)).1 = (TI k r).2 := by
  rcases four hk with rfl | rfl | rfl | rfl <;> simp [TI]
theorem TI_one {k : Nat} (hk : k < 4) : ((TI k (1, 0)).1 = 0 ∨ (TI k (1, 0)).1 = 1 ∨ (TI k (1, 0)).1 = -1) ∧ ((TI k (1, 0)).2 = 0 ∨ (TI k (1, 0)).2 = 1 ∨ (TI k (1, 0)).2 = -1) := by
  rcases four hk with rfl | rfl | rfl | rfl <;> decide
theorem TI_norm {k : Nat} (hk : k < 4) (r : I2) : (TI k r).1 * (TI k r).1 + (TI k r).2 * (TI k r).2 = r.1 * r.1 + r.2 * r.2 := by
  rcases four hk with rfl | rfl | rfl | rfl <;> simp only [TI, Int.neg_mul_neg] <;> omega
theorem TI_bd {k : Nat} (hk : k < 4) {B : Int} {r : I2} (h1 : -B ≤ r.1 ∧ r.1 ≤ B) (h2 : -B ≤ r.2 ∧ r.2 ≤ B) : (-B ≤ (TI k r).1 ∧ (TI k r).1 ≤ B) ∧ (-B ≤ (TI k r).2 ∧ (TI k r).2 ≤ B) := by
  rcases four hk with rfl | rfl | rfl | rfl <;> simp only [TI] <;> omega
theorem TI_add {k : Nat} (hk : k < 4) (r s : I2) : TI k (r.1 + s.1, r.2 + s.2) = ((TI k r).1 + (TI k s).1, (TI k r).2 + (TI k s).2) := by
  rcases four hk with rfl | rfl | rfl | rfl <;> simp only [TI] <;> apply Prod.ext <;> simp only <;> omega
theorem sq_bd {x B : Int} (hB : 0 ≤ B) (h : -B ≤ x ∧ x ≤ B) : 0 ≤ x * x ∧ x * x ≤ B * B := by
  have a := mul_bd2 hB hB h h
  have b := sq_nn x
  omega
theorem ceq_val {x y : C} {r : I2} (h1 : Val 0 x.1 r.1) (h2 : Val 0 x.2 r.2) (h3 : Val 0 y.1 r.1) (h4 : Val 0 y.2 r.2) : ceq x y = true := by
  unfold ceq
  rw [feq_val h1 h3, feq_val h2 h4]; rfl
theorem ups_gt (l : List C) (q : Int) {i : Nat} (hi : i < l.length) : gt (ups l q) (i : Int) = T (((i : Int) * q) % 4).toNat (gt l (i : Int)) := by
  rw [gt_nat (by rw [ups_len]; exact hi), ups_get l q i hi]
theorem k4 (i : Nat) (q : Int) : (((i : Int) * q) % 4).toNat < 4 := by omega
/-- the rows added -/
def sm (z w : List C) (i : Nat) : C := if i < w.length then cadd (gt z (i : Int)) (gt w (i : Int)) else gt z (i : Int)
def smL (z w : List C) (n : Nat) : List C := (List.range n).map (sm z w)
theorem smL_len (z w : List C) (n : Nat) : (smL z w n).length = n := by simp [smL]
def SI (w : List C) (S : Nat → I2) (i : Nat) : I2 := if i < w.length then S i else (0, 0)
theorem adds_s1 {z w : List C} {R S : Nat → I2} (hz : NZ 32768 z R) (hw : NZ 32768 w S) (hl : z.length ≤ 3000) (j : Int) :
    loop (f_foghornlaw08_MixAdds.s1 w z (ups z j, 0) (ups (List.replicate z.length one) j, 0)) ([], 0) = some (.inl (smL z w z.length)) := by
  have one1 : Val 0 one.1 1 := ⟨_, false, 4503599627370496, -52, rfl, by decide, by decide, by decide +kernel⟩
  have one2 : Val 0 one.2 0 := zero_val 0
  have := lst (f := f_foghornlaw08_MixAdds.s1 w z (ups z j, 0) (ups (List.replicate z.length one) j, 0)) z.length (fun i => (smL z w i, (i : Int))) (.inl (smL z w z.length)) (fun i hi => by
    simp only [f_foghornlaw08_MixAdds.s1, f_foghornlaw08_MixAdds.s1c]
    have hA := ups_len z j
    have hR := ups_len (List.replicate z.length one) j
    rw [List.length_replicate] at hR
    obtain ⟨z1, z2, b1, b2⟩ := hz i hi
    have hk := k4 i j
    have ga := ups_gt z j hi
    have gr := ups_gt (List.replicate z.length one) j (i := i) (by rw [List.length_replicate]; exact hi)
    rw [show gt (List.replicate z.length one) (i : Int) = one by rw [gt_nat (by rw [List.length_replicate]; exact hi), List.getElem_replicate]] at gr
    obtain ⟨a1, a2⟩ := T_val (((i : Int) * j) % 4).toNat z1 z2
    obtain ⟨r1, r2⟩ := T_val (((i : Int) * j) % 4).toNat (z := one) (r := (1, 0)) one1 one2
    rw [← ga] at a1 a2
    rw [← gr] at r1 r2
    have tb := TI_bd hk b1 b2
    obtain ⟨o1, o2⟩ := TI_one hk
    obtain ⟨p1, p2⟩ := TI_mul hk (R i)
    have tn := TI_norm hk (R i)
    have q1 := sq_bd (by decide) b1
    have q2 := sq_bd (by decide) b2
    have q3 := sq_bd (by decide) tb.1
    have q4 := sq_bd (by decide) tb.2
    generalize TI (((i : Int) * j) % 4).toNat (1, 0) = c at *
    generalize TI (((i : Int) * j) % 4).toNat (R i) = t at *
    generalize gt (ups z j) (i : Int) = A at *
    generalize gt (ups (List.replicate z.length one) j) (i : Int) = Q at *
    have mb : ∀ x y : Int, (-32768 ≤ x ∧ x ≤ 32768) → (y = 0 ∨ y = 1 ∨ y = -1) → (x * y).natAbs ≤ 32768 := by
      intro x y hx hy
      rcases hy with rfl | rfl | rfl
      · simp
      · rw [Int.mul_one]; omega
      · rw [Int.mul_neg_one]; omega
    have m1 := mb _ _ b1 o1
    have m2 := mb _ _ b2 o2
    have m3 := mb _ _ b1 o2
    have m4 := mb _ _ b2 o1
    have v1 := fmul_val z1 r1 (by decide) (by omega)
    have v2 := fmul_val z2 r2 (by decide) (by omega)
    have v3 := fsub_val v1 v2 (by decide) (by omega)
    have v4 := fmul_val z1 r2 (by decide) (by omega)
    have v5 := fmul_val z2 r1 (by decide) (by omega)
    have v6 := fadd_val v4 v5 (by decide) (by omega)
    have n1 := fmul_val a1 a1 (by decide) (by omega)
    have n2 := fmul_val a2 a2 (by decide) (by omega)
    have n3 := fadd_val n1 n2 (by decide) (by omega)
    have n4 := fmul_val z1 z1 (by decide) (by omega)
    have n5 := fmul_val z2 z2 (by decide) (by omega)
    have n6 := fadd_val n4 n5 (by decide) (by omega)
    rw [if_pos (by rw [decide_eq_true_eq]; omega), if_pos (by omega), if_pos (by omega), farithS_val z1.bits r1.bits v1]
    simp only [Option.bind_some]
    rw [if_pos (by omega), if_pos (by omega), farithS_val z2.bits r2.bits v2]
    simp only [Option.bind_some]
    rw [farithS_val v1.bits v2.bits v3]
    simp only [Option.bind_some]
    rw [if_pos (by omega), if_pos (by omega), farithS_val z1.bits r2.bits v4]
    simp only [Option.bind_some]
    rw [if_pos (by omega), if_pos (by omega), farithS_val z2.bits r1.bits v5]
    simp only [Option.bind_some]
    rw [farithS_val v4.bits v5.bits v6]
    simp only [Option.bind_some]
    have hp : ceq (farith .sub (farith .mul (gt z (i : Int)).1 Q.1) (farith .mul (gt z (i : Int)).2 Q.2), farith .add (farith .mul (gt z (i : Int)).1 Q.2) (farith .mul (gt z (i : Int)).2 Q.1)) A = true := by
      rw [p1] at v3
      rw [p2] at v6
      exact ceq_val (r := t) v3 v6 a1 a2
    rw [if_pos (by omega), hp, if_neg (by decide), if_pos (by omega), if_pos (by omega), farithS_val a1.bits a1.bits n1]
    simp only [Option.bind_some]
    rw [if_pos (by omega), if_pos (by omega), farithS_val a2.bits a2.bits n2]
    simp only [Option.bind_some]
    rw [farithS_val n1.bits n2.bits n3]
    simp only [Option.bind_some]
    rw [if_pos (by omega), if_pos (by omega), farithS_val z1.bits z1.bits n4]
    simp only [Option.bind_some]
    rw [if_pos (by omega), if_pos (by omega), farithS_val z2.bits z2.bits n5]
    simp only [Option.bind_some]
    rw [farithS_val n4.bits n5.bits n6]
    simp only [Option.bind_some]
    have hn : fne (farith .add (farith .mul A.1 A.1) (farith .mul A.2 A.2)) (farith .add (farith .mul (gt z (i : Int)).1 (gt z (i : Int)).1) (farith .mul (gt z (i : Int)).2 (gt z (i : Int)).2)) = false := by
      have e : ∀ x y : Fl, fne x y = !feq x y := fun _ _ => rfl
      rw [tn] at n3
      rw [e, feq_val n3 n6]; rfl
    rw [hn, if_neg (by decide), if_pos (by omega)]
    have hs : smL z w (i + 1) = smL z w i ++ [sm z w i] := by simp [smL, List.range_succ]
    have ew : IntKind.i64.wrap ((i : Int) + 1) = ((i + 1 : Nat) : Int) := by rw [w64 (by omega) (by omega)]; rfl
    rw [hs, ew]
    by_cases hi2 : i < w.length
    · rw [if_pos (by rw [decide_eq_true_eq]; omega), if_pos (by omega), if_pos (by rw [smL_len]; simp only [List.length_cons, List.length_nil]; omega)]
      unfold sm
      rw [if_pos hi2]
    · rw [if_neg (by rw [decide_eq_true_eq]; omega), if_pos (by rw [smL_len]; simp only [List.length_cons, List.length_nil]; omega)]
      unfold sm
      rw [if_neg hi2]) (by
    simp only [f_foghornlaw08_MixAdds.s1, f_foghornlaw08_MixAdds.s1c]
    rw [if_neg (by simp)])
  exact this
theorem smL_nz {z w : List C} {R S : Nat → I2} (hz : NZ 32768 z R) (hw : NZ 32768 w S) : NZ 65536 (smL z w z.length) (fun i => ((R i).1 + (SI w S i).1, (R i).2 + (SI w S i).2)) := by
  intro i hi
  rw [smL_len] at hi
  have hg : gt (smL z w z.length) (i : Int) = sm z w i := by rw [gt_nat (by rw [smL_len]; exact hi)]; simp [smL]
  obtain ⟨z1, z2, b1, b2⟩ := hz i hi
  rw [hg]
  show Val 0 (sm z w i).1 ((R i).1 + (SI w S i).1) ∧ Val 0 (sm z w i).2 ((R i).2 + (SI w S i).2) ∧ (-65536 ≤ (R i).1 + (SI w S i).1 ∧ (R i).1 + (SI w S i).1 ≤ 65536) ∧ (-65536 ≤ (R i).2 + (SI w S i).2 ∧ (R i).2 + (SI w S i).2 ≤ 65536)
  by_cases hi2 : i < w.length
  · obtain ⟨w1, w2, c1, c2⟩ := hw i hi2
    have e1 : sm z w i = cadd (gt z (i : Int)) (gt w (i : Int)) := by unfold sm; rw [if_pos hi2]
    have e2 : SI w S i = S i := by unfold SI; rw [if_pos hi2]
    rw [e1, e2]
    exact ⟨fadd_val z1 w1 (by decide) (by omega), fadd_val z2 w2 (by decide) (by omega), by omega, by omega⟩
  · have e1 : sm z w i = gt z (i : Int) := by unfold sm; rw [if_neg hi2]
    have e2 : SI w S i = (0, 0) := by unfold SI; rw [if_neg hi2]
    rw [e1, e2]
    simp only [Int.add_zero]
    exact ⟨z1, z2, by omega, by omega⟩
theorem mir_ups (z : List C) (j : Int) : mir (ups z j) = ups (mir z) (-j) := by
  apply List.ext_getElem
  · simp [mir, ups]
  · intro i h1 h2
    have hi : i < z.length := by simpa [mir, ups] using h1
    have e1 : (mir (ups z j))[i] = ((T (((i : Int) * j) % 4).toNat z[i]).1, fneg (T (((i : Int) * j) % 4).toNat z[i]).2) := by
      simp only [mir, List.getElem_map]
      rw [ups_get z j i hi, gt_nat hi]
    have e2 : (ups (mir z) (-j))[i] = T (((i : Int) * -j) % 4).toNat (z[i].1, fneg z[i].2) := by
      have hm : i < (mir z).length := by simpa [mir] using hi
      rw [ups_get (mir z) (-j) i hm, gt_nat hm]
      simp [mir]
    rw [e1, e2]
    have hk := k4 i j
    have hm : (((i : Int) * -j) % 4).toNat = (4 - (((i : Int) * j) % 4).toNat) % 4 := by
      rw [Int.mul_neg]
      generalize (i : Int) * j = x
      omega
    rw [hm]
    generalize (((i : Int) * j) % 4).toNat = k at *
    generalize z[i] = c
    rcases four hk with rfl | rfl | rfl | rfl <;> simp [T, fneg_fneg]
theorem adds_j2 {z w w' : List C} {R S : Nat → I2} (hz : NZ 32768 z R) (hw : NZ 32768 w S) (hl : z.length ≤ 3000) (hw' : w' = w.take z.length) (j : Int) (h0 : -9223372036854775808 ≤ j) (h1 : j < 9223372036854775808) :
    f_foghornlaw08_MixAdds.j2 j z (ups z j, 0) (smL z w z.length) w' = some true := by
  have lw : w'.length = min z.length w.length := by rw [hw', List.length_take]
  have gw : ∀ i : Nat, i < w'.length → gt w' (i : Int) = gt w (i : Int) := by
    intro i hi
    rw [gt_nat hi, gt_nat (by omega)]
    subst hw'
    simp
  unfold f_foghornlaw08_MixAdds.j2
  have ls := smL_len z w z.length
  have lu := ups_len (smL z w z.length) j
  have lv := ups_len w' j
  have la := ups_len z j
  rw [own_up _ j h0 h1, own_up _ j h0 h1, cutl_of _ _ (by omega), cutl_of _ _ (by omega), er_of _ (by omega), er_of _ (by omega)]
  simp only [Option.bind_some]
  rw [if_neg (by rw [lu, lv, la, ls]; simp)]
  have e : loop (f_foghornlaw08_MixAdds.s2 (ups z j, 0) (ups (smL z w z.length) j, 0) (ups w' j, 0)) 0 = some (.inl ()) := by
    refine loop_for1 z.length (Sum.inl ()) (fun i hi => ?_) ?_
    · simp only [f_foghornlaw08_MixAdds.s2, f_foghornlaw08_MixAdds.s2c]
      obtain ⟨z1, z2, b1, b2⟩ := hz i hi
      obtain ⟨s1, s2, c1, c2⟩ := smL_nz hz hw i (by omega)
      have hk := k4 i j
      obtain ⟨a1, a2⟩ := T_val (((i : Int) * j) % 4).toNat z1 z2
      obtain ⟨t1, t2⟩ := T_val (((i : Int) * j) % 4).toNat s1 s2
      rw [TI_add hk] at t1 t2
      have ga := ups_gt z j hi
      have gu := ups_gt (smL z w z.length) j (i := i) (by omega)
      rw [← ga] at a1 a2
      rw [← gu] at t1 t2
      have tb := TI_bd hk b1 b2
      have ew : IntKind.i64.wrap ((i : Int) + 1) = ((i + 1 : Nat) : Int) := by rw [w64 (by omega) (by omega)]; rfl
      rw [if_pos (by rw [decide_eq_true_eq]; omega), if_pos (by omega)]
      by_cases hi2 : i < w'.length
      · have hi3 : i < w.length := by omega
        obtain ⟨w1, w2, d1, d2⟩ := hw i hi3
        obtain ⟨x1, x2⟩ := T_val (((i : Int) * j) % 4).toNat w1 w2
        have gv := ups_gt w' j hi2
        rw [gw i hi2] at gv
        rw [← gv] at x1 x2
        have wb := TI_bd hk d1 d2
        rw [if_pos (by rw [decide_eq_true_eq]; omega), if_pos (by omega)]
        unfold f_foghornlaw08_MixAdds.j3
        have hSI : SI w S i = S i := by unfold SI; rw [if_pos hi3]
        rw [hSI] at t1 t2
        have hc : ceq (gt (ups (smL z w z.length) j) (i : Int)) (cadd (gt (ups z j) (i : Int)) (gt (ups w' j) (i : Int))) = true :=
          ceq_val (r := ((TI (((i : Int) * j) % 4).toNat (R i)).1 + (TI (((i : Int) * j) % 4).toNat (S i)).1, (TI (((i : Int) * j) % 4).toNat (R i)).2 + (TI (((i : Int) * j) % 4).toNat (S i)).2)) t1 t2 (fadd_val a1 x1 (by decide) (by omega)) (fadd_val a2 x2 (by decide) (by omega))
        rw [if_pos (show 0 ≤ (i : Int) ∧ (i : Int) < ((ups (smL z w z.length) j).length : Int) by omega), hc, if_neg (by decide), ew]
      · have hi3 : ¬ i < w.length := by omega
        rw [if_neg (by rw [decide_eq_true_eq]; omega)]
        unfold f_foghornlaw08_MixAdds.j3
        have hz0 : TI (((i : Int) * j) % 4).toNat (0, 0) = (0, 0) := by
          rcases four hk with h | h | h | h <;> rw [h] <;> rfl
        have hSI : SI w S i = (0, 0) := by unfold SI; rw [if_neg hi3]
        rw [hSI, hz0] at t1 t2
        simp only [Int.add_zero] at t1 t2
        rw [if_pos (show 0 ≤ (i : Int) ∧ (i : Int) < ((ups (smL z w z.length) j).length : Int) by omega), ceq_val (r := TI (((i : Int) * j) % 4).toNat (R i)) t1 t2 a1 a2, if_neg (by decide), ew]
    · simp only [f_foghornlaw08_MixAdds.s2, f_foghornlaw08_MixAdds.s2c]
      rw [if_neg (by rw [lu, ls]; simp)]
  rw [e]
  simp only [Option.bind_some, GL.sm]
  have lm : (mir z).length = z.length := by simp [mir]
  have lm2 : (mir (ups z j)).length = z.length := by simp [mir, ups]
  rw [own_mirror, own_mirror, cutl_of _ _ (by omega), cutl_of _ _ (by omega), er_of _ (by omega), er_of _ (by omega)]
  simp only [Option.bind_some]
  rw [own_down _ j h0 h1, cutl_of _ _ (by omega), ← mir_ups]
  simp only [Option.bind_some]
  rw [same_self _ (by omega)]; rfl
theorem adds_j1 {z w : List C} {R S : Nat → I2} (hz : NZ 32768 z R) (hw : NZ 32768 w S) (hl : z.length ≤ 3000) (hlw : w.length ≤ 1048576) (j k : Int) (h0 : -9223372036854775808 ≤ j) (h1 : j < 9223372036854775808) (g0 : -9223372036854775808 ≤ k) (g1 : k < 9223372036854775808) :
    f_foghornlaw08_MixAdds.j1 j k w z = some true := by
  unfold f_foghornlaw08_MixAdds.j1
  have la := ups_len z j
  have t4 : ∀ x : Int, -4 < x.tmod 4 ∧ x.tmod 4 < 4 ∧ (x.tmod 4) % 4 = x % 4 := by
    intro x
    by_cases hx : 0 ≤ x
    · rw [Int.tmod_eq_emod_of_nonneg hx]; omega
    · have h3 := Int.neg_tmod (a := -x) (b := 4)
      rw [Int.neg_neg, Int.tmod_eq_emod_of_nonneg (a := -x) (by omega)] at h3
      omega
  have tj := t4 j
  have tk := t4 k
  have t1000 : -1000 < j.tmod 1000 ∧ j.tmod 1000 < 1000 := by
    have m1 : j.tmod 1000 < 1000 := Int.tmod_lt_of_pos j (by decide)
    by_cases hx : 0 ≤ j
    · have := Int.tmod_nonneg 1000 hx; omega
    · have h3 := Int.neg_tmod (a := -j) (b := 1000)
      have h4 := Int.tmod_lt_of_pos (-j) (show (0 : Int) < 1000 by decide)
      rw [Int.neg_neg] at h3
      omega
  rw [own_up z j h0 h1, cutl_of _ _ (by omega), er_of _ (by omega)]
  simp only [Option.bind_some]
  rw [own_up _ k g0 g1, cutl_of _ _ (by omega), er_of _ (by omega)]
  simp only [Option.bind_some]
  rw [w64 (x := j.tmod 4 + k.tmod 4) (by omega) (by omega), w64 (x := 4 * j.tmod 1000) (by omega) (by omega), own_up z _ (by omega) (by omega), own_up z _ (by omega) (by omega), cutl_of _ _ (by omega), cutl_of _ _ (by omega), er_of _ (by omega), own_carrier (by omega) h0 h1]
  simp only [Option.bind_some]
  have ejk : ups (ups z j) k = ups z (j.tmod 4 + k.tmod 4) := by
    apply List.ext_getElem
    · simp [ups]
    · intro i i1 i2
      have hi : i < z.length := by simpa [ups] using i2
      rw [ups_get _ _ i (by rw [ups_len]; exact hi), gt_nat (by rw [ups_len]; exact hi), ups_get _ _ i hi, T_add, ups_get _ _ i hi]
      have hm : ((i : Int) * (j.tmod 4 + k.tmod 4)) % 4 = ((i : Int) * j + (i : Int) * k) % 4 := by
        rw [Int.mul_add, Int.add_emod, Int.mul_emod, tj.2.2, ← Int.mul_emod, Int.mul_emod (i : Int) (k.tmod 4), tk.2.2, ← Int.mul_emod, ← Int.add_emod]
      rw [hm]
      generalize (i : Int) * j = a
      generalize (i : Int) * k = b
      have : (a % 4).toNat + (b % 4).toNat = ((a + b) % 4).toNat ∨ (a % 4).toNat + (b % 4).toNat = 4 + ((a + b) % 4).toNat := by omega
      rcases this with h | h
      · rw [h]
      · rw [h, ← T_add, T_four]
  have e4 : ups z (4 * j.tmod 1000) = z := by
    apply List.ext_getElem
    · simp [ups]
    · intro i i1 i2
      rw [ups_get _ _ i i2, gt_nat i2]
      have hm : ((i : Int) * (4 * j.tmod 1000)) % 4 = 0 := by
        rw [show (i : Int) * (4 * j.tmod 1000) = 4 * ((i : Int) * j.tmod 1000) by rw [← Int.mul_assoc, Int.mul_comm (i : Int) 4, Int.mul_assoc]]
        generalize (i : Int) * j.tmod 1000 = a
        omega
      rw [hm]; rfl
  have lr := ups_len (List.replicate z.length one) j
  rw [List.length_replicate] at lr
  rw [if_neg (by simp), ejk, same_self _ (by rw [ups_len]; omega)]
  simp only [Option.bind_some, Bool.not_true, Bool.false_eq_true, if_false]
  rw [e4, same_self z (by omega)]
  simp only [Option.bind_some, Bool.not_true, Bool.false_or]
  rw [if_neg (by rw [lr, la]; simp), adds_s1 hz hw hl j]
  simp only [Option.bind_some, GL.sm]
  by_cases hc : (z.length : Int) < (w.length : Int)
  · rw [if_pos (by rw [decide_eq_true_eq]; exact hc), if_pos (by simp; omega), List.append_nil, Int.toNat_natCast]
    exact adds_j2 hz hw hl rfl j h0 h1
  · rw [if_neg (by rw [decide_eq_true_eq]; exact hc)]
    exact adds_j2 hz hw hl (List.take_of_length_le (by omega)).symm j h0 h1
theorem wf_i64' {x : Int} (h : (Lit.int .i64 x).wf = true) : -9223372036854775808 ≤ x ∧ x < 9223372036854775808 := by
  simp [Lit.wf, IntKind.min, IntKind.max, IntKind.bits, IntKind.signed] at h
  omega
theorem adds_true (l : List Int) (w0 : ∀ x ∈ l, (Lit.int .u16 x).wf = true) (r0 : l.length ≤ 1048576) (m : List Int) (w1 : ∀ x ∈ m, (Lit.int .u16 x).wf = true) (r1 : m.length ≤ 1048576)
    (j : Int) (w2 : (Lit.int .i64 j).wf = true) (k : Int) (w3 : (Lit.int .i64 k).wf = true) : f_foghornlaw08_MixAdds l m j k = some true := by
  obtain ⟨a1, a2⟩ := whole_ok w0 r0
  obtain ⟨b1, b2⟩ := whole_ok w1 r1
  have ll := whl_len l (l.length / 2)
  have lm := whl_len m (m.length / 2)
  have hj := wf_i64' w2
  have hk := wf_i64' w3
  unfold f_foghornlaw08_MixAdds
  rw [awake_true]
  simp only [Option.bind_some, Bool.not_true, Bool.false_eq_true, if_false]
  rw [a1, b1]
  simp only [Option.bind_some]
  generalize whl l (l.length / 2) = z at *
  generalize whl m (m.length / 2) = w at *
  by_cases hc : (3000 : Int) < (z.length : Int)
  · rw [if_pos (by rw [decide_eq_true_eq]; exact hc), if_pos (by simp; omega), List.append_nil]
    have hz' : NZ 32768 (z.take ((3000 : Int)).toNat) (nu l) := by
      intro i hi
      rw [List.length_take] at hi
      have hg : gt (z.take ((3000 : Int)).toNat) (i : Int) = gt z (i : Int) := by
        rw [gt_nat (by rw [List.length_take]; exact hi), gt_nat (by omega)]; simp
      rw [hg]; exact a2 i (by omega)
    exact adds_j1 hz' b2 (by rw [List.length_take]; omega) (by omega) j k hj.1 hj.2 hk.1 hk.2
  · rw [if_neg (by rw [decide_eq_true_eq]; exact hc)]
    exact adds_j1 a2 b2 (by omega) (by omega) j k hj.1 hj.2 hk.1 hk.2

end Go.Proofs.Ytfppofbdmhihpaa
