/- The plain law of PlaneNone. -/
import Derived.Test.YteifkccomfdciaaG7
import Derived.Test.YteifkccomfdciaaGlW
set_option linter.unusedVariables false
set_option linter.unusedSimpArgs false
set_option maxRecDepth 8000
namespace Go.Proofs.Yteifkccomfdciaa
open GL Go

theorem awake_true : f_foghornlaw03_awake = some true := by
  have h1 : loop (f_plane_Gauss_Class.s1 3) (3, 2, 0, 0) = some 1 := loop_iff.2 ⟨4, by decide +kernel⟩
  have h2 : f_plane_Gauss_Class 3 2 3 = some (1, 0) := by
    unfold f_plane_Gauss_Class
    rw [h1]; rfl
  have h3 : f_plane_Mul (Fl.bits 4607182418800017408, Fl.bits 4611686018427387904) (Fl.bits 4613937818241073152, Fl.bits 13830554455654793216) = some (Fl.bits 4617315517961601024, Fl.bits 4617315517961601024) := by decide +kernel
  have h4 : f_plane_Turn (Fl.bits 4607182418800017408, Fl.bits 4611686018427387904) 1 = some (Fl.bits 13835058055282163712, Fl.bits 4607182418800017408) := by decide +kernel
  unfold f_foghornlaw03_awake
  rw [h2, h3, h4]
  decide +kernel
abbrev zc : Fl × Fl := (Fl.bits 0, Fl.bits 0)
def cmul (a b : Fl × Fl) : Fl × Fl := (fsub (fmul a.1 b.1) (fmul a.2 b.2), fadd (fmul a.1 b.2) (fmul a.2 b.1))
def acc (h row : List (Fl × Fl)) (n : Nat) : Nat → Fl × Fl
  | 0 => zc
  | k + 1 => cadd (acc h row n k) (cmul (gt h (k : Int)) (gt row ((n - k : Nat) : Int)))
def flt (h row : List (Fl × Fl)) : List (Fl × Fl) := (List.range row.length).map fun n => acc h row n (min h.length (n + 1))
theorem flt_len (h row : List (Fl × Fl)) : (flt h row).length = row.length := by simp [flt]
theorem mid_set {α : Type} {A B : List α} (v x : α) {n : Nat} (h : A.length = n) : (A ++ v :: B).set n x = A ++ x :: B := by
  rw [List.set_append_right _ _ (by omega), h, Nat.sub_self, List.set_cons_zero]
theorem mid_gt {α : Type} [Inhabited α] {A B : List α} (v : α) {n : Nat} (h : A.length = n) : gt (A ++ v :: B) (n : Int) = v := by
  rw [gt_nat (by simp; omega), List.getElem_append_right (by omega)]; simp [h]
theorem flt_take (h row : List (Fl × Fl)) {n : Nat} (hn : n < row.length) : (flt h row).take (n + 1) = (flt h row).take n ++ [acc h row n (min h.length (n + 1))] := by
  rw [List.take_succ_eq_append_getElem (by rw [flt_len]; exact hn)]; simp [flt]
theorem filt_ok (h row : List (Fl × Fl)) (hh : 1 ≤ h.length ∧ h.length ≤ 64) (hr : row.length ≤ 65536) : f_plane_Filter h row = some (flt h row, 0) := by
  have inner : ∀ n, n < row.length → ∀ A B : List (Fl × Fl), A.length = n → loop (f_plane_Filter.s2 h row (n : Int)) (A ++ zc :: B, 0) = some (A ++ acc h row n (min h.length (n + 1)) :: B) := by
    intro n hn A B hA
    refine loop_for (f := f_plane_Filter.s2 h row (n : Int)) (min h.length (n + 1)) (fun k => A ++ acc h row n k :: B) (A ++ acc h row n (min h.length (n + 1)) :: B) (fun k hk => ?_) ?_
    · simp only [f_plane_Filter.s2, f_plane_Filter.s2c]
      have hL : ∀ v : Fl × Fl, (A ++ v :: B).length = n + 1 + B.length := fun v => by simp; omega
      have e1 : IntKind.i64.wrap ((n : Int) - (k : Int)) = ((n - k : Nat) : Int) := by rw [w64 (by omega) (by omega)]; omega
      have e2 : imin (h.length : Int) (IntKind.i64.wrap ((n : Int) + 1)) = ((min h.length (n + 1) : Nat) : Int) := by
        rw [w64 (by omega) (by omega), show (n : Int) + 1 = ((n + 1 : Nat) : Int) from rfl, imin_nat]
      rw [e2, if_pos (by rw [decide_eq_true_eq]; omega), hL, if_pos (by omega), if_pos (by omega), e1, if_pos (by omega)]
      rw [show f_plane_Mul (gt h (k : Int)) (gt row ((n - k : Nat) : Int)) = some (cmul (gt h (k : Int)) (gt row ((n - k : Nat) : Int))) from rfl]
      simp only [Option.bind_some]
      rw [if_pos (by omega), Int.toNat_natCast, mid_gt _ hA, mid_set _ _ hA, w64 (by omega) (by omega)]
      rfl
    · simp only [f_plane_Filter.s2, f_plane_Filter.s2c]
      have e2 : imin (h.length : Int) (IntKind.i64.wrap ((n : Int) + 1)) = ((min h.length (n + 1) : Nat) : Int) := by
        rw [w64 (by omega) (by omega), show (n : Int) + 1 = ((n + 1 : Nat) : Int) from rfl, imin_nat]
      rw [e2, if_neg (by simp)]
  unfold f_plane_Filter
  rw [if_neg (by simp only [Bool.or_eq_true, decide_eq_true_eq, beq_iff_eq]; omega), if_pos (by omega), Int.toNat_natCast]
  have := loop_for (f := f_plane_Filter.s1 h row) row.length (fun n => (flt h row).take n ++ List.replicate (row.length - n) zc) (flt h row) (fun n hn => by
    simp only [f_plane_Filter.s1, f_plane_Filter.s1c]
    have hA : ((flt h row).take n).length = n := by rw [List.length_take, flt_len]; omega
    have e : List.replicate (row.length - n) zc = zc :: List.replicate (row.length - (n + 1)) zc := by rw [← List.replicate_succ]; congr 1; omega
    rw [if_pos (by rw [decide_eq_true_eq]; omega), e, inner n hn _ _ hA]
    simp only [Option.bind_some]
    rw [w64 (by omega) (by omega), flt_take h row hn, List.append_assoc]; rfl) (by
    simp only [f_plane_Filter.s1, f_plane_Filter.s1c]
    rw [if_neg (by simp), List.take_of_length_le (by rw [flt_len]; omega), Nat.sub_self]; simp)
  rw [List.take_zero, List.nil_append, Nat.sub_zero] at this
  rw [this]; rfl
theorem none_true : f_foghornlaw03_PlaneNone = some true := by
  have e1 : f_plane_Filter [] [] = some ([], 1) := by unfold f_plane_Filter; rfl
  have e2 : f_plane_Filter (mk0 65 (Fl.bits 0, Fl.bits 0)) [] = some ([], 1) := by
    have hl : ((mk0 (65 : Int) (Fl.bits 0, Fl.bits 0)).length : Int) = 65 := by rw [mk0_eq, List.length_replicate]; rfl
    unfold f_plane_Filter
    rw [hl]; rfl
  have e3 := filt_ok (List.replicate ((64 : Int)).toNat (Fl.bits 0, Fl.bits 0)) (List.replicate ((3 : Int)).toNat (Fl.bits 0, Fl.bits 0)) (by simp) (by simp)
  have l3 := flt_len (List.replicate ((64 : Int)).toNat (Fl.bits 0, Fl.bits 0)) (List.replicate ((3 : Int)).toNat (Fl.bits 0, Fl.bits 0))
  generalize flt (List.replicate ((64 : Int)).toNat (Fl.bits 0, Fl.bits 0)) (List.replicate ((3 : Int)).toNat (Fl.bits 0, Fl.bits 0)) = X at *
  have e4 : f_plane_Filter (List.replicate ((1 : Int)).toNat (Fl.bits 0, Fl.bits 0)) (mk0 65537 (Fl.bits 0, Fl.bits 0)) = some ([], 1) := by
    have hl : ((mk0 (65537 : Int) (Fl.bits 0, Fl.bits 0)).length : Int) = 65537 := by rw [mk0_eq, List.length_replicate]; rfl
    unfold f_plane_Filter
    rw [hl]; rfl
  have e5 : f_plane_Gauss_Norm 1073741824 (-1073741824) = some (2305843009213693952, 0) := by decide +kernel
  have e6 : f_plane_Gauss_Norm 1073741825 0 = some (0, 1) := by decide +kernel
  have e7 : f_plane_Gcd 1073741825 0 1073741824 (-1073741824) = some ((0, 0), 1) := by
    unfold f_plane_Gcd
    have h1 : f_plane_Gauss_may 1073741825 0 = some false := by decide
    rw [h1]; rfl
  have e8 : f_plane_Gauss_Class 1073741824 (-1073741824) 31 = some (0, 1) := by
    unfold f_plane_Gauss_Class
    have h1 : f_plane_Gauss_may 1073741824 (-1073741824) = some true := by decide
    rw [h1]; rfl
  have e9 : f_plane_Gauss_Class 1073741824 (-1073741824) (-1) = some (0, 1) := by
    unfold f_plane_Gauss_Class
    have h1 : f_plane_Gauss_may 1073741824 (-1073741824) = some true := by decide
    rw [h1]; rfl
  have e10 : f_plane_First 1 0 = some ((0, 0), 1) := by
    unfold f_plane_First
    rfl
  have e11 : f_plane_First 1073741824 30 = some ((0, 0), 1) := by
    unfold f_plane_First
    rfl
  have e12 : f_plane_Gauss_Depth 1073741824 0 = some (60, 0) := by
    unfold f_plane_Gauss_Depth
    have h1 : f_plane_Gauss_may 1073741824 0 = some true := by decide
    have h2 : f_plane_Gauss_half 1073741824 0 = some ((536870912, -536870912), 0) := by decide +kernel
    have h3 : loop f_plane_Gauss_Depth.s1 (0, 536870912, -536870912, 0) = some 60 := loop_iff.2 ⟨61, by decide +kernel⟩
    rw [h1, h2]
    simp only [Option.bind_some]
    rw [if_neg (by decide), if_neg (by decide), h3]; rfl
  have e13 : f_plane_Whole (Fl.bits 4742290407621132288, Fl.bits 13965662444475908096) = some ((1073741824, -1073741824), 0) := by decide +kernel
  have e14 : f_plane_Whole (Fl.bits 4742290407625326592, Fl.bits 0) = some ((0, 0), 1) := by decide +kernel
  have e15 : f_plane_Sum [] = some (Fl.bits 0, Fl.bits 0) := by
    unfold f_plane_Sum
    have : loop (f_plane_Sum.s1 []) ((Fl.bits 0, Fl.bits 0), 0) = some (Fl.bits 0, Fl.bits 0) := loop_iff.2 ⟨1, by decide +kernel⟩
    rw [this]; rfl
  unfold f_foghornlaw03_PlaneNone
  rw [e1]
  simp only [Option.bind_some]
  rw [if_pos (by decide), e2]
  simp only [Option.bind_some]
  rw [if_pos (by decide), if_pos (by decide), e3]
  simp only [Option.bind_some]
  rw [if_pos (by decide), if_pos (by decide), e4, e5]
  simp only [Option.bind_some]
  rw [e6, e7]
  simp only [Option.bind_some]
  rw [e8, e9, e10, e11]
  simp only [Option.bind_some]
  rw [e12, e13, e14, e15, awake_true]
  simp only [Option.bind_some]
  rw [l3]
  decide

end Go.Proofs.Yteifkccomfdciaa
