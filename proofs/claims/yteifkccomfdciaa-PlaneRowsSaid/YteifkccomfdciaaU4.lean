/- PlaneRows: the plain law. -/
import Derived.Test.YteifkccomfdciaaG4
import Derived.Test.YteifkccomfdciaaGlK
import Derived.Test.YteifkccomfdciaaGlW
set_option linter.unusedVariables false
set_option linter.unusedSimpArgs false
set_option maxRecDepth 8000
namespace Go.Proofs.Yteifkccomfdciaa
open GL Go

/-! ### A float against itself -/
theorem fcmp_self (x : Fl) : fcmp x x = some .eq ∨ fcmp x x = none := by
  cases x with
  | nan => exact .inr rfl
  | bits b =>
    simp only [fcmp, Ieee.Format.order]
    cases FloatKind.f64.format.read b with
    | nan s t => exact .inr rfl
    | infinity s => left; simp [Ieee.Datum.order]
    | number s m e => left; simp [Ieee.Datum.order]
theorem part_self (x : Fl) (s : Bool) : f_foghornref03_part x x s = some true := by
  unfold f_foghornref03_part feq fne
  rcases fcmp_self x with h | h
  · rw [h]
    cases x with
    | nan => cases h
    | bits b => cases s <;> simp [f_math_Signbit, fbits]
  · rw [h]; rfl
theorem Same_self (z : Fl × Fl) (s : Bool) : f_foghornref03_Same z z s = some true := by
  unfold f_foghornref03_Same
  rw [part_self]
  simp only [Option.bind_some, if_true]
  rw [part_self]; rfl
theorem awake_true : f_foghornlaw03_awake = some true := by
  have h1 : loop (f_plane_Gauss_Class.s1 3) (3, 2, 0, 0) = some 1 := loop_iff.2 ⟨4, by decide +kernel⟩
  have h2 : f_plane_Gauss_Class 3 2 3 = some (1, 0) := by
    unfold f_plane_Gauss_Class
    rw [h1]; rfl
  have h3 : f_plane_Mul (Fl.bits 4607182418800017408, Fl.bits 4611686018427387904) (Fl.bits 4613937818241073152, Fl.bits 13830554455654793216) = some (Fl.bits 4617315517961601024, Fl.bits 4617315517961601024) := by decide +kernel
  have h4 : f_plane_Turn (Fl.bits 4607182418800017408, Fl.bits 4611686018427387904) 1 = some (Fl.bits 13835058055282163712, Fl.bits 4607182418800017408) := by decide +kernel
  unfold f_foghornlaw03_awake
  rw [h2, h3, h4]
  decide +kernel
/-! ### Sums and filters -/
abbrev zc : Fl × Fl := (Fl.bits 0, Fl.bits 0)
def cmul (a b : Fl × Fl) : Fl × Fl := (fsub (fmul a.1 b.1) (fmul a.2 b.2), fadd (fmul a.1 b.2) (fmul a.2 b.1))
def sm1 (l : List (Fl × Fl)) : Nat → Fl × Fl
  | 0 => zc
  | i + 1 => cadd (sm1 l i) (gt l (i : Int))
theorem sum_ok (l : List (Fl × Fl)) (hl : l.length < 140737488351233) : f_plane_Sum l = some (sm1 l l.length) := by
  unfold f_plane_Sum
  have := loop_for (f := f_plane_Sum.s1 l) l.length (fun i => sm1 l i) (sm1 l l.length) (fun i hi => by
    simp only [f_plane_Sum.s1, f_plane_Sum.s1c]
    rw [if_pos (by rw [decide_eq_true_eq]; omega), if_pos (by omega), w64 (by omega) (by omega)]; rfl) (by
    simp only [f_plane_Sum.s1, f_plane_Sum.s1c]
    rw [if_neg (by simp)])
  rw [show sm1 l 0 = (Fl.bits 0, Fl.bits 0) from rfl] at this
  rw [this]; rfl
theorem rsum_ok (l : List (Fl × Fl)) (hl : l.length < 140737488351233) : f_foghornref03_Sum l = some (sm1 l l.length) := by
  unfold f_foghornref03_Sum
  have := loop_for (f := f_foghornref03_Sum.s1 l) l.length (fun i => sm1 l i) (sm1 l l.length) (fun i hi => by
    simp only [f_foghornref03_Sum.s1, f_foghornref03_Sum.s1c]
    rw [if_pos (by rw [decide_eq_true_eq]; omega), if_pos (by omega), w64 (by omega) (by omega)]; rfl) (by
    simp only [f_foghornref03_Sum.s1, f_foghornref03_Sum.s1c]
    rw [if_neg (by simp)])
  rw [show sm1 l 0 = (Fl.bits 0, Fl.bits 0) from rfl] at this
  rw [this]; rfl
def acc (h row : List (Fl × Fl)) (n : Nat) : Nat → Fl × Fl
  | 0 => zc
  | k + 1 => cadd (acc h row n k) (cmul (gt h (k : Int)) (gt row ((n - k : Nat) : Int)))
def flt (h row : List (Fl × Fl)) : List (Fl × Fl) := (List.range row.length).map fun n => acc h row n (min h.length (n + 1))
theorem flt_len (h row : List (Fl × Fl)) : (flt h row).length = row.length := by simp [flt]
theorem mid_set {α : Type} {A B : List α} (v x : α) {n : Nat} (h : A.length = n) : (A ++ v :: B).set n x = A ++ x :: B := by
  rw [List.set_append_right _ _ (by omega), h, Nat.sub_self, List.set_cons_zero]
theorem mid_gt {α : Type} [Inhabited α] {A B : List α} (v : α) {n : Nat} (h : A.length = n) : gt (A ++ v :: B) (n : Int) = v := by
  rw [gt_nat (by simp; omega), List.getElem_append_right (by omega)]; simp [h]
theorem flt_take (h row : List (Fl × Fl)) {n : Nat} (hn : n < row.length) : (flt h row).take (n + 1) = (flt h row).take n ++ [acc h row n (min h.length (n + 1))] := by
  rw [List.take_succ_eq_append_getElem (by rw [flt_len]; exact hn)]; simp [flt]
theorem filt_ok (h row : List (Fl × Fl)) (hh : 1 ≤ h.length ∧ h.length ≤ 64) (hr : row.length ≤ 65536) : f_plane_Filter h row = some (flt h row, 0) := by
  have inner : ∀ n, n < row.length → ∀ A B : List (Fl × Fl), A.length = n → loop (f_plane_Filter.s2 h row (n : Int)) (A ++ zc :: B, 0) = some (A ++ acc h row n (min h.length (n + 1)) :: B) := by
    intro n hn A B hA
    refine loop_for (f := f_plane_Filter.s2 h row (n : Int)) (min h.length (n + 1)) (fun k => A ++ acc h row n k :: B) (A ++ acc h row n (min h.length (n + 1)) :: B) (fun k hk => ?_) ?_
    · simp only [f_plane_Filter.s2, f_plane_Filter.s2c]
      have hL : ∀ v : Fl × Fl, (A ++ v :: B).length = n + 1 + B.length := fun v => by simp; omega
      have e1 : IntKind.i64.wrap ((n : Int) - (k : Int)) = ((n - k : Nat) : Int) := by rw [w64 (by omega) (by omega)]; omega
      have e2 : imin (h.length : Int) (IntKind.i64.wrap ((n : Int) + 1)) = ((min h.length (n + 1) : Nat) : Int) := by
        rw [w64 (by omega) (by omega), show (n : Int) + 1 = ((n + 1 : Nat) : Int) from rfl, imin_nat]
      rw [e2, if_pos (by rw [decide_eq_true_eq]; omega), hL, if_pos (by omega), if_pos (by omega), e1, if_pos (by omega)]
      rw [show f_plane_Mul (gt h (k : Int)) (gt row ((n - k : Nat) : Int)) = some (cmul (gt h (k : Int)) (gt row ((n - k : Nat) : Int))) from rfl]
      simp only [Option.bind_some]
      rw [if_pos (by omega), Int.toNat_natCast, mid_gt _ hA, mid_set _ _ hA, w64 (by omega) (by omega)]
      rfl
    · simp only [f_plane_Filter.s2, f_plane_Filter.s2c]
      have e2 : imin (h.length : Int) (IntKind.i64.wrap ((n : Int) + 1)) = ((min h.length (n + 1) : Nat) : Int) := by
        rw [w64 (by omega) (by omega), show (n : Int) + 1 = ((n + 1 : Nat) : Int) from rfl, imin_nat]
      rw [e2, if_neg (by simp)]
  unfold f_plane_Filter
  rw [if_neg (by simp only [Bool.or_eq_true, decide_eq_true_eq, beq_iff_eq]; omega), if_pos (by omega), Int.toNat_natCast]
  have := loop_for (f := f_plane_Filter.s1 h row) row.length (fun n => (flt h row).take n ++ List.replicate (row.length - n) zc) (flt h row) (fun n hn => by
    simp only [f_plane_Filter.s1, f_plane_Filter.s1c]
    have hA : ((flt h row).take n).length = n := by rw [List.length_take, flt_len]; omega
    have e : List.replicate (row.length - n) zc = zc :: List.replicate (row.length - (n + 1)) zc := by rw [← List.replicate_succ]; congr 1; omega
    rw [if_pos (by rw [decide_eq_true_eq]; omega), e, inner n hn _ _ hA]
    simp only [Option.bind_some]
    rw [w64 (by omega) (by omega), flt_take h row hn, List.append_assoc]; rfl) (by
    simp only [f_plane_Filter.s1, f_plane_Filter.s1c]
    rw [if_neg (by simp), List.take_of_length_le (by rw [flt_len]; omega), Nat.sub_self]; simp)
  rw [List.take_zero, List.nil_append, Nat.sub_zero] at this
  rw [this]; rfl
theorem rfilt_ok (h row : List (Fl × Fl)) (hh : 1 ≤ h.length ∧ h.length ≤ 64) (hr : row.length ≤ 65536) : f_foghornref03_Filter h row = some (flt h row, 0) := by
  have inner : ∀ n, n < row.length → loop (f_foghornref03_Filter.s2 h row (n : Int)) (zc, 0) = some (acc h row n (min h.length (n + 1))) := by
    intro n hn
    refine loop_for (f := f_foghornref03_Filter.s2 h row (n : Int)) (min h.length (n + 1)) (fun k => acc h row n k) (acc h row n (min h.length (n + 1))) (fun k hk => ?_) ?_
    · simp only [f_foghornref03_Filter.s2, f_foghornref03_Filter.s2c]
      have e1 : IntKind.i64.wrap ((n : Int) - (k : Int)) = ((n - k : Nat) : Int) := by rw [w64 (by omega) (by omega)]; omega
      rw [if_pos (by simp only [Bool.and_eq_true, decide_eq_true_eq]; omega), if_pos (by omega), e1, if_pos (by omega)]
      rw [show f_foghornref03_Mul (gt h (k : Int)) (gt row ((n - k : Nat) : Int)) = some (cmul (gt h (k : Int)) (gt row ((n - k : Nat) : Int))) from rfl]
      simp only [Option.bind_some]
      rw [show ∀ a b, f_foghornref03_add a b = some (cadd a b) from fun _ _ => rfl]
      simp only [Option.bind_some]
      rw [w64 (by omega) (by omega)]
      rfl
    · simp only [f_foghornref03_Filter.s2, f_foghornref03_Filter.s2c]
      rw [if_neg (by simp only [Bool.and_eq_true, decide_eq_true_eq]; omega)]
  unfold f_foghornref03_Filter
  rw [if_neg (by simp; omega)]
  have := loop_for (f := f_foghornref03_Filter.s1 h row) row.length (fun n => (flt h row).take n) (flt h row) (fun n hn => by
    simp only [f_foghornref03_Filter.s1, f_foghornref03_Filter.s1c]
    have hA : ((flt h row).take n).length = n := by rw [List.length_take, flt_len]; omega
    rw [if_pos (by rw [decide_eq_true_eq]; omega), inner n hn]
    simp only [Option.bind_some]
    rw [if_pos (by rw [hA]; simp only [List.length_cons, List.length_nil]; omega), w64 (by omega) (by omega), flt_take h row hn]; rfl) (by
    simp only [f_foghornref03_Filter.s1, f_foghornref03_Filter.s1c]
    rw [if_neg (by simp), List.take_of_length_le (by rw [flt_len]; omega)])
  rw [List.take_zero] at this
  rw [this]; rfl
theorem filt_both (h row : List (Fl × Fl)) (hh : h.length < 140737488351233) (hr : row.length < 140737488351233) : ∃ x e, f_plane_Filter h row = some (x, e) ∧ f_foghornref03_Filter h row = some (x, e) ∧ x.length ≤ 65536 := by
  by_cases hc : (1 ≤ h.length ∧ h.length ≤ 64) ∧ row.length ≤ 65536
  · exact ⟨_, _, filt_ok h row hc.1 hc.2, rfilt_ok h row hc.1 hc.2, by rw [flt_len]; exact hc.2⟩
  · refine ⟨[], 1, ?_, ?_, by simp⟩
    · unfold f_plane_Filter
      rw [if_pos (by simp only [Bool.or_eq_true, decide_eq_true_eq, beq_iff_eq]; omega)]
    · unfold f_foghornref03_Filter
      rw [if_pos (by simp only [Bool.or_eq_true, decide_eq_true_eq]; omega)]
theorem row_self (l : List (Fl × Fl)) (hl : l.length < 140737488351233) : f_foghornref03_SameRow l l = some true := by
  unfold f_foghornref03_SameRow
  rw [if_neg (by simp)]
  have : loop (f_foghornref03_SameRow.s1 l l) 0 = some (.inl ()) := by
    refine loop_for1 l.length (Sum.inl ()) (fun i hi => ?_) ?_
    · simp only [f_foghornref03_SameRow.s1, f_foghornref03_SameRow.s1c]
      rw [if_pos (by rw [decide_eq_true_eq]; omega), if_pos (by omega), if_pos (by omega), Same_self]
      simp only [Option.bind_some, Bool.not_true, Bool.false_eq_true, if_false]
      rw [w64 (by omega) (by omega)]; rfl
    · simp only [f_foghornref03_SameRow.s1, f_foghornref03_SameRow.s1c]
      rw [if_neg (by simp)]
  rw [this]; rfl
theorem rows_s1 (a : List (Fl × Fl)) (ha : a.length ≤ 65536) : ∃ u, loop f_foghornlaw03_rows.s1 (a, 0) = some u ∧ u.length ≤ 65536 := by
  obtain ⟨r, h1, h2⟩ := loop_inv (f := f_foghornlaw03_rows.s1) (fun s : List (Fl × Fl) × Int => s.1.length = a.length ∧ 0 ≤ s.2 ∧ s.2 ≤ a.length) (fun s => a.length - s.2.toNat) (fun u => u.length = a.length) (by
    rintro ⟨x, i⟩ ⟨i0, i1, i2⟩
    simp only at i0 i1 i2
    simp only [f_foghornlaw03_rows.s1, f_foghornlaw03_rows.s1c]
    by_cases hi : i < x.length
    · rw [if_pos (by rw [decide_eq_true_eq]; omega), if_pos (by omega), w64 (by omega) (by omega)]
      exact .inl ⟨_, rfl, ⟨by simp only [List.length_set]; omega, by simp only; omega, by simp only; omega⟩, by simp only; omega⟩
    · rw [if_neg (by rw [decide_eq_true_eq]; omega)]; exact .inr ⟨_, rfl, i0⟩) (a, 0) ⟨rfl, by simp, by simp⟩
  exact ⟨r, h1, by omega⟩
theorem rows_s2 (a : List (Fl × Fl)) (ha : a.length ≤ 65536) : ∃ u, loop f_foghornlaw03_rows.s2 (a, 0) = some u := by
  obtain ⟨r, h1, h2⟩ := loop_inv (f := f_foghornlaw03_rows.s2) (fun s : List (Fl × Fl) × Int => s.1.length ≤ 65536 + s.2.toNat ∧ 0 ≤ s.2 ∧ s.2 ≤ 20) (fun s => 20 - s.2.toNat) (fun u => True) (by
    rintro ⟨x, i⟩ ⟨i0, i1, i2⟩
    simp only at i0 i1 i2
    simp only [f_foghornlaw03_rows.s2, f_foghornlaw03_rows.s2c]
    by_cases hi : i < 20
    · rw [if_pos (by rw [decide_eq_true_eq]; omega), if_pos (by simp only [List.length_cons, List.length_nil]; omega), w64 (by omega) (by omega)]
      exact .inl ⟨_, rfl, ⟨by simp only [List.length_append, List.length_cons, List.length_nil]; omega, by simp only; omega, by simp only; omega⟩, by simp only; omega⟩
    · rw [if_neg (by rw [decide_eq_true_eq]; omega)]; exact .inr ⟨_, rfl, trivial⟩) (a, 0) ⟨by simp only; omega, by simp, by simp⟩
  exact ⟨r, h1⟩
theorem rows_ok (h row : List (Fl × Fl)) (hh : h.length < 140737488351233) (hr : row.length < 140737488351233) : f_foghornlaw03_rows h row h row = some true := by
  obtain ⟨x, e, h1, h2, h3⟩ := filt_both h row hh hr
  obtain ⟨u, u1, u2⟩ := rows_s1 x h3
  obtain ⟨v, v1⟩ := rows_s2 u u2
  unfold f_foghornlaw03_rows
  rw [h1, h2]
  simp only [Option.bind_some, bne_self_eq_false, Bool.false_eq_true, if_false]
  rw [row_self x (by omega)]
  simp only [Option.bind_some, Bool.not_true, Bool.false_eq_true, if_false]
  rw [sum_ok row hr, rsum_ok row hr]
  simp only [Option.bind_some]
  rw [Same_self]
  simp only [Option.bind_some, Bool.not_true, Bool.false_eq_true, if_false]
  rw [u1]
  simp only [Option.bind_some]
  rw [v1]; rfl
theorem many_ok (l : List (Fl × Fl)) (hl : l.length * 16 ≤ 140737488351232) : f_foghornlaw03_many l = some l := by
  unfold f_foghornlaw03_many
  have := loop_for (f := f_foghornlaw03_many.s1 l) l.length (fun i => l.take i) l (fun i hi => ?_) ?_
  · rw [List.take_zero] at this
    rw [this]; rfl
  · simp only [f_foghornlaw03_many.s1, f_foghornlaw03_many.s1c]
    rw [if_pos (by rw [decide_eq_true_eq]; omega), if_pos (by omega), show ∀ p : Fl × Fl, f_foghornlaw03_number p.1 p.2 = some p from fun _ => rfl]
    simp only [Option.bind_some]
    rw [if_pos (by simp only [List.length_take, List.length_cons, List.length_nil]; omega), w64 (by omega) (by omega), gt_nat hi, List.take_succ_eq_append_getElem hi]
    rfl
  · simp only [f_foghornlaw03_many.s1, f_foghornlaw03_many.s1c]
    rw [if_neg (by simp), List.take_length]
theorem gt_setG {α : Type} [Inhabited α] {L : List α} {i j : Nat} (hi : i < L.length) (hj : j < L.length) (v : α) : gt (L.set i v) (j : Int) = if i = j then v else gt L (j : Int) := by
  rw [gt_nat (by rw [List.length_set]; exact hj), gt_nat hj, List.getElem_set]
theorem end_gt {α : Type} [Inhabited α] (l : List α) (c : α) : gt (l ++ [c]) (l.length : Int) = c := mid_gt c rfl
theorem end_take {α : Type} (l : List α) (c : α) : (((l ++ [c]).drop 0).take (((l.length : Int)).toNat - 0)) = l := by
  rw [List.drop_zero, Nat.sub_zero, Int.toNat_natCast]; exact List.take_left
theorem rows_true (taps : List (Fl × Fl)) (w0 : ∀ x ∈ taps, (∃ b, x.1 = Fl.bits b ∧ (Lit.float .f64 b).wf = true) ∧ (∃ b, x.2 = Fl.bits b ∧ (Lit.float .f64 b).wf = true)) (r0 : taps.length * 16 ≤ 140737488351232)
    (list : List (Fl × Fl)) (w1 : ∀ x ∈ list, (∃ b, x.1 = Fl.bits b ∧ (Lit.float .f64 b).wf = true) ∧ (∃ b, x.2 = Fl.bits b ∧ (Lit.float .f64 b).wf = true)) (r1 : list.length * 16 ≤ 140737488351232) :
    f_foghornlaw03_PlaneRows taps list = some true := by
  unfold f_foghornlaw03_PlaneRows
  rw [many_ok taps r0, many_ok list r1]
  simp only [Option.bind_some, List.nil_append]
  rw [if_pos (by simp only [List.length_nil]; omega), if_pos (by simp only [List.length_cons, List.length_nil]; omega), if_pos (by simp only [List.length_nil]; omega), if_pos (by simp only [List.length_cons, List.length_nil]; omega),
    if_pos (by simp only [List.length_append, List.length_cons, List.length_nil]; omega), if_pos (by simp only [List.length_append, List.length_cons, List.length_nil]; omega), end_take, end_take, rows_ok taps list (by omega) (by omega)]
  simp only [Option.bind_some, Bool.not_true, Bool.false_eq_true, if_false]
  have c1 : ceq (Fl.bits 0, Fl.bits 4619567317775286272) (Fl.bits 0, Fl.bits 4619567317775286272) = true := by decide +kernel
  have c2 : ceq (Fl.bits 0, Fl.bits 4621256167635550208) (Fl.bits 0, Fl.bits 4621256167635550208) = true := by decide +kernel
  rw [if_pos (by simp only [List.length_append, List.length_cons, List.length_nil]; omega), end_gt, c1]
  simp only [Option.bind_some, Bool.not_true, Bool.false_eq_true, if_false]
  rw [if_pos (by simp only [List.length_append, List.length_cons, List.length_nil]; omega), end_gt, c2]
  simp only [Option.bind_some, Bool.not_true, Bool.false_eq_true, if_false]
  rw [if_pos (by omega), Int.toNat_natCast]
  obtain ⟨r, h1, m, h2, h3, h5, h4⟩ := loop_inv (f := f_foghornlaw03_PlaneRows.s1 list) (fun s : List (Fl × Fl) × List (Fl × Fl) × Int => s.1.length = list.length + 1 ∧ s.2.1.length = list.length ∧ 0 ≤ s.2.2 ∧ s.2.2 ≤ list.length ∧ (∀ j : Nat, (j : Int) < s.2.2 → gt s.1 (j : Int) = gt s.2.1 (j : Int)) ∧ ∀ j : Nat, s.2.2 ≤ (j : Int) → j < list.length → gt s.1 (j : Int) = gt list (j : Int)) (fun s => list.length - s.2.2.toNat)
    (fun r : (List (Fl × Fl) × List (Fl × Fl)) ⊕ Bool => ∃ m : List (Fl × Fl) × List (Fl × Fl), r = .inl m ∧ m.1.length = list.length + 1 ∧ m.2.length = list.length ∧ m.1.take list.length = m.2) (by
    rintro ⟨x, y, i⟩ ⟨i0, i1, i2, i3, i4, i5⟩
    simp only at i0 i1 i2 i3 i4 i5
    simp only [f_foghornlaw03_PlaneRows.s1, f_foghornlaw03_PlaneRows.s1c]
    obtain ⟨p, rfl⟩ : ∃ p : Nat, i = (p : Int) := ⟨i.toNat, by omega⟩
    by_cases hi : p < list.length
    · rw [if_pos (by rw [decide_eq_true_eq]; omega), if_pos (by omega), if_pos (by omega), i5 p (by omega) hi, Same_self]
      simp only [Option.bind_some, Bool.not_true, Bool.false_eq_true, if_false]
      rw [if_pos (by omega), if_pos (by omega), if_pos (by rw [List.length_set]; omega), if_pos (by omega), w64 (by omega) (by omega), Int.toNat_natCast]
      refine .inl ⟨_, rfl, ⟨by simp only [List.length_set]; omega, by simp only [List.length_set]; omega, by simp only; omega, by simp only; omega, fun j hj => ?_, fun j hj hjl => ?_⟩, by simp only; omega⟩
      · simp only at hj ⊢
        rw [gt_setG (by omega) (by omega), gt_setG (L := y) (j := j) (by omega) (by omega)]
        by_cases hjp : p = j
        · subst hjp
          rw [if_pos rfl, if_pos rfl, gt_setG (by omega) (by omega), if_pos rfl]
        · rw [if_neg hjp, if_neg hjp]
          exact i4 j (by omega)
      · simp only at hj ⊢
        rw [gt_setG (by omega) (by omega), if_neg (by omega)]
        exact i5 j (by omega) hjl
    · rw [if_neg (by rw [decide_eq_true_eq]; omega)]
      refine .inr ⟨_, rfl, (x, y), rfl, i0, i1, ?_⟩
      simp only
      apply List.ext_getElem (by rw [List.length_take]; omega)
      intro j j1 j2
      have := i4 j (by omega)
      rw [gt_nat (by omega), gt_nat j2] at this
      rw [List.getElem_take]; exact this) (list ++ [(Fl.bits 0, Fl.bits 4621256167635550208)], List.replicate list.length (Fl.bits 0, Fl.bits 0), 0) ⟨by simp, by simp, by simp, by simp, fun j hj => by simp only at hj; omega, fun j _ hj => by
      simp only
      rw [gt_nat (by simp; omega), gt_nat hj, List.getElem_append_left hj]⟩
  subst h2
  rw [h1]
  simp only [Option.bind_some, sm]
  have s2 : loop (f_foghornlaw03_PlaneRows.s2 taps) 0 = some (.inl ()) := by
    refine loop_for1 taps.length (Sum.inl ()) (fun i hi => ?_) ?_
    · simp only [f_foghornlaw03_PlaneRows.s2, f_foghornlaw03_PlaneRows.s2c, List.nil_append]
      have hg : gt (taps ++ [(Fl.bits 0, Fl.bits 4619567317775286272)]) (i : Int) = gt taps (i : Int) := by
        rw [gt_nat (by simp; omega), gt_nat hi, List.getElem_append_left hi]
      rw [if_pos (by rw [decide_eq_true_eq]; omega), if_pos (by simp only [List.length_append, List.length_cons, List.length_nil]; omega), if_pos (by omega), hg, Same_self]
      simp only [Option.bind_some, Bool.not_true, Bool.false_eq_true, if_false]
      rw [w64 (by omega) (by omega)]; rfl
    · simp only [f_foghornlaw03_PlaneRows.s2, f_foghornlaw03_PlaneRows.s2c]
      rw [if_neg (by simp)]
  rw [s2]
  simp only [Option.bind_some, sm]
  have ht : ((m.1.drop 0).take (list.length - 0)) = m.2 := by rw [List.drop_zero, Nat.sub_zero]; exact h4
  rw [if_pos (by simp only [List.length_append, List.length_cons, List.length_nil]; omega), if_pos (by omega), ht, rows_ok taps m.2 (by omega) (by omega), awake_true]
  rfl

end Go.Proofs.Yteifkccomfdciaa
