/- HardThins: the plain law. -/
import Derived.Test.YthajdlihjobcoaaG1
import Derived.Test.YthajdlihjobcoaaGlK
set_option linter.unusedVariables false
namespace Go.Proofs.Ythajdlihjobcoaa
open GL

theorem index_some (keep : List Bool) (hl : keep.length < 140737488351233) : ∃ r, f_slices_Index_bool_bool keep true = some r ∧ (0 ≤ r ↔ true ∈ keep) := by
  obtain ⟨r, h1, h2⟩ := loop_inv (f := f_slices_Index_bool_bool.s1 keep true) (fun t : Int => 0 ≤ t ∧ t ≤ keep.length ∧ ∀ j : Nat, (j : Int) < t → keep[j]? = some false) (fun t => keep.length - t.toNat)
    (fun r : Unit ⊕ Int => match r with | .inl _ => true ∉ keep | .inr t => 0 ≤ t ∧ true ∈ keep) (by
      rintro t ⟨h1, h2, h3⟩
      simp only [f_slices_Index_bool_bool.s1, f_slices_Index_bool_bool.s1c]
      by_cases ht : t < keep.length
      · rw [if_pos (by simpa using ht), if_pos (by omega)]
        have hg : keep[t.toNat]? = some (gt keep t) := gt_of h1 ht
        by_cases hk : (true == gt keep t) = true
        · rw [if_pos hk]
          have hk' : gt keep t = true := by simpa using hk
          exact .inr ⟨_, rfl, h1, by rw [← hk']; exact gt_mem h1 ht⟩
        · rw [if_neg hk, w64 (by omega) (by omega)]
          have hk' : gt keep t = false := by simpa using hk
          refine .inl ⟨_, rfl, ⟨by omega, by omega, fun j hj => ?_⟩, by omega⟩
          by_cases hjt : (j : Int) < t
          · exact h3 j hjt
          · obtain rfl : j = t.toNat := by omega
            rw [hg, hk']
      · rw [if_neg (by simpa using ht)]
        refine .inr ⟨_, rfl, fun hm => ?_⟩
        obtain ⟨j, hj, hj'⟩ := List.getElem_of_mem hm
        have := h3 j (by omega)
        rw [List.getElem?_eq_getElem hj, hj'] at this
        simp at this) 0 ⟨by omega, by omega, fun j hj => by omega⟩
  unfold f_slices_Index_bool_bool
  rw [h1]
  cases r with
  | inl u => exact ⟨-1, rfl, fun h => absurd h (by decide), fun h => absurd h h2⟩
  | inr t => exact ⟨t, rfl, fun _ => h2.2, fun _ => h2.1⟩

open Classical in
theorem pattern_hard (keep : List Bool) (hl : keep.length < 140737488351233) : f_hard_pattern keep = some (decide (true ∈ keep ∧ keep.length ≤ 64)) := by
  unfold f_hard_pattern f_slices_Contains_bool_bool
  obtain ⟨r, h1, h2⟩ := index_some keep hl
  rw [h1]
  by_cases h : keep.length ≤ 64
  · rw [if_pos (by simpa using (by omega : (keep.length : Int) ≤ 64))]
    simp [h, h2]
  · rw [if_neg (by simpa using (by omega : ¬ (keep.length : Int) ≤ 64))]
    simp [h]

theorem pattern_ref (keep : List Bool) (hl : keep.length < 140737488351233) : f_foghornref22_pattern keep = some (decide (true ∈ keep ∧ keep.length ≤ 64)) := by
  unfold f_foghornref22_pattern
  have := loop_for (f := f_foghornref22_pattern.s1 keep) keep.length (fun t => decide (true ∈ keep.take t)) (decide (true ∈ keep)) (fun i hi => ?_) ?_
  · simp only [List.take_zero, List.not_mem_nil, decide_false] at this
    rw [this]
    simp only [Option.bind_some, Bool.decide_and]
    congr 3
    simp; omega
  · simp only [f_foghornref22_pattern.s1, f_foghornref22_pattern.s1c]
    rw [if_pos (by simpa using hi)]
    have e : decide (true ∈ keep.take (i + 1)) = (decide (true ∈ keep.take i) || gt keep (i : Int)) := by
      rw [gt_nat hi, List.take_succ_eq_append_getElem hi]
      cases keep[i] <;> simp
    rw [w64 (by omega) (by omega)]
    by_cases h : true ∈ keep.take i
    · rw [if_pos (by simpa using h)]
      simp [e, h]
    · rw [if_neg (by simpa using h), if_pos (by omega)]
      simp [e, h]
  · simp only [f_foghornref22_pattern.s1, f_foghornref22_pattern.s1c]
    rw [if_neg (by simp), List.take_of_length_le (Nat.le_refl _)]

def keepAt (keep : List Bool) (i : Nat) : Bool := gt keep ((i : Int).tmod keep.length)
theorem keepAt_bd (keep : List Bool) (hk : 0 < keep.length) (i : Nat) : 0 ≤ (i : Int).tmod keep.length ∧ (i : Int).tmod keep.length < keep.length := by
  rw [Int.tmod_eq_emod_of_nonneg (by omega)]
  exact ⟨Int.emod_nonneg _ (by omega), Int.emod_lt_of_pos _ (by omega)⟩

theorem thin_loops (l keep : List Bool) (hk : 0 < keep.length) (hl : l.length < 140737488351233) : ∃ x, loop (f_hard_Thin.s1 l keep) ([], 0) = some x ∧ loop (f_foghornref22_Thin.s1 l keep) ([], 0) = some x ∧ x.length ≤ l.length := by
  have key : ∀ n i : Nat, i + n = l.length → ∀ out : List Bool, out.length ≤ i → ∃ x, loop (f_hard_Thin.s1 l keep) (out, (i : Int)) = some x ∧ loop (f_foghornref22_Thin.s1 l keep) (out, (i : Int)) = some x ∧ x.length ≤ l.length := by
    intro n
    induction n with
    | zero =>
      intro i hi out ho
      refine ⟨out, loop_done ?_, loop_done ?_, by omega⟩
      · simp only [f_hard_Thin.s1, f_hard_Thin.s1c]; rw [if_neg (by simp; omega)]
      · simp only [f_foghornref22_Thin.s1, f_foghornref22_Thin.s1c]; rw [if_neg (by simp; omega)]
    | succ n ih =>
      intro i hi out ho
      have hb := keepAt_bd keep hk i
      by_cases h : gt keep ((i : Int).tmod keep.length) = true
      · obtain ⟨x, h1, h2, h3⟩ := ih (i + 1) (by omega) (out ++ [gt l (i : Int)]) (by simp; omega)
        refine ⟨x, (loop_step ?_).trans h1, (loop_step ?_).trans h2, h3⟩
        · simp only [f_hard_Thin.s1, f_hard_Thin.s1c]
          rw [if_pos (by simp; omega), if_pos (by omega), if_pos (by omega), if_pos (by omega), if_pos h, if_pos (by simp; omega), w64 (by omega) (by omega)]; rfl
        · simp only [f_foghornref22_Thin.s1, f_foghornref22_Thin.s1c]
          rw [if_pos (by simp; omega), if_pos (by omega), if_pos (by omega), if_pos h, if_pos (by omega), if_pos (by simp; omega), w64 (by omega) (by omega)]; rfl
      · obtain ⟨x, h1, h2, h3⟩ := ih (i + 1) (by omega) out (by omega)
        refine ⟨x, (loop_step ?_).trans h1, (loop_step ?_).trans h2, h3⟩
        · simp only [f_hard_Thin.s1, f_hard_Thin.s1c]
          rw [if_pos (by simp; omega), if_pos (by omega), if_pos (by omega), if_pos (by omega), if_neg h, w64 (by omega) (by omega)]; rfl
        · simp only [f_foghornref22_Thin.s1, f_foghornref22_Thin.s1c]
          rw [if_pos (by simp; omega), if_pos (by omega), if_pos (by omega), if_neg h, w64 (by omega) (by omega)]; rfl
  exact key l.length 0 (by omega) [] (by simp)

theorem thin_same (l keep : List Bool) (hl : l.length < 140737488351233) (hkl : keep.length < 140737488351233) : ∃ x e, f_hard_Thin l keep = some (x, e) ∧ f_foghornref22_Thin l keep = some (x, e) ∧ x.length ≤ l.length := by
  unfold f_hard_Thin f_foghornref22_Thin
  rw [pattern_hard keep hkl, pattern_ref keep hkl]
  by_cases h : (32768 : Int) < l.length
  · rw [if_pos (by simpa using h)]; exact ⟨[], 1, rfl, rfl, by simp⟩
  · rw [if_neg (by simpa using h)]
    simp only [Option.bind_some]
    by_cases hp : true ∈ keep ∧ keep.length ≤ 64
    · have hk : 0 < keep.length := List.length_pos_of_mem hp.1
      obtain ⟨x, h1, h2, h3⟩ := thin_loops l keep hk hl
      simp only [hp, and_self, decide_true, Bool.not_true, Bool.false_eq_true, if_false]
      rw [h1, h2]
      exact ⟨x, 0, rfl, rfl, h3⟩
    · simp only [hp, decide_false, Bool.not_false, if_true]
      exact ⟨[], 1, rfl, rfl, by simp⟩

def cnt (keep : List Bool) : Nat → Nat
  | 0 => 0
  | i + 1 => cnt keep i + if keepAt keep i then 1 else 0
theorem cnt_mono (keep : List Bool) : ∀ d i, cnt keep i ≤ cnt keep (i + d)
  | 0, i => Nat.le_refl _
  | d + 1, i => by
    have := cnt_mono keep d i
    rw [← Nat.add_assoc, cnt]
    omega
theorem cnt_le (keep : List Bool) : ∀ i, cnt keep i ≤ i
  | 0 => Nat.le_refl _
  | i + 1 => by have := cnt_le keep i; rw [cnt]; split <;> omega

/-- the mark at place j -/
def mk (l keep : List Bool) (j : Nat) : Int := if keepAt keep j then (if gt l (cnt keep j : Int) then 1 else 0) else 2

theorem fill_hard (l keep : List Bool) (hk : 0 < keep.length) (hl : l.length < 140737488351233) (n : Nat) (hn : n ≤ 32768) :
    ∃ r, loop (f_hard_Fill.s1 l keep (n : Int)) (List.replicate n (0 : Int), 0, 0) = some r ∧
      match r with
      | .inl q => q.2 = (cnt keep n : Int) ∧ q.1 = (List.range n).map (mk l keep) ∧ cnt keep n ≤ l.length
      | .inr q => q = ([], 1) ∧ l.length < cnt keep n := by
  have key : ∀ m t : Nat, t + m = n → cnt keep t ≤ l.length → ∃ r, loop (f_hard_Fill.s1 l keep (n : Int)) ((List.range t).map (mk l keep) ++ List.replicate m (0 : Int), (cnt keep t : Int), (t : Int)) = some r ∧
      match r with
      | .inl q => q.2 = (cnt keep n : Int) ∧ q.1 = (List.range n).map (mk l keep) ∧ cnt keep n ≤ l.length
      | .inr q => q = ([], 1) ∧ l.length < cnt keep n := by
    intro m
    induction m with
    | zero =>
      intro t ht hc
      obtain rfl : t = n := by omega
      refine ⟨.inl ((List.range t).map (mk l keep), (cnt keep t : Int)), loop_done ?_, rfl, rfl, hc⟩
      simp only [f_hard_Fill.s1, f_hard_Fill.s1c]
      rw [if_neg (by simp)]; simp
    | succ m ih =>
      intro t ht hc
      have hb := keepAt_bd keep hk t
      have hlen : ((List.range t).map (mk l keep) ++ List.replicate (m + 1) (0 : Int)).length = n := by simp; omega
      have hset : ∀ v : Int, ((List.range t).map (mk l keep) ++ List.replicate (m + 1) (0 : Int)).set (t : Int).toNat v = (List.range t).map (mk l keep) ++ v :: List.replicate m 0 := by
        intro v
        rw [Int.toNat_natCast, List.set_append_right _ _ (by simp)]
        simp [List.replicate_succ]
      have hnext : (List.range (t + 1)).map (mk l keep) ++ List.replicate m (0 : Int) = (List.range t).map (mk l keep) ++ mk l keep t :: List.replicate m 0 := by
        rw [List.range_succ, List.map_append]; simp
      have htn : (t : Int) < n := by omega
      have hct := cnt_le keep t
      by_cases h : keepAt keep t = true
      · have hcs : cnt keep (t + 1) = cnt keep t + 1 := by rw [cnt, h]; rfl
        by_cases he : cnt keep t = l.length
        · refine ⟨.inr ([], 1), loop_done ?_, rfl, ?_⟩
          · simp only [f_hard_Fill.s1, f_hard_Fill.s1c]
            have h' : gt keep ((t : Int).tmod keep.length) = true := h
            rw [if_pos (by simpa using htn), if_pos (by omega), if_pos hb, h', if_neg (by simp), if_pos (by simp; omega)]
          · have := cnt_mono keep m (t + 1)
            rw [show t + 1 + m = n by omega] at this
            omega
        · obtain ⟨r, h1, h2⟩ := ih (t + 1) (by omega) (by omega)
          refine ⟨r, (loop_step ?_).trans h1, h2⟩
          simp only [f_hard_Fill.s1, f_hard_Fill.s1c]
          have h' : gt keep ((t : Int).tmod keep.length) = true := h
          rw [if_pos (by simpa using htn), if_pos (by omega), if_pos hb, h', if_neg (by simp), if_neg (by simp; omega), if_pos (by omega), hnext, hcs, w64 (x := (cnt keep t : Int) + 1) (by omega) (by omega), w64 (x := (t : Int) + 1) (by omega) (by omega)]
          by_cases hg : gt l (cnt keep t : Int) = true
          · rw [if_pos hg, if_pos (by rw [hlen]; omega), hset]
            simp [mk, h, hg]
          · rw [if_neg hg]
            have : (List.range t).map (mk l keep) ++ List.replicate (m + 1) (0 : Int) = (List.range t).map (mk l keep) ++ mk l keep t :: List.replicate m 0 := by
              simp [mk, h, hg, List.replicate_succ]
            rw [this]; rfl
      · have hcs : cnt keep (t + 1) = cnt keep t := by rw [cnt, if_neg h]; rfl
        obtain ⟨r, h1, h2⟩ := ih (t + 1) (by omega) (by omega)
        refine ⟨r, (loop_step ?_).trans h1, h2⟩
        simp only [f_hard_Fill.s1, f_hard_Fill.s1c]
        have h' : gt keep ((t : Int).tmod keep.length) = false := by simpa [keepAt] using h
        rw [if_pos (by simpa using htn), if_pos (by omega), if_pos hb, h', if_pos (by simp), if_pos (by rw [hlen]; omega), hset, hnext, hcs, w64 (x := (t : Int) + 1) (by omega) (by omega)]
        simp [mk, h]
  have := key n 0 (by omega) (by simp [cnt])
  simpa [cnt] using this

theorem fill_count (keep : List Bool) (hk : 0 < keep.length) (n : Nat) (hn : n ≤ 32768) : loop (f_foghornref22_Fill.s1 keep (n : Int)) (0, 0) = some (cnt keep n : Int) := by
  refine loop_for (f := f_foghornref22_Fill.s1 keep (n : Int)) n (fun t => (cnt keep t : Int)) _ (fun t ht => ?_) ?_
  · have hb := keepAt_bd keep hk t
    have hct := cnt_le keep t
    simp only [f_foghornref22_Fill.s1, f_foghornref22_Fill.s1c]
    rw [if_pos (by simpa using ht), if_pos (by omega), if_pos hb, w64 (x := (t : Int) + 1) (by omega) (by omega), w64 (x := (cnt keep t : Int) + 1) (by omega) (by omega)]
    by_cases h : keepAt keep t = true
    · have h' : gt keep ((t : Int).tmod keep.length) = true := h
      rw [if_pos h', cnt, if_pos h]; rfl
    · have h' : ¬ gt keep ((t : Int).tmod keep.length) = true := h
      rw [if_neg h', cnt, if_neg h]; rfl
  · simp only [f_foghornref22_Fill.s1, f_foghornref22_Fill.s1c]
    rw [if_neg (by simp)]

def marks (l : List Bool) : List Int := l.map fun b => if b then 1 else 0

theorem marks_ref (l : List Bool) (hl : l.length < 140737488351233) : f_foghornref22_Marks l = some (marks l) := by
  unfold f_foghornref22_Marks
  have := loop_for (f := f_foghornref22_Marks.s1 l) l.length (fun t => (marks l).take t) (marks l) (fun t ht => ?_) ?_
  · simp only [List.take_zero] at this
    rw [this]; rfl
  · simp only [f_foghornref22_Marks.s1, f_foghornref22_Marks.s1c]
    have e : (marks l).take (t + 1) = (marks l).take t ++ [if gt l (t : Int) then 1 else 0] := by
      rw [List.take_succ_eq_append_getElem (by simpa [marks] using ht), gt_nat ht]; simp [marks]
    have hm : (marks l).length = l.length := by simp [marks]
    rw [if_pos (by simpa using ht), if_pos (by omega), w64 (by omega) (by omega), e]
    by_cases h : gt l (t : Int) = true
    · rw [if_pos h, if_pos (by simp [hm]; omega), if_pos h]; rfl
    · rw [if_neg h, if_pos (by simp [hm]; omega), if_neg h]; rfl
  · simp only [f_foghornref22_Marks.s1, f_foghornref22_Marks.s1c]
    rw [if_neg (by simp), List.take_of_length_le (by simp [marks])]

theorem marks_hard (l : List Bool) (hl : l.length < 140737488351233) : f_hard_Marks l = some (marks l) := by
  unfold f_hard_Marks
  rw [if_pos (by omega), Int.toNat_natCast]
  have := loop_for (f := f_hard_Marks.s1 l) l.length (fun t => (marks l).take t ++ List.replicate (l.length - t) 0) (marks l) (fun t ht => ?_) ?_
  · simp only [List.take_zero, List.nil_append, Nat.sub_zero] at this
    rw [this]; rfl
  · simp only [f_hard_Marks.s1, f_hard_Marks.s1c]
    have hm : (marks l).length = l.length := by simp [marks]
    have e : (marks l).take (t + 1) = (marks l).take t ++ [if gt l (t : Int) then 1 else 0] := by
      rw [List.take_succ_eq_append_getElem (by simpa [marks] using ht), gt_nat ht]; simp [marks]
    have e2 : List.replicate (l.length - t) (0 : Int) = 0 :: List.replicate (l.length - (t + 1)) 0 := by
      rw [← List.replicate_succ]; congr 1; omega
    have hlen : ((marks l).take t).length = t := by simp [hm]; omega
    rw [if_pos (by simpa using ht), if_pos (by omega), w64 (by omega) (by omega), e, e2]
    by_cases h : gt l (t : Int) = true
    · rw [if_pos h, if_pos (by simp [hm]; omega), if_pos h, Int.toNat_natCast, List.set_append_right _ _ (by omega), hlen]; simp
    · rw [if_neg h, if_neg h]; simp
  · simp only [f_hard_Marks.s1, f_hard_Marks.s1c]
    rw [if_neg (by simp), List.take_of_length_le (by simp [marks])]; simp

theorem fill_ref2 (l keep : List Bool) (hk : 0 < keep.length) (n : Nat) (hn : n ≤ 32768) (hc : cnt keep n = l.length) :
    loop (f_foghornref22_Fill.s2 keep (n : Int) (marks l)) ([], 0, 0) = some ((List.range n).map (mk l keep)) := by
  have key : ∀ m t : Nat, t + m = n → loop (f_foghornref22_Fill.s2 keep (n : Int) (marks l)) ((List.range t).map (mk l keep), (cnt keep t : Int), (t : Int)) = some ((List.range n).map (mk l keep)) := by
    intro m
    induction m with
    | zero =>
      intro t ht
      obtain rfl : t = n := by omega
      apply loop_done
      simp only [f_foghornref22_Fill.s2, f_foghornref22_Fill.s2c]
      rw [if_neg (by simp)]
    | succ m ih =>
      intro t ht
      have hb := keepAt_bd keep hk t
      have hct := cnt_le keep t
      have htn : (t : Int) < n := by omega
      have hm : (marks l).length = l.length := by simp [marks]
      refine (loop_step ?_).trans (ih (t + 1) (by omega))
      simp only [f_foghornref22_Fill.s2, f_foghornref22_Fill.s2c]
      rw [if_pos (by simpa using htn), if_pos (by omega), if_pos hb, w64 (x := (t : Int) + 1) (by omega) (by omega), w64 (x := (cnt keep t : Int) + 1) (by omega) (by omega), List.range_succ, List.map_append]
      by_cases h : keepAt keep t = true
      · have h' : gt keep ((t : Int).tmod keep.length) = true := h
        have hcs : cnt keep (t + 1) = cnt keep t + 1 := by rw [cnt, h]; rfl
        have h3 := cnt_mono keep m (t + 1)
        rw [show t + 1 + m = n by omega] at h3
        have h4 : cnt keep t < l.length := by omega
        rw [h', if_neg (by simp), if_pos (by omega), if_pos (by simp; omega), hcs, gt_nat (by omega)]
        simp [mk, h, gt_nat h4, marks]
      · have h' : gt keep ((t : Int).tmod keep.length) = false := by simpa [keepAt] using h
        have hcs : cnt keep (t + 1) = cnt keep t := by rw [cnt, if_neg h]; rfl
        rw [h', if_pos (by simp), if_pos (by simp; omega), hcs]
        simp [mk, h]
  exact key n 0 (by omega)

theorem fill_same (l keep : List Bool) (n : Int) (hl : l.length < 140737488351233) (hkl : keep.length < 140737488351233) : ∃ x e, f_hard_Fill l keep n = some (x, e) ∧ f_foghornref22_Fill l keep n = some (x, e) ∧ x.length ≤ 32768 := by
  unfold f_hard_Fill f_foghornref22_Fill
  rw [pattern_hard keep hkl, pattern_ref keep hkl]
  simp only [Option.bind_some]
  by_cases hp : (true ∈ keep ∧ keep.length ≤ 64) ∧ ¬ n < 0 ∧ ¬ 32768 < n
  · obtain ⟨hp, h0, h1⟩ := hp
    have hk : 0 < keep.length := List.length_pos_of_mem hp.1
    have hc : ((!decide (true ∈ keep ∧ keep.length ≤ 64) || decide (n < 0)) || decide (32768 < n)) = false := by simp [hp, h0, h1]
    obtain ⟨m, rfl⟩ : ∃ m : Nat, n = (m : Int) := ⟨n.toNat, by omega⟩
    rw [hc]
    simp only [Bool.false_eq_true, if_false]
    rw [if_pos (by omega), Int.toNat_natCast]
    obtain ⟨r, h2, h3⟩ := fill_hard l keep hk (by omega) m (by omega)
    rw [h2, fill_count keep hk m (by omega), marks_ref l (by omega)]
    simp only [Option.bind_some]
    by_cases he : cnt keep m = l.length
    · rw [if_neg (by simp [he]), fill_ref2 l keep hk m (by omega) he]
      cases r with
      | inl q =>
        simp only at h3
        simp only [sm]
        rw [if_neg (by rw [h3.1, he]; simp)]
        exact ⟨_, _, rfl, by rw [h3.2.1]; rfl, by rw [h3.2.1]; simp; omega⟩
      | inr q => simp only at h3; omega
    · rw [if_pos (by simp; omega)]
      cases r with
      | inl q =>
        simp only at h3
        simp only [sm]
        rw [if_pos (by rw [h3.1]; simp; omega)]
        exact ⟨_, _, rfl, rfl, by simp⟩
      | inr q =>
        simp only at h3
        simp only [sm]
        rw [h3.1]
        exact ⟨_, _, rfl, rfl, by simp⟩
  · have hc : ((!decide (true ∈ keep ∧ keep.length ≤ 64) || decide (n < 0)) || decide (32768 < n)) = true := by
      by_cases h1 : true ∈ keep ∧ keep.length ≤ 64
      · simp only [h1, true_and, and_self, decide_true, Bool.not_true, Bool.false_or, Bool.or_eq_true, decide_eq_true_eq] at hp ⊢
        omega
      · simp [h1]
    rw [hc, if_pos rfl, if_pos rfl]
    exact ⟨_, _, rfl, rfl, by simp⟩

theorem bits_self (a : List Bool) (h : a.length < 140737488351233) : f_foghornlaw22_sameBits a a = some true := by
  unfold f_foghornlaw22_sameBits
  rw [if_neg (by simp)]
  have := loop_same (f := f_foghornlaw22_sameBits.s1 a a) a (· != ·) (by simp) (by omega) false (fun i => rfl)
  rw [this]; rfl
theorem marks_self (a : List Int) (h : a.length < 140737488351233) : f_foghornlaw22_sameMarks a a = some true := by
  unfold f_foghornlaw22_sameMarks
  rw [if_neg (by simp)]
  have := loop_same (f := f_foghornlaw22_sameMarks.s1 a a) a (· != ·) (by simp) (by omega) false (fun i => rfl)
  rw [this]; rfl

theorem flip_some (y : List Bool) (h : y.length < 140737488351233) : ∃ z, loop f_foghornlaw22_HardThins.s1 (y, 0) = some z := by
  have := loop_inv (f := f_foghornlaw22_HardThins.s1) (fun s : List Bool × Int => s.1.length = y.length ∧ 0 ≤ s.2 ∧ s.2 ≤ s.1.length) (fun s => s.1.length - s.2.toNat) (fun z : Unit => True) ?_ (y, 0) ⟨rfl, by simp, by simp⟩
  · obtain ⟨r, h, _⟩ := this; exact ⟨r, h⟩
  rintro ⟨x, k⟩ ⟨h1, h2, h3⟩
  simp only at h1 h2 h3
  by_cases hk : k < x.length
  · left
    refine ⟨(x.set k.toNat (!gt x k), k + 1), ?_, ⟨by simpa using h1, by simp; omega, by simp; omega⟩, by simp; omega⟩
    simp only [f_foghornlaw22_HardThins.s1, f_foghornlaw22_HardThins.s1c]
    rw [if_pos (by simpa using hk), if_pos (by omega), if_pos (by omega), w64 (by omega) (by omega)]
  · right
    refine ⟨(), ?_, trivial⟩
    simp only [f_foghornlaw22_HardThins.s1, f_foghornlaw22_HardThins.s1c]
    rw [if_neg (by simpa using hk)]

theorem thins_true (l : List Bool) (w0 : ∀ x ∈ l, True) (r0 : l.length * 1 ≤ 140737488351232) (keep : List Bool) (w1 : ∀ x ∈ keep, True) (r1 : keep.length * 1 ≤ 140737488351232)
    (less : List Bool) (w2 : ∀ x ∈ less, True) (r2 : less.length * 1 ≤ 140737488351232) (n : Int) (w3 : (Lit.int .i64 n).wf = true) : f_foghornlaw22_HardThins l keep less n = some true := by
  unfold f_foghornlaw22_HardThins
  simp only [List.nil_append, List.length_nil, Nat.zero_add]
  rw [if_pos (by omega), if_pos (by omega)]
  obtain ⟨x, e, h1, h2, h3⟩ := thin_same l keep (by omega) (by omega)
  obtain ⟨y, f, h4, h5, h6⟩ := fill_same less keep n (by omega) (by omega)
  obtain ⟨z, h7⟩ := flip_some x (by omega)
  have hm : (marks l).length = l.length := by simp [marks]
  rw [h1, h2, h4, h5]
  simp only [Option.bind_some, bits_self x (by omega), marks_self y (by omega), marks_hard l (by omega), marks_ref l (by omega), marks_self (marks l) (by omega), bits_self keep (by omega), bits_self l (by omega), h7,
    Bool.not_true, bne_self_eq_false, Bool.or_false, Bool.false_eq_true, if_false]
end Go.Proofs.Ythajdlihjobcoaa
