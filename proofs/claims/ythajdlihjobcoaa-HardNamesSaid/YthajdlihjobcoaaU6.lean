/- HardThinned: the plain law. -/
import Derived.Test.YthajdlihjobcoaaU5
set_option linter.unusedVariables false
set_option linter.unusedSimpArgs false
set_option maxRecDepth 8000
namespace Go.Proofs.Ythajdlihjobcoaa
open GL

def thinL (l keep : List Bool) : Nat → List Bool
  | 0 => []
  | i + 1 => thinL l keep i ++ if keepAt keep i then [gt l (i : Int)] else []
theorem thinL_len (l keep : List Bool) : ∀ i, (thinL l keep i).length = cnt keep i
  | 0 => rfl
  | i + 1 => by simp only [thinL, cnt, List.length_append, thinL_len l keep i]; split <;> simp
theorem cnt_mono' (keep : List Bool) {i j : Nat} (h : i ≤ j) : cnt keep i ≤ cnt keep j := by
  obtain ⟨d, rfl⟩ := Nat.exists_eq_add_of_le h
  exact cnt_mono keep d i
theorem thinL_get (l keep : List Bool) : ∀ i j, j < i → keepAt keep j = true → gt (thinL l keep i) ((cnt keep j : Nat) : Int) = gt l (j : Int)
  | 0, j, h, _ => by omega
  | i + 1, j, h, hk => by
    have hl := thinL_len l keep i
    by_cases hj : j < i
    · have hc : cnt keep j < cnt keep i := by
        have := cnt_mono' keep (show j + 1 ≤ i by omega)
        rw [cnt, if_pos hk] at this; omega
      rw [← thinL_get l keep i j hj hk, gt_nat (by rw [thinL_len, cnt]; omega), gt_nat (by omega)]
      simp only [thinL]
      rw [List.getElem_append_left (by omega)]
    · obtain rfl : j = i := by omega
      rw [gt_nat (by rw [thinL_len, cnt, if_pos hk]; omega)]
      simp only [thinL, hk, if_true]
      rw [List.getElem_append_right (by omega)]
      simp [hl]
theorem thinL_all (l : List Bool) : ∀ i, i ≤ l.length → thinL l [true] i = l.take i
  | 0, _ => by simp [thinL]
  | i + 1, h => by
    have hk : keepAt [true] i = true := by
      unfold keepAt
      rw [show (([true] : List Bool).length : Int) = ((1 : Nat) : Int) from rfl, tmod_nat, Nat.mod_one]; rfl
    simp only [thinL, hk, if_true]
    rw [thinL_all l i (by omega), List.take_succ_eq_append_getElem (by omega), gt_nat (by omega)]
theorem thin_ok (l keep : List Bool) (hl : l.length ≤ 32768) (hk : true ∈ keep) (hk2 : keep.length ≤ 64) : f_hard_Thin l keep = some (thinL l keep l.length, 0) := by
  have hk0 : 0 < keep.length := List.length_pos_of_mem hk
  unfold f_hard_Thin
  rw [if_neg (by simp; omega), pattern_hard keep (by omega)]
  simp only [Option.bind_some, hk, hk2, and_self, decide_true, Bool.not_true, Bool.false_eq_true, if_false]
  have := loop_for (f := f_hard_Thin.s1 l keep) l.length (fun i => thinL l keep i) (thinL l keep l.length) (fun i hi => ?_) ?_
  · rw [show thinL l keep 0 = [] from rfl] at this
    rw [this]; rfl
  · have hb := keepAt_bd keep hk0 i
    have hlen := thinL_len l keep i
    have hcl := cnt_le keep i
    simp only [f_hard_Thin.s1, f_hard_Thin.s1c]
    rw [if_pos (by simpa using hi), if_pos (by omega), if_pos (by omega), if_pos hb, w64 (by omega) (by omega), show gt keep ((i : Int).tmod keep.length) = keepAt keep i from rfl]
    by_cases h : keepAt keep i = true
    · rw [if_pos h, if_pos (by simp only [List.length_cons, List.length_nil]; omega)]
      simp only [thinL, h, if_true]; rfl
    · rw [if_neg h]
      simp only [thinL, h]; simp
  · simp only [f_hard_Thin.s1, f_hard_Thin.s1c]
    rw [if_neg (by simp)]
theorem thinned_true (l0 : List Bool) (w0 : ∀ x ∈ l0, True) (r0 : l0.length * 1 ≤ 140737488351232) (keep0 : List Bool) (w1 : ∀ x ∈ keep0, True) (r1 : keep0.length * 1 ≤ 140737488351232) :
    f_foghornlaw22_HardThinned l0 keep0 = some true := by
  have e1 : imin (l0.length : Int) 32768 = ((min l0.length 32768 : Nat) : Int) := imin_nat l0.length 32768
  have e2 : imin (keep0.length : Int) 63 = ((min keep0.length 63 : Nat) : Int) := imin_nat keep0.length 63
  obtain ⟨l, hl⟩ : ∃ l, l = [] ++ (l0.drop 0).take ((imin (l0.length : Int) 32768).toNat - 0) := ⟨_, rfl⟩
  obtain ⟨keep, hk⟩ : ∃ k, k = ([] ++ (keep0.drop 0).take ((imin (keep0.length : Int) 63).toNat - 0)) ++ [true] := ⟨_, rfl⟩
  have hl1 : l.length ≤ 32768 := by rw [hl, e1]; simp; omega
  have hk1 : true ∈ keep := by rw [hk]; simp
  have hk2 : keep.length ≤ 64 := by rw [hk, e2]; simp; omega
  have hk0 : 0 < keep.length := List.length_pos_of_mem hk1
  unfold f_foghornlaw22_HardThinned
  rw [works_true]
  simp only [Option.bind_some, Bool.not_true, Bool.false_eq_true, if_false]
  have c1 : ((([] : List Bool).length + ((l0.drop 0).take ((imin (l0.length : Int) 32768).toNat - 0)).length) * 1 ≤ 140737488355328) := by rw [e1]; simp; omega
  have c2 : ((([] : List Bool).length + ((keep0.drop 0).take ((imin (keep0.length : Int) 63).toNat - 0)).length) * 1 ≤ 140737488355328) := by rw [e2]; simp; omega
  have c3 : ((([] : List Bool) ++ ((keep0.drop 0).take ((imin (keep0.length : Int) 63).toNat - 0))).length + ([true] : List Bool).length) * 1 ≤ 140737488355328 := by rw [e2]; simp; omega
  rw [if_pos (by rw [e1]; omega), if_pos c1, if_pos (by rw [e2]; omega), if_pos c2, if_pos c3, ← hl, ← hk]
  rw [thin_ok l keep hl1 hk1 hk2, thin_ok l [true] hl1 (by simp) (by decide), thinL_all l l.length (Nat.le_refl _), List.take_length]
  simp only [Option.bind_some]
  have hcl := cnt_le keep l.length
  have htl := thinL_len l keep l.length
  rw [fill_ok (thinL l keep l.length) keep l.length hl1 (by omega) hk1 hk2 htl.symm]
  simp only [Option.bind_some]
  rw [if_neg (by simp), bits_self l (by omega)]
  simp only [Option.bind_some]
  rw [if_neg (by simp; omega)]
  have hm : ∀ i : Nat, i < l.length → gt ((List.range l.length).map (mkF (thinL l keep l.length) keep)) (i : Int) = if keepAt keep i = true then (if gt l (i : Int) = true then 1 else 0) else 2 := fun i hi => by
    rw [gt_nat (by simpa using hi)]
    simp only [List.getElem_map, List.getElem_range, mkF]
    by_cases h : keepAt keep i = true
    · rw [if_pos h, if_pos h, thinL_get l keep l.length i hi h]
    · rw [if_neg h, if_neg h]
  have hml : ((List.range l.length).map (mkF (thinL l keep l.length) keep)).length = l.length := by simp
  obtain ⟨M, hM⟩ : ∃ M, M = (List.range l.length).map (mkF (thinL l keep l.length) keep) := ⟨_, rfl⟩
  rw [← hM] at hm hml ⊢
  have key := loop_for1 (f := f_foghornlaw22_HardThinned.s1 l0 keep0 (M, 0)) l.length (.inl ()) (fun i hi => ?_) ?_
  · rw [key]; rfl
  · have hb := keepAt_bd keep hk0 i
    have hka : gt keep ((i : Int).tmod keep.length) = keepAt keep i := rfl
    have j2 : ∀ w, w = gt M (i : Int) → f_foghornlaw22_HardThinned.j2 (M, 0) (i : Int) w = some (.inl ((i + 1 : Nat) : Int)) := fun w hw => by
      unfold f_foghornlaw22_HardThinned.j2
      simp only
      rw [if_pos (by omega), hw, if_neg (by simp), w64 (by omega) (by omega)]; rfl
    have j1 : ∀ w, (keepAt keep i = true → w = gt M (i : Int)) → f_foghornlaw22_HardThinned.j1 keep0 (M, 0) (i : Int) w = some (.inl ((i + 1 : Nat) : Int)) := fun w hw => by
      unfold f_foghornlaw22_HardThinned.j1
      rw [← hk, if_pos (by omega), if_pos hb, hka]
      by_cases h : keepAt keep i = true
      · rw [h, if_neg (by simp), j2 w (hw h)]
      · rw [if_pos (by simpa using h), j2 2 (by rw [hm i hi, if_neg h])]
    simp only [f_foghornlaw22_HardThinned.s1, f_foghornlaw22_HardThinned.s1c]
    rw [← hl, if_pos (by simpa using hi), if_pos (by omega)]
    by_cases hg : gt l (i : Int) = true
    · rw [if_pos hg, j1 1 (fun h => by rw [hm i hi, if_pos h, if_pos hg])]
    · rw [if_neg hg, j1 0 (fun h => by rw [hm i hi, if_pos h, if_neg hg])]
  · simp only [f_foghornlaw22_HardThinned.s1, f_foghornlaw22_HardThinned.s1c]
    rw [← hl, if_neg (by simp)]

end Go.Proofs.Ythajdlihjobcoaa
