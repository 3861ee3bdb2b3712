/- WeaveMarks: the plain law. -/
import Derived.Test.YthoigfonjpmibaaG4
import Derived.Test.YthoigfonjpmibaaGlK
import Derived.Test.YthoigfonjpmibaaGlJ
set_option linter.unusedVariables false
namespace Go.Proofs.Ythoigfonjpmibaa
open GL

theorem marks_s1_eq (lost : List Int) (s : List Bool × Int) : f_weave_Marks.s1 lost s = f_foghornref17_Marks.s1 lost s := by
  obtain ⟨g, i⟩ := s
  simp only [f_weave_Marks.s1, f_weave_Marks.s1c, f_foghornref17_Marks.s1, f_foghornref17_Marks.s1c]
  by_cases h : i < (lost.length : Int)
  · simp only [h, decide_true, if_true, and_true]
    by_cases h0 : 0 ≤ i
    · simp only [h0, if_true]
      by_cases h1 : gt lost i < 0
      · simp [h1]
      · by_cases h2 : (g.length : Int) ≤ gt lost i
        · simp [h1, h2]
        · simp [h1, h2]
    · simp [h0]
  · simp [h]
theorem marks_eq (lost : List Int) (c l : Int) : f_weave_Marks lost c l = f_foghornref17_Marks lost c l := by
  have e : f_weave_Marks.s1 lost = f_foghornref17_Marks.s1 lost := funext fun s => marks_s1_eq lost s
  unfold f_weave_Marks f_foghornref17_Marks
  rw [e]
  rfl

theorem marks_loop1 (lost : List Int) (hl : (lost.length : Int) < 9223372036854775807) (n : Nat) : ∀ (k i : Nat) (g : List Bool), i + k = lost.length → g.length = n →
    ∃ q, loop (f_foghornref17_Marks.s1 lost) (g, (i : Int)) = some q ∧ (∀ g', q = .inl g' → g'.length = n) ∧ (∀ r, q = .inr r → r = ([], 1)) := by
  intro k
  induction k with
  | zero =>
    intro i g hi hg
    refine ⟨.inl g, loop_done ?_, fun g' h => by injection h with h; subst h; exact hg, fun r h => by cases h⟩
    simp only [f_foghornref17_Marks.s1, f_foghornref17_Marks.s1c]
    rw [if_neg (by simp; omega)]
  | succ k ih =>
    intro i g hi hg
    have hb : 0 ≤ (i : Int) ∧ (i : Int) < (lost.length : Int) := by omega
    by_cases h1 : gt lost (i : Int) < 0 ∨ (g.length : Int) ≤ gt lost i
    · refine ⟨.inr ([], 1), loop_done ?_, fun g' h => (by cases h), fun r h => by injection h with h; exact h.symm⟩
      simp only [f_foghornref17_Marks.s1, f_foghornref17_Marks.s1c]
      rw [if_pos (by simp; omega), if_pos hb]
      rcases h1 with h1 | h1
      · simp [h1]
      · by_cases h2 : gt lost (i : Int) < 0
        · simp [h2]
        · simp [h1, h2, hb.2]
    · have h2 : ¬ gt lost (i : Int) < 0 := fun h => h1 (.inl h)
      have h3 : ¬ (g.length : Int) ≤ gt lost i := fun h => h1 (.inr h)
      have hc : 0 ≤ gt lost (i : Int) ∧ gt lost (i : Int) < (g.length : Int) := by omega
      by_cases h4 : gt g (gt lost (i : Int)) = true
      · refine ⟨.inr ([], 1), loop_done ?_, fun g' h => (by cases h), fun r h => by injection h with h; exact h.symm⟩
        simp only [f_foghornref17_Marks.s1, f_foghornref17_Marks.s1c]
        rw [if_pos (by simp; omega), if_pos hb]
        simp only [h2, decide_false, Bool.false_eq_true, if_false, hb, and_self, if_true, h3, Option.bind_some, hc, h4]
      · obtain ⟨q, e1, e2⟩ := ih (i + 1) (g.set (gt lost (i : Int)).toNat true) (by omega) (by simpa using hg)
        refine ⟨q, ?_, e2⟩
        rw [loop_step (s' := (g.set (gt lost (i : Int)).toNat true, ((i + 1 : Nat) : Int)))]
        · exact e1
        · have h5 : gt g (gt lost (i : Int)) = false := by simpa using h4
          simp only [f_foghornref17_Marks.s1, f_foghornref17_Marks.s1c]
          rw [if_pos (by simp; omega), if_pos hb]
          simp only [h2, decide_false, Bool.false_eq_true, if_false, hb, and_self, if_true, h3, Option.bind_some, hc, h5]
          rw [w64 (by omega) (by omega)]
          rfl

theorem marks_loop2 (c : Int) (hc : 1 ≤ c) (hc2 : c ≤ 255) (g : List Bool) (hg : g.length ≤ 65025) : ∀ (k i : Nat) (out : List (List Int)), i + k = g.length → (out.length : Int) = c →
    (∀ x ∈ out, x.length ≤ i) → ∃ q, loop (f_foghornref17_Marks.s2 c g) (out, (i : Int)) = some q ∧ (∀ x ∈ q, x.length ≤ 65025) ∧ q.length ≤ 255 := by
  intro k
  induction k with
  | zero =>
    intro i out hi hl hx
    refine ⟨out, loop_done ?_, fun x h => by have := hx x h; omega, by omega⟩
    simp only [f_foghornref17_Marks.s2, f_foghornref17_Marks.s2c]
    rw [if_neg (by simp; omega)]
  | succ k ih =>
    intro i out hi hl hx
    have hb : 0 ≤ (i : Int) ∧ (i : Int) < (g.length : Int) := by omega
    have hm1 := Int.emod_nonneg (i : Int) (show c ≠ 0 by omega)
    have hm2 := Int.emod_lt_of_pos (i : Int) (show 0 < c by omega)
    have e : (i : Int).tmod c = (i : Int) % c := Int.tmod_eq_emod_of_nonneg (by omega)
    by_cases h1 : gt g (i : Int) = true
    · have hrow : (gt out ((i : Int) % c)).length ≤ i := hx _ (gt_mem hm1 (by omega))
      obtain ⟨q, e1, e2⟩ := ih (i + 1) (out.set ((i : Int) % c).toNat (gt out ((i : Int) % c) ++ [IntKind.i64.wrap ((i : Int).tdiv c)])) (by omega) (by simpa using hl) (fun x h => by
        rcases List.mem_or_eq_of_mem_set h with h | h
        · have := hx x h; omega
        · subst h; simp; exact hrow)
      refine ⟨q, ?_, e2⟩
      rw [loop_step (s' := (out.set ((i : Int) % c).toNat (gt out ((i : Int) % c) ++ [IntKind.i64.wrap ((i : Int).tdiv c)]), ((i + 1 : Nat) : Int)))]
      · exact e1
      · simp only [f_foghornref17_Marks.s2, f_foghornref17_Marks.s2c]
        rw [if_pos (by simp; omega), if_pos hb, if_pos h1, if_pos (by omega), if_pos (by omega), e, if_pos (by omega), if_pos (by omega),
          if_pos (by simp; omega), if_pos (by omega), w64 (x := (i : Int) + 1) (by omega) (by omega)]
        rfl
    · obtain ⟨q, e1, e2⟩ := ih (i + 1) out (by omega) hl (fun x h => by have := hx x h; omega)
      refine ⟨q, ?_, e2⟩
      rw [loop_step (s' := (out, ((i + 1 : Nat) : Int)))]
      · exact e1
      · simp only [f_foghornref17_Marks.s2, f_foghornref17_Marks.s2c]
        rw [if_pos (by simp; omega), if_pos hb, if_neg h1, w64 (x := (i : Int) + 1) (by omega) (by omega)]
        rfl

theorem marks_some (lost : List Int) (c l : Int) (hl : (lost.length : Int) < 9223372036854775807) :
    ∃ r, f_foghornref17_Marks lost c l = some r ∧ (∀ x ∈ r.1, x.length ≤ 65025) ∧ r.1.length ≤ 255 := by
  unfold f_foghornref17_Marks f_foghornref17_Of
  simp only [Option.bind_some]
  split
  · exact ⟨_, rfl, by simp, by simp⟩
  · rename_i h
    simp only [Bool.or_eq_true, Bool.not_eq_true', decide_eq_true_eq, not_or, Bool.not_eq_false, Bool.and_eq_true] at h
    obtain ⟨⟨⟨⟨h1, h2⟩, h3⟩, h4⟩, h5⟩ := h
    have hm : 1 ≤ c * l ∧ c * l ≤ 65025 := by
      constructor
      · have := Int.mul_le_mul h1 h3 (by omega) (by omega); omega
      · have := Int.mul_le_mul h2 h4 (by omega) (by omega); omega
    rw [w64 (x := c * l) (by omega) (by omega)] at *
    rw [if_pos (by omega)]
    obtain ⟨q, e1, e2, e3⟩ := marks_loop1 lost hl (c * l).toNat lost.length 0 (List.replicate (c * l).toNat false) (by omega) (by simp)
    rw [show ((0 : Nat) : Int) = 0 from rfl] at e1
    rw [e1]
    simp only [Option.bind_some]
    cases q with
    | inr r =>
      obtain rfl := e3 r rfl
      exact ⟨_, rfl, by simp, by simp⟩
    | inl g =>
      have hg := e2 g rfl
      simp only [sm]
      rw [if_pos (by omega)]
      obtain ⟨q, k1, k2, k3⟩ := marks_loop2 c h1 h2 g (by omega) g.length 0 (List.replicate c.toNat []) (by omega) (by simp; omega) (fun x h => by have := List.eq_of_mem_replicate h; subst this; simp)
      rw [show ((0 : Nat) : Int) = 0 from rfl] at k1
      rw [k1]
      exact ⟨_, rfl, k2, k3⟩

theorem numbers_same (a : List Int) (hl : (a.length : Int) < 9223372036854775807) : f_foghornref17_Numbers a a = some true := by
  unfold f_foghornref17_Numbers
  rw [if_neg (by simp), loop_same (f := f_foghornref17_Numbers.s1 a a) a (fun x y => x != y) (fun x => by simp) hl false (fun i => rfl)]
  rfl
theorem lists_same (a : List (List Int)) (hl : (a.length : Int) < 9223372036854775807) (hx : ∀ x ∈ a, (x.length : Int) < 9223372036854775807) : f_foghornref17_Lists a a = some true := by
  have key : loop (f_foghornref17_Lists.s1 a a) 0 = some (.inl ()) := by
    refine loop_for1 a.length (Sum.inl ()) (fun i hi => ?_) ?_
    · simp only [f_foghornref17_Lists.s1, f_foghornref17_Lists.s1c]
      rw [if_pos (by simpa using hi), if_pos (by omega), if_pos (by omega), numbers_same _ (hx _ (gt_mem (by omega) (by omega)))]
      simp only [Option.bind_some, Bool.not_true, Bool.false_eq_true, if_false]
      rw [w64 (by omega) (by omega)]; rfl
    · simp only [f_foghornref17_Lists.s1, f_foghornref17_Lists.s1c]
      rw [if_neg (by simp)]
  unfold f_foghornref17_Lists
  rw [if_neg (by simp), key]
  rfl

theorem law_loop2 (l : List Int) (hl : (l.length : Int) < 9223372036854775807) : ∃ m : List Int, loop f_foghornlaw17_WeaveMarks.s2 (l, 0) = some m ∧ m.length = l.length := by
  have : ∀ (k i : Nat) (m : List Int), i + k = l.length → m.length = l.length → ∃ m' : List Int, loop f_foghornlaw17_WeaveMarks.s2 (m, (i : Int)) = some m' ∧ m'.length = l.length := by
    intro k
    induction k with
    | zero =>
      intro i m hi hm
      refine ⟨m, loop_done ?_, hm⟩
      simp only [f_foghornlaw17_WeaveMarks.s2, f_foghornlaw17_WeaveMarks.s2c]
      rw [if_neg (by simp; omega)]
    | succ k ih =>
      intro i m hi hm
      rw [loop_step (s' := (m.set i (-1), ((i + 1 : Nat) : Int)))]
      · exact ih (i + 1) _ (by omega) (by simpa using hm)
      · simp only [f_foghornlaw17_WeaveMarks.s2, f_foghornlaw17_WeaveMarks.s2c]
        rw [if_pos (by simp; omega), if_pos (by omega), w64 (by omega) (by omega)]; rfl
  exact this l.length 0 l (by omega) rfl
theorem law_loop3 (l : List Int) (hl : l.length ≤ 65025) : ∃ m : List Int, loop f_foghornlaw17_WeaveMarks.s3 (l, 0) = some m ∧ m.length = l.length + 20 := by
  refine ⟨l ++ List.replicate 20 (-2), ?_, by simp⟩
  have := loop_for (f := f_foghornlaw17_WeaveMarks.s3) 20 (fun i => l ++ List.replicate i (-2)) (l ++ List.replicate 20 (-2)) (fun i hi => ?_) ?_
  · simpa using this
  · simp only [f_foghornlaw17_WeaveMarks.s3, f_foghornlaw17_WeaveMarks.s3c]
    rw [if_pos (by simp; omega), if_pos (by simp; omega), w64 (by omega) (by omega)]
    simp [List.replicate_succ', List.append_assoc]
  · simp only [f_foghornlaw17_WeaveMarks.s3, f_foghornlaw17_WeaveMarks.s3c]
    rw [if_neg (by simp)]

/-- 'i' rows are gone. -/
def osAt (xs : List (List Int)) (i : Nat) : List (Option (List Int)) := List.replicate i none ++ (xs.drop i).map some
theorem osAt_len (xs : List (List Int)) {i : Nat} (h : i ≤ xs.length) : (osAt xs i).length = xs.length := by simp [osAt]; omega
theorem osAt_set (xs : List (List Int)) {i : Nat} (h : i < xs.length) : (osAt xs i).set i none = osAt xs (i + 1) := by
  unfold osAt
  rw [List.drop_eq_getElem_cons h, List.set_append_right _ _ (by simp), List.replicate_succ', List.length_replicate, Nat.sub_self, List.map_cons, List.set_cons_zero, List.append_assoc]
  rfl
theorem osAt_get (xs : List (List Int)) {i : Nat} (h : i < xs.length) : gtO (osAt xs i) (i : Int) = some (gt xs (i : Int)) := by
  unfold gtO osAt
  rw [Int.toNat_natCast, List.getElem?_append_right (by simp), gt_nat h, List.length_replicate, Nat.sub_self, List.drop_eq_getElem_cons h]
  rfl
theorem osAt_drop (xs : List (List Int)) {i : Nat} (h : i ≤ xs.length) : (osAt xs i).drop i = (xs.drop i).map some := by
  unfold osAt
  rw [List.drop_append_of_le_length (by simp)]; simp

theorem weaveMarks_true (lost : List Int) (w : ∀ x ∈ lost, GL.wf .i64 x) (r : lost.length * 8 ≤ 140737488351232) (c : Int) (wc : (Lit.int .i64 c).wf = true) (l : Int) (wl : (Lit.int .i64 l).wf = true) :
    f_foghornlaw17_WeaveMarks lost c l = some true := by
  have hl : (lost.length : Int) < 9223372036854775807 := by omega
  obtain ⟨q, e1, e2, e3⟩ := marks_some lost c l hl
  have et : ((((([] : List Int) ++ lost) ++ [(987 : Int)]) ++ ([] : List Int)).take (((lost.length : Int)).toNat)) = lost := by simp
  have ed : ((((([] : List Int) ++ lost) ++ [(987 : Int)]) ++ ([] : List Int)).drop (((lost.length : Int)).toNat)) = [987] := by simp
  have hls := lists_same q.1 (by omega) (fun x h => by have := e2 x h; omega)
  have hns := numbers_same lost hl
  unfold f_foghornlaw17_WeaveMarks
  rw [if_pos (by simp; omega), if_pos (by simp; omega), if_pos (by simp; omega), et, ed, marks_eq, e1]
  simp only [Option.bind_some, bne_self_eq_false, Bool.or_self, Bool.false_eq_true, if_false, hls, Bool.not_true, hns]
  rw [w64 (x := (lost.length : Int) + 1) (by omega) (by omega)]
  have e5 : ((lost ++ [(987 : Int)]).take ((lost.length : Int) + 1).toNat) = lost ++ [987] := List.take_of_length_le (by simp)
  rw [if_pos (by simp; omega), e5, if_pos (by simp; omega)]
  have e6 : gt (lost ++ [(987 : Int)]) (lost.length : Int) = 987 := by rw [gt_nat (by simp)]; simp
  simp only [e6, Option.bind_some, bne_self_eq_false, Bool.false_eq_true, if_false]
  have key := loop_for (f := f_foghornlaw17_WeaveMarks.s1 q q) q.1.length (fun i => osAt q.1 i) (.inl ()) (fun i hi => ?_) ?_
  · have h0 : osAt q.1 0 = q.1.map some := by simp [osAt]
    rw [h0] at key
    rw [key]; rfl
  · have hli := osAt_len q.1 (Nat.le_of_lt hi)
    have hrow : (gt q.1 (i : Int)).length ≤ 65025 := e2 _ (gt_mem (by omega) (by omega))
    obtain ⟨m1, k1, k2⟩ := law_loop2 (gt q.1 (i : Int)) (by omega)
    obtain ⟨m2, k3, k4⟩ := law_loop3 m1 (by omega)
    have hls2 := lists_same (q.1.drop (i + 1)) (by simp; omega) (fun x h => by have := e2 x (List.mem_of_mem_drop h); omega)
    simp only [f_foghornlaw17_WeaveMarks.s1, f_foghornlaw17_WeaveMarks.s1c]
    rw [if_pos (by simp; omega), if_pos (by omega), osAt_get _ hi]
    simp only [Option.bind_some]
    rw [k1]
    simp only [Option.bind_some]
    rw [k3]
    simp only [Option.bind_some]
    rw [if_neg (by simp; omega), w64 (x := (i : Int) + 1) (by omega) (by omega), Int.toNat_natCast, osAt_set _ hi, osAt_len _ (by omega)]
    have et : ((i : Int) + 1).toNat = i + 1 := by omega
    rw [et, osAt_drop _ (by omega), if_pos (by omega)]
    have e7 : (((q.1.drop (i + 1)).map some).take (q.1.length - (i + 1))) = (q.1.drop (i + 1)).map some := List.take_of_length_le (by simp)
    have e8 : ((q.1.drop (i + 1)).take (q.1.length - (i + 1))) = q.1.drop (i + 1) := List.take_of_length_le (by simp)
    rw [e7, allS_map]
    simp only [Option.bind_some]
    rw [if_pos (by omega), e8, hls2]
    simp only [Option.bind_some, Bool.not_true, Bool.false_eq_true, if_false, hls]
    rfl
  · simp only [f_foghornlaw17_WeaveMarks.s1, f_foghornlaw17_WeaveMarks.s1c]
    rw [if_neg (by rw [osAt_len _ (Nat.le_refl _)]; simp)]
end Go.Proofs.Ythoigfonjpmibaa
