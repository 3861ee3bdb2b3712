/- WeavePlaces: the plain law. -/
import Derived.Test.YthoigfonjpmibaaG2
import Derived.Test.YthoigfonjpmibaaGlK
set_option linter.unusedVariables false
namespace Go.Proofs.Ythoigfonjpmibaa
open GL

theorem place_same : f_weave_Place = f_foghornref17_Place := rfl
theorem back_same : f_weave_Back = f_foghornref17_Back := rfl

theorem place_some (w a c l : Int) : ∃ r, f_foghornref17_Place w a c l = some r := by
  unfold f_foghornref17_Place f_foghornref17_Of
  simp only [Option.bind_some]
  split <;> exact ⟨_, rfl⟩
theorem back_some (p c l : Int) : ∃ r, f_foghornref17_Back p c l = some r := by
  unfold f_foghornref17_Back f_foghornref17_Of
  simp only [Option.bind_some]
  split
  · exact ⟨_, rfl⟩
  · rename_i h
    have : c ≠ 0 := by rintro rfl; simp at h
    rw [if_pos this, if_pos this]
    exact ⟨_, rfl⟩

/-- how many numbers below p leave k: up to a constant -/
def cd (c p k : Int) : Int := (p + c - 1 - k) / c
theorem cd_eq {c d m k : Int} (hm : 0 ≤ m) (hc : m < c) (hk : 0 ≤ k) (hkc : k < c) : cd c (c * d + m) k = if k < m then d + 1 else d := by
  unfold cd
  have hc0 : 0 < c := by omega
  rw [show c * d + m + c - 1 - k = (m + c - 1 - k) + c * d by omega, Int.add_mul_ediv_left _ _ (by omega)]
  split
  · rw [show m + c - 1 - k = (m - 1 - k) + c * 1 by omega, Int.add_mul_ediv_left _ _ (by omega), Int.ediv_eq_zero_of_lt (by omega) (by omega)]; omega
  · rw [Int.ediv_eq_zero_of_lt (by omega) (by omega)]; omega
theorem cd_step {c p k : Int} (hp : 0 ≤ p) (hk : 0 ≤ k) (hkc : k < c) : cd c (p + 1) k = cd c p k + (if k = p % c then 1 else 0) := by
  have hc0 : 0 < c := by omega
  have h1 := Int.emod_nonneg p (show c ≠ 0 by omega)
  have h2 := Int.emod_lt_of_pos p hc0
  have h3 := Int.mul_ediv_add_emod p c
  generalize p % c = m at *
  generalize p / c = d at *
  subst h3
  rw [cd_eq h1 h2 hk hkc]
  by_cases hm : m + 1 < c
  · rw [show c * d + m + 1 = c * d + (m + 1) by omega, cd_eq (by omega) hm hk hkc]
    split <;> split <;> split <;> omega
  · have : c * d + m + 1 = c * (d + 1) + 0 := by rw [Int.mul_add]; omega
    rw [this, cd_eq (by omega) hc0 hk hkc]
    split <;> split <;> split <;> omega
theorem cd_bd {c p k : Int} (hp : 0 ≤ p) (hk : 0 ≤ k) (hkc : k < c) : 0 ≤ cd c p k ∧ cd c p k ≤ p := by
  have hc0 : 0 < c := by omega
  unfold cd
  refine ⟨Int.ediv_nonneg (by omega) (by omega), ?_⟩
  apply Int.le_of_lt_add_one
  apply Int.ediv_lt_of_lt_mul hc0
  have : c * (p + 1) = c * p + c := by rw [Int.mul_add]; omega
  have h2 : p ≤ c * p := by
    have := Int.mul_le_mul_of_nonneg_right (show (1 : Int) ≤ c by omega) hp
    omega
  rw [Int.mul_comm]; omega

def burst (c from' p : Int) : List Int := (List.range c.toNat).map fun (k : Nat) => cd c p (k : Int) - cd c from' (k : Int)
theorem burst_len (c f p : Int) : (burst c f p).length = c.toNat := by simp [burst]
theorem burst_gt {c f p : Int} {k : Nat} (hk : k < c.toNat) : gt (burst c f p) (k : Int) = cd c p k - cd c f k := by
  rw [gt_nat (by rw [burst_len]; exact hk)]; simp [burst]

theorem hit_ref {from' to c l : Int} (hc : 1 ≤ c) (hc2 : c ≤ 255) (hf : 0 ≤ from') (ht : from' ≤ to) (ht2 : to ≤ 65025) :
    loop (f_foghornref17_Hit.s1 to c) (List.replicate c.toNat (0 : Int), from') = some (burst c from' to) := by
  have key : ∀ n : Nat, ∀ p : Int, from' ≤ p → p + n = to → loop (f_foghornref17_Hit.s1 to c) (burst c from' p, p) = some (burst c from' to) := by
    intro n
    induction n with
    | zero =>
      intro p hp hn
      obtain rfl : p = to := by omega
      apply loop_done
      simp [f_foghornref17_Hit.s1, f_foghornref17_Hit.s1c]
    | succ n ih =>
      intro p hp hn
      have hm1 := Int.emod_nonneg p (show c ≠ 0 by omega)
      have hm2 := Int.emod_lt_of_pos p (show 0 < c by omega)
      have e : p.tmod c = p % c := Int.tmod_eq_emod_of_nonneg (by omega)
      have hlen : ((burst c from' p).length : Int) = c := by rw [burst_len]; omega
      rw [loop_step (s' := (burst c from' (p + 1), p + 1))]
      · exact ih (p + 1) (by omega) (by omega)
      · simp only [f_foghornref17_Hit.s1, f_foghornref17_Hit.s1c]
        rw [if_pos (by simp; omega), if_pos (by omega), e, if_pos (by omega), if_pos (by omega), w64 (x := p + 1) (by omega) (by omega)]
        congr 3
        obtain ⟨j, hj⟩ : ∃ j : Nat, p % c = (j : Int) := ⟨(p % c).toNat, by omega⟩
        rw [hj, burst_gt (by omega)]
        have hb1 := cd_bd (c := c) (p := p) (k := j) (by omega) (by omega) (by omega)
        have hb2 := cd_bd (c := c) (p := from') (k := j) (by omega) (by omega) (by omega)
        rw [w64 (by omega) (by omega)]
        apply List.ext_getElem
        · simp [burst]
        · intro i h1 h2
          simp only [List.length_set, burst_len] at h1
          rw [List.getElem_set]
          simp only [burst, List.getElem_map, List.getElem_range, Int.toNat_natCast]
          have := cd_step (c := c) (p := p) (k := i) (by omega) (by omega) (by omega)
          rw [this, hj]
          split
          · rename_i h; subst h; simp; omega
          · rename_i h; rw [if_neg (by omega)]; omega
  have h0 : List.replicate c.toNat (0 : Int) = burst c from' from' := by
    apply List.ext_getElem
    · simp [burst]
    · intro i h1 h2; simp [burst]
  rw [h0]
  exact key (to - from').toNat from' (by omega) (by omega)

theorem hit_one {p k c : Int} (hk : 0 ≤ k) (hkc : k < c) (hc : c ≤ 255) (hp : 0 ≤ p) (hp2 : p ≤ 65025) : f_weave_Hit_1 p k c = some (cd c p k) := by
  unfold f_weave_Hit_1
  rw [if_pos (by omega)]
  rw [w64 (x := p + c) (by omega) (by omega), w64 (x := p + c - 1) (by omega) (by omega), w64 (x := p + c - 1 - k) (by omega) (by omega),
    Int.tdiv_eq_ediv_of_nonneg (by omega)]
  have := cd_bd (c := c) (p := p) (k := k) hp hk hkc
  have e : (p + c - 1 - k) / c = cd c p k := rfl
  rw [e, w64 (by omega) (by omega)]

theorem hit_own {from' to c : Int} (hc : 1 ≤ c) (hc2 : c ≤ 255) (hf : 0 ≤ from') (ht : from' ≤ to) (ht2 : to ≤ 65025) :
    loop (f_weave_Hit.s1 from' to c) (List.replicate c.toNat (0 : Int), 0) = some (burst c from' to) := by
  have := loop_for (f := f_weave_Hit.s1 from' to c) c.toNat (fun i => (burst c from' to).take i ++ List.replicate (c.toNat - i) 0) (burst c from' to) (fun i hi => ?_) ?_
  · simpa using this
  · simp only [f_weave_Hit.s1, f_weave_Hit.s1c, List.length_replicate]
    have hl : ((burst c from' to).take i ++ List.replicate (c.toNat - i) (0 : Int)).length = c.toNat := by simp [burst_len]; omega
    rw [if_pos (by rw [decide_eq_true_eq]; omega), hit_one (by omega) (by omega) (by omega) (by omega) (by omega), hit_one (by omega) (by omega) (by omega) (by omega) (by omega)]
    simp only [Option.bind_some]
    have h1 := cd_bd (c := c) (p := to) (k := i) (by omega) (by omega) (by omega)
    have h2 := cd_bd (c := c) (p := from') (k := i) (by omega) (by omega) (by omega)
    rw [if_pos (by rw [hl]; omega), w64 (x := (i : Int) + 1) (by omega) (by omega), w64 (x := cd c to i - cd c from' i) (by omega) (by omega)]
    congr 3
    apply List.ext_getElem
    · simp [burst_len]; omega
    · intro j h1 h2
      simp only [List.length_set, hl] at h1
      rw [List.getElem_set]
      simp only [Int.toNat_natCast, List.getElem_append, List.length_take, burst_len, List.getElem_take, List.getElem_replicate]
      split
      · rename_i h; subst h
        rw [dif_pos (by omega)]; simp [burst]
      · split
        · rw [dif_pos (by omega)]
        · rw [dif_neg (by omega)]
  · simp only [f_weave_Hit.s1, f_weave_Hit.s1c, List.length_replicate]
    rw [if_neg (by simp)]
    simp [burst_len, List.take_of_length_le]

theorem numbers_self (a : List Int) (h : (a.length : Int) < 9223372036854775807) : f_foghornref17_Numbers a a = some true := by
  unfold f_foghornref17_Numbers
  rw [if_neg (by simp)]
  have := loop_same (f := f_foghornref17_Numbers.s1 a a) a (· != ·) (by simp) h false (fun i => rfl)
  rw [this]; rfl

/-- Hit and its reference: one answer, of bounded length. -/
theorem hit_same (from' to c l : Int) : ∃ x e, f_foghornref17_Hit from' to c l = some (x, e) ∧ f_weave_Hit from' to c l = some (x, e) ∧ x.length ≤ 255 := by
  unfold f_foghornref17_Hit f_weave_Hit f_foghornref17_Of f_weave_may
  simp only [Option.bind_some]
  split
  · exact ⟨[], 1, rfl, rfl, by simp⟩
  · rename_i h
    simp only [Bool.or_eq_true, Bool.not_eq_true', Bool.and_eq_false_iff, decide_eq_true_eq, decide_eq_false_iff_not, not_or] at h
    have hc : 1 ≤ c ∧ c ≤ 255 ∧ 1 ≤ l ∧ l ≤ 255 := by omega
    have hmul : c * l ≤ 65025 := by
      have h1 := Int.mul_le_mul_of_nonneg_right hc.2.1 (show 0 ≤ l by omega)
      omega
    have hmul0 : 0 ≤ c * l := Int.mul_nonneg (by omega) (by omega)
    rw [w64 (x := c * l) (by omega) (by omega)] at h
    rw [if_pos (by omega), if_pos (by omega), hit_ref (l := l) (by omega) (by omega) (by omega) (by omega) (by omega), hit_own (by omega) (by omega) (by omega) (by omega) (by omega)]
    exact ⟨_, 0, rfl, rfl, by rw [burst_len]; omega⟩

theorem fill_some (y : List Int) (h : y.length ≤ 255) : ∃ z, loop f_foghornlaw17_WeavePlaces.s1 (y, 0) = some z ∧ z.length = y.length := by
  refine loop_inv (fun s : List Int × Int => s.1.length = y.length ∧ 0 ≤ s.2 ∧ s.2 ≤ s.1.length) (fun s => s.1.length - s.2.toNat) (fun z : List Int => z.length = y.length) ?_ _ ⟨rfl, by simp, by simp⟩
  rintro ⟨x, k⟩ ⟨h1, h2, h3⟩
  simp only at h1 h2 h3
  by_cases hk : k < x.length
  · left
    refine ⟨(x.set k.toNat (-1), k + 1), ?_, ⟨by simpa using h1, by simp; omega, by simp; omega⟩, by simp; omega⟩
    simp only [f_foghornlaw17_WeavePlaces.s1, f_foghornlaw17_WeavePlaces.s1c]
    rw [if_pos (by simpa using hk), if_pos (by omega), w64 (by omega) (by omega)]
  · right
    refine ⟨x, ?_, h1⟩
    simp only [f_foghornlaw17_WeavePlaces.s1, f_foghornlaw17_WeavePlaces.s1c]
    rw [if_neg (by simpa using hk)]
theorem grow_some (y : List Int) (h : y.length ≤ 255) : ∃ z, loop f_foghornlaw17_WeavePlaces.s2 (y, 0) = some z ∧ z.length = y.length + 20 := by
  refine loop_inv (fun s : List Int × Int => 0 ≤ s.2 ∧ s.2 ≤ 20 ∧ s.1.length = y.length + s.2.toNat) (fun s => 20 - s.2.toNat) (fun z : List Int => z.length = y.length + 20) ?_ _ ⟨by simp, by simp, by simp⟩
  rintro ⟨x, k⟩ ⟨h1, h2, h3⟩
  simp only at h1 h2 h3
  by_cases hk : k < 20
  · left
    refine ⟨(x ++ [-2], k + 1), ?_, ⟨by simp; omega, by simp; omega, by simp; omega⟩, by simp; omega⟩
    simp only [f_foghornlaw17_WeavePlaces.s2, f_foghornlaw17_WeavePlaces.s2c]
    rw [if_pos (by simpa using hk), if_pos (by simp; omega), w64 (by omega) (by omega)]
  · right
    refine ⟨x, ?_, by omega⟩
    simp only [f_foghornlaw17_WeavePlaces.s2, f_foghornlaw17_WeavePlaces.s2c]
    rw [if_neg (by simpa using hk)]

theorem places_true (a0 : Int) (w0 : (Lit.int .i64 a0).wf = true) (a1 : Int) (w1 : (Lit.int .i64 a1).wf = true) (a2 : Int) (w2 : (Lit.int .i64 a2).wf = true) (a3 : Int) (w3 : (Lit.int .i64 a3).wf = true)
    (a4 : Int) (w4 : (Lit.int .i64 a4).wf = true) (a5 : Int) (w5 : (Lit.int .i64 a5).wf = true) (a6 : Int) (w6 : (Lit.int .i64 a6).wf = true) :
    f_foghornlaw17_WeavePlaces a0 a1 a2 a3 a4 a5 a6 = some true := by
  unfold f_foghornlaw17_WeavePlaces
  obtain ⟨p, hp⟩ := place_some a0 a1 a2 a3
  obtain ⟨q, hq⟩ := back_some a4 a2 a3
  obtain ⟨x, e, h1, h2, h3⟩ := hit_same a5 a6 a2 a3
  obtain ⟨y, hy, hyl⟩ := fill_some x h3
  obtain ⟨z, hz, hzl⟩ := grow_some y (by omega)
  rw [place_same, back_same, hp, hq, h1, h2]
  simp only [Option.bind_some, bne_self_eq_false, Bool.or_false, Bool.false_eq_true, if_false, numbers_self x (by omega), hy, hz, Bool.not_true, Bool.true_and]
  simp; omega
end Go.Proofs.Ythoigfonjpmibaa
