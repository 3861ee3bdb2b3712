/- TopLeast: the plain law -/
import Derived.Test.YtgdhjjdgghilhaaGreatU1
import Derived.Test.YtgdhjjdgghilhaaGreatU2
import Derived.Test.YtgdhjjdgghilhaaGreatU3
import Derived.Test.YtgdhjjdgghilhaaGreatU4
import Derived.Test.YtgdhjjdgghilhaaGreatGlW
set_option linter.unusedVariables false
set_option linter.unusedSimpArgs false
set_option maxRecDepth 8000
set_option exponentiation.threshold 3000
namespace Go.Proofs.YtgdhjjdgghilhaaGreat
open GL Go

theorem zed {i : Int} (h : 0 ≤ i) (n : Int) (g : Bool) : ∃ z, (if (decide (i < n)) = true then (if 0 ≤ i ∧ i < n then some g else none) else some false) = some z := by
  by_cases c : i < n
  · exact ⟨g, by rw [if_pos (by rw [decide_eq_true_eq]; exact c), if_pos ⟨h, c⟩]⟩
  · exact ⟨false, by rw [if_neg (by rw [decide_eq_true_eq]; exact c)]⟩
theorem mk_set {l : List Int} (h : ∀ m ∈ l, 0 ≤ m ∧ m ≤ 2) (i : Nat) {v : Int} (hv : 0 ≤ v ∧ v ≤ 2) : ∀ m ∈ l.set i v, 0 ≤ m ∧ m ≤ 2 := by
  intro m hm
  rcases List.mem_or_eq_of_mem_set hm with e | e
  · exact h m e
  · rw [e]; exact hv
theorem least_j2 (mk : List Int) {i : Nat} {m : List Int} (hi : i < m.length) (hb : m.length ≤ 1000) (h : ∀ x ∈ m, 0 ≤ x ∧ x ≤ 2) :
    ∃ m', f_foghorntop_TopLeast.j2 mk (i : Int) m = some (.inl (m', ((i + 1 : Nat) : Int))) ∧ m'.length = m.length ∧ ∀ x ∈ m', 0 ≤ x ∧ x ≤ 2 := by
  unfold f_foghorntop_TopLeast.j2
  obtain ⟨z, hz⟩ := zed (i := (i : Int)) (by omega) (mk.length : Int) ((gt mk (i : Int)).tmod 5 == 2)
  rw [hz, Option.bind_some, w64 (by omega) (by omega)]
  cases z
  · exact ⟨m, by rw [if_neg (by decide)]; rfl, rfl, h⟩
  · exact ⟨_, by rw [if_pos rfl, if_pos (by omega)]; rfl, List.length_set, mk_set h _ (by decide)⟩
theorem least_marks (mk : List Int) {E : List Bool} (hE : E.length ≤ 1000) :
    ∃ r, loop (f_foghorntop_TopLeast.s1 mk (E, 0)) (List.replicate E.length (0 : Int), 0) = some r ∧ r.length = E.length ∧ ∀ m ∈ r, 0 ≤ m ∧ m ≤ 2 := by
  refine LD.loop_ex (f := f_foghorntop_TopLeast.s1 mk (E, 0)) E.length (fun k s => s.2 = (k : Int) ∧ s.1.length = E.length ∧ ∀ m ∈ s.1, 0 ≤ m ∧ m ≤ 2) _ ⟨rfl, by simp, fun m hm => by rw [List.eq_of_mem_replicate hm]; decide⟩ (fun k hk s hs => ?_) (fun s hs => ?_)
  · obtain ⟨m, c⟩ := s
    obtain ⟨rfl, h1, h2⟩ := hs
    simp only at h1 h2
    simp only [f_foghorntop_TopLeast.s1, f_foghorntop_TopLeast.s1c]
    obtain ⟨z, hz⟩ := zed (i := (k : Int)) (by omega) (mk.length : Int) ((gt mk (k : Int)).tmod 5 == 1)
    rw [if_pos (by rw [decide_eq_true_eq]; omega), if_pos (by omega), if_pos (by omega), hz, Option.bind_some, Int.toNat_natCast]
    have g0 := mk_set h2 k (v := 0) (by decide)
    by_cases c : ((gt E (k : Int)) != z) = true
    · rw [if_pos c, if_pos (by rw [List.length_set]; omega)]
      obtain ⟨m', e1, e2, e3⟩ := least_j2 mk (i := k) (m := (m.set k 0).set k 1) (by simp; omega) (by simp; omega) (mk_set g0 k (by decide))
      exact ⟨_, e1, rfl, by rw [e2]; simp; exact h1, e3⟩
    · rw [if_neg c]
      obtain ⟨m', e1, e2, e3⟩ := least_j2 mk (i := k) (m := m.set k 0) (by simp; omega) (by simp; omega) g0
      exact ⟨_, e1, rfl, by rw [e2]; simp; exact h1, e3⟩
  · obtain ⟨m, c⟩ := s
    obtain ⟨rfl, h1, h2⟩ := hs
    simp only at h1 h2
    simp only [f_foghorntop_TopLeast.s1, f_foghorntop_TopLeast.s1c]
    rw [if_neg (by rw [decide_eq_true_eq]; omega)]
    exact ⟨m, rfl, h1, h2⟩
def SOK (s : (Fl × Fl) × Bool) : Prop := ∃ u v, SF.SV s u v ∧ SF.mayb s u v = true
theorem sok0 (z : Bool) : SOK ((Fl.bits 0, Fl.bits 0), z) := by
  refine ⟨0, 0, ⟨SF.zero_val 12, SF.zero_val 12, by decide, by decide, by decide, by decide⟩, ?_⟩
  cases z
  · decide
  · show ceq (Fl.bits 0, Fl.bits 0) (Fl.bits 0, Fl.bits 0) = true
    decide
theorem sgf12 (b : Bool) : SF.Val 12 (SF.sgf b) (SF.sgn b * 4096) := by
  have := SF.val_scale (d := 12) (SF.sgf_val b) (by decide)
  exact this
theorem part_ok (b : Bool) (p : Int) : ∃ r u, farithS .quo (fofi (IntKind.i64.wrap (p % 16385 - 8192))) (Fl.bits 4661225614328463360) = some r ∧ SF.Val 12 (fadd (SF.sgf b) r) u ∧ -12288 ≤ u ∧ u ≤ 12288 := by
  have b1 := Int.emod_nonneg p (show (16385 : Int) ≠ 0 by decide)
  have b2 := Int.emod_lt_of_pos p (show (0 : Int) < 16385 by decide)
  rw [w64 (by omega) (by omega)]
  obtain ⟨r, e, v⟩ := SF.quo_s (SF.fofi_val (k := p % 16385 - 8192) (by omega)) (by omega)
  have hs : SF.sgn b * 4096 = 4096 ∨ SF.sgn b * 4096 = -4096 := by cases b <;> simp [SF.sgn]
  exact ⟨r, _, e, SF.fadd_val (sgf12 b) v (by decide) (by omega), by omega, by omega⟩
theorem sok1 {x y : Fl} {u v : Int} (h1 : SF.Val 12 x u) (h2 : SF.Val 12 y v) (a1 : -12288 ≤ u ∧ u ≤ 12288) (a2 : -12288 ≤ v ∧ v ≤ 12288) : SOK ((x, y), false) := by
  refine ⟨u, v, ⟨h1, h2, by omega, by omega, by omega, by omega⟩, ?_⟩
  show (SF.onb u && SF.onb v) = true
  unfold SF.onb
  simp only [Bool.and_eq_true, decide_eq_true_eq]
  omega
theorem least_soft (mk pt : List Int) {E : List Bool} {T : Nat} (hE : E.length = 2 * T) (hT : T ≤ 1000) :
    ∃ r, loop (f_foghorntop_TopLeast.s2 mk pt (E, 0)) (List.replicate T ((Fl.bits 0, Fl.bits 0), false), 0) = some r ∧ r.length = T ∧ ∀ j : Nat, j < T → SOK (gt r (j : Int)) := by
  refine LD.loop_ex (f := f_foghorntop_TopLeast.s2 mk pt (E, 0)) T (fun k s => s.2 = (k : Int) ∧ s.1.length = T ∧ ∀ j : Nat, j < T → (j < k → SOK (gt s.1 (j : Int))) ∧ (k ≤ j → gt s.1 (j : Int) = ((Fl.bits 0, Fl.bits 0), false))) _
    ⟨rfl, by simp, fun j hj => ⟨fun h => by omega, fun _ => LD.gt_rep (by omega) (by omega) _⟩⟩ (fun k hk s hs => ?_) (fun s hs => ?_)
  · obtain ⟨l, c⟩ := s
    obtain ⟨rfl, h1, h2⟩ := hs
    simp only at h1 h2
    have hz0 := (h2 k hk).2 (Nat.le_refl _)
    have done : ∀ x, SOK x → ∀ j : Nat, j < T → (j < k + 1 → SOK (gt (l.set k x) (j : Int))) ∧ (k + 1 ≤ j → gt (l.set k x) (j : Int) = ((Fl.bits 0, Fl.bits 0), false)) := by
      intro x hx j hj
      have e := LD.gt_set (L := l) (i := (k : Int)) (j := (j : Int)) (by omega) (by omega) (by omega) x
      rw [Int.toNat_natCast] at e
      rw [e]
      constructor
      · intro hjk
        split
        · exact hx
        · exact (h2 j hj).1 (by omega)
      · intro hjk
        rw [if_neg (by omega)]
        exact (h2 j hj).2 (by omega)
    simp only [f_foghorntop_TopLeast.s2, f_foghorntop_TopLeast.s2c]
    obtain ⟨z, hz⟩ := zed (i := (k : Int)) (by omega) (mk.length : Int) ((gt mk (k : Int)).tmod 7 == 3)
    rw [if_pos (by rw [decide_eq_true_eq]; omega), hz, Option.bind_some, if_pos (by omega), if_pos (by rw [List.length_set]; omega), LD.set_get (by omega) (by omega), hz0, Int.toNat_natCast,
      w64 (x := 2 * (k : Int)) (by omega) (by omega), w64 (x := 2 * (k : Int) + 1) (by omega) (by omega), w64 (x := (k : Int) + 1) (by omega) (by omega)]
    by_cases c : ((!z) && decide (2 * (k : Int) + 1 < (pt.length : Int))) = true
    · rw [if_pos c, if_pos (by omega), if_pos (by omega), SF.Point_c, Option.bind_some]
      simp only [Bool.and_eq_true, decide_eq_true_eq, Bool.not_eq_true'] at c
      obtain ⟨rfl, c⟩ := c
      obtain ⟨r1, u, q1, v1, u0, u1⟩ := part_ok (gt E (2 * (k : Int))) (gt pt (2 * (k : Int)))
      obtain ⟨r2, v, q2, v2, w0, w1⟩ := part_ok (gt E (2 * (k : Int) + 1)) (gt pt (2 * (k : Int) + 1))
      rw [if_pos (by omega), mod_ok _ (by decide) (by decide), Option.bind_some, q1, Option.bind_some, if_pos (by omega), mod_ok _ (by decide) (by decide), Option.bind_some, q2, Option.bind_some, if_pos (by rw [List.length_set]; omega)]
      refine ⟨_, rfl, rfl, by simp; exact h1, ?_⟩
      simp only [List.set_set]
      exact done _ (sok1 v1 v2 ⟨u0, u1⟩ ⟨w0, w1⟩)
    · rw [if_neg c]
      exact ⟨_, rfl, rfl, by simp; exact h1, done _ (sok0 z)⟩
  · obtain ⟨l, c⟩ := s
    obtain ⟨rfl, h1, h2⟩ := hs
    simp only at h1 h2
    simp only [f_foghorntop_TopLeast.s2, f_foghorntop_TopLeast.s2c]
    rw [if_neg (by rw [decide_eq_true_eq]; omega)]
    exact ⟨l, rfl, h1, fun j hj => (h2 j hj).1 hj⟩
theorem least_j1 {n a b : Nat} (hc : SF.CodeOK n a b) (message : List Bool) (marks parts weights bits : List Int) (power : Int) : f_foghorntop_TopLeast.j1 message marks parts weights bits power (n : Int) (a : Int) (b : Int) = some true := by
  have n2 := hc.n2
  have n7 := hc.n7
  have hc' : HD.CodeOK n a b := ⟨hc.n2, hc.n7, hc.a1, hc.b1, hc.an, hc.bn, hc.top⟩
  have e60 : imin (message.length : Int) 60 = ((min message.length 60 : Nat) : Int) := by
    rw [show (60 : Int) = ((60 : Nat) : Int) from rfl, imin_nat]
  obtain ⟨m, hm⟩ : ∃ m, m = (message.drop 0).take ((imin (message.length : Int) 60).toNat - 0) := ⟨_, rfl⟩
  have ml : m.length ≤ 60 := by rw [hm, e60]; simp; omega
  obtain ⟨E, hEe⟩ : ∃ E, E = SF.enc n a b m (m.length + n - 1) := ⟨_, rfl⟩
  have hE : E.length = 2 * (m.length + n - 1) := by rw [hEe]; exact SF.enc_len n a b m _
  obtain ⟨T, hT⟩ : ∃ T, T = m.length + (n - 1) := ⟨_, rfl⟩
  have hET : E.length = 2 * T := by omega
  obtain ⟨ms, s1, s2, s3⟩ := least_marks marks (E := E) (by omega)
  obtain ⟨L, t1, t2, t3⟩ := least_soft marks parts (E := E) (T := T) hET (by omega)
  have fit : HD.Fit n a b ms T m.length := { hc' with len := by omega, tn := hT, max := by omega, mks := s3 }
  have hd : IntKind.i64.wrap (((E.length : Int)).tdiv 2) = (T : Int) := by
    rw [Int.tdiv_eq_ediv_of_nonneg (by omega), w64 (by omega) (by omega)]; omega
  -- the soft samples
  have hch : ∀ i : Nat, ∃ uv : Int × Int, i < L.length → SF.SV (gt L (i : Int)) uv.1 uv.2 ∧ SF.mayb (gt L (i : Int)) uv.1 uv.2 = true := by
    intro i
    by_cases h : i < L.length
    · obtain ⟨u, v, h1, h2⟩ := t3 i (by omega)
      exact ⟨(u, v), fun _ => ⟨h1, h2⟩⟩
    · exact ⟨(0, 0), fun h' => absurd h' h⟩
  obtain ⟨W, hW⟩ := Classical.axiomOfChoice hch
  have hSR : SF.SR L (fun i => (W i).1) (fun i => (W i).2) := fun i hi => (hW i hi).1
  have ha : SF.gal (SF.mf L (fun i => (W i).1) (fun i => (W i).2)) L.length = true := SF.gal_all fun i hi => (hW i hi).2
  obtain ⟨d, x, d1, d2, d3, d4⟩ := SF.soft_dec hc hSR (by omega) ha (M := m.length) (by omega)
  obtain ⟨y, y1, y2, _⟩ := SF.path_ok hc hSR (by omega) ha (m := m) (by omega)
  obtain ⟨z, z1, z2, _⟩ := SF.path_ok hc hSR (by omega) ha (m := d) (by omega)
  have hle : SF.mc n a b L (fun i => (W i).1) (fun i => (W i).2) d ≤ SF.mc n a b L (fun i => (W i).1) (fun i => (W i).2) m := by
    rcases d4 m rfl with e | e
    · rw [e]; exact Int.le_refl _
    · unfold SF.MLt at e; omega
  have hml := HD.msgN_len (n := n) (a := a) (b := b) (ms := ms) (T := T) (N := m.length) 1048576 m.length
  unfold f_foghorntop_TopLeast.j1
  rw [awake_ok, Option.bind_some, if_neg (by decide), ← hm, e60, if_pos (by omega), SF.encode_ok hc m (by omega), ← hEe, Option.bind_some, if_neg (by simp)]
  simp only
  rw [if_pos (by omega), hd, if_pos (by omega), Int.toNat_natCast, Int.toNat_natCast, s1, Option.bind_some, t1, Option.bind_some, HD.path_ok fit, Option.bind_some, HD.cost_ok fit m rfl, Option.bind_some, HD.cost_ok fit _ hml, Option.bind_some]
  have g1 := HD.cs_ge fit 1048576 m rfl
  have g2 := HD.cs_msg fit 1048576
  simp only [bne_self_eq_false, Bool.false_or, hml, g2, Bool.or_false]
  rw [if_neg (by rw [decide_eq_true_eq]; omega), d1, Option.bind_some, y1, Option.bind_some, z1, Option.bind_some]
  simp only [bne_self_eq_false, Bool.false_or, d2, Bool.or_false, SF.fgt_val d3 y2, SF.fne_dec d3 z2]
  rw [if_neg (by simp only [decide_true, Bool.not_true, Bool.or_false, decide_eq_true_eq]; omega), LD.loaded_ok, Option.bind_some]
theorem least_ok (code : Bool) (message : List Bool) (marks parts weights bits : List Int) (power : Int) : f_foghorntop_TopLeast code message marks parts weights bits power = some true := by
  unfold f_foghorntop_TopLeast
  cases code
  · rw [if_neg (by decide)]; exact least_j1 SF.short_ok message marks parts weights bits power
  · rw [if_pos rfl]; exact least_j1 SF.long_ok message marks parts weights bits power
theorem least_law {Wm Rm Wk Rk Wp Rp Ww Rw Wb Rb Wn : Prop} (code : Bool) (message : List Bool) (_ : Wm) (_ : Rm) (marks : List Int) (_ : Wk) (_ : Rk) (parts : List Int) (_ : Wp) (_ : Rp) (weights : List Int) (_ : Ww) (_ : Rw) (bits : List Int) (_ : Wb) (_ : Rb) (power : Int) (_ : Wn) : f_foghorntop_TopLeast code message marks parts weights bits power = some true := least_ok code message marks parts weights bits power

end Go.Proofs.YtgdhjjdgghilhaaGreat
