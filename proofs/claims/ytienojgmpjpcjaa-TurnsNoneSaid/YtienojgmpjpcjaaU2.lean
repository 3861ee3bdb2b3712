/- TurnsNone: the plain law. -/
import Derived.Test.YtienojgmpjpcjaaG2
import Derived.Test.YtienojgmpjpcjaaGlK
set_option linter.unusedVariables false
namespace Go.Proofs.Ytienojgmpjpcjaa
open GL

theorem w8 (x : Int) : IntKind.u8.wrap x = x % 256 := by
  simp [IntKind.wrap, IntKind.bits, IntKind.signed]

theorem and3 (x : Int) (h0 : 0 ≤ x) (h1 : x < 256) : iand .u8 x 3 = x % 4 := by
  have e : iand .u8 x 3 = IntKind.u8.wrap (((BitVec.ofInt 8 x &&& BitVec.ofInt 8 3).toNat : Nat) : Int) := rfl
  have e3 : (BitVec.ofInt 8 3).toNat = 2 ^ 2 - 1 := by decide
  rw [e, BitVec.toNat_and, e3, Nat.and_two_pow_sub_one_eq_mod, BitVec.toNat_ofInt, w8]
  omega

/-- every one a quarter -/
def Q (q : List Int) : Prop := ∀ x ∈ q, 0 ≤ x ∧ x < 4

theorem Q.at {q : List Int} (h : Q q) (i : Nat) (hi : i < q.length) : 0 ≤ q[i] ∧ q[i] < 4 := h _ (List.getElem_mem hi)

def into (a : Int) : List Int → List Int
  | [] => []
  | n :: q => ((a + n) % 4) :: into ((a + n) % 4) q

def outo (a : Int) : List Int → List Int
  | [] => []
  | n :: q => ((n - a) % 4) :: outo n q

theorem into_len (q : List Int) : ∀ a, (into a q).length = q.length := by
  induction q with
  | nil => intro a; rfl
  | cons n q ih => intro a; simp [into, ih]

theorem outo_len (q : List Int) : ∀ a, (outo a q).length = q.length := by
  induction q with
  | nil => intro a; rfl
  | cons n q ih => intro a; simp [outo, ih]

theorem row_some (q : List Int) (hq : Q q) (hl : q.length ≤ 65536) : f_turns_row q = some true := by
  unfold f_turns_row
  have := loop_for1 (f := f_turns_row.s1 q) q.length (.inl ()) (fun i hi => ?_) ?_
  · rw [this]
    simp only [Option.bind_some, sm]
    congr 1; simp; omega
  · have := hq.at i hi
    simp only [f_turns_row.s1, f_turns_row.s1c]
    rw [if_pos (by simpa using hi), if_pos (by omega), gt_nat hi, if_neg (by simp; omega), w64 (by omega) (by omega)]; rfl
  · simp only [f_turns_row.s1, f_turns_row.s1c]
    rw [if_neg (by simp)]

theorem into_some (q : List Int) (hq : Q q) (hl : q.length ≤ 65536) : f_turns_Into q = some (into 0 q, 0) := by
  unfold f_turns_Into f_turns_each
  rw [row_some q hq hl]
  simp only [Option.bind_some, Bool.not_true, Bool.false_eq_true, if_false]
  rw [if_pos (by omega), Int.toNat_natCast]
  have key : ∀ (m i : Nat) (t : Int) (pre : List Int), i + m = q.length → pre.length = i → 0 ≤ t → t < 256 →
      ∃ t', loop (f_turns_each.s1 q) (t, pre ++ List.replicate m (0 : Int), (i : Int)) = some (t', pre ++ into (t % 4) (q.drop i)) := by
    intro m
    induction m with
    | zero =>
      intro i t pre hi hp h0 h1
      refine ⟨t, loop_done ?_⟩
      simp only [f_turns_each.s1, f_turns_each.s1c]
      rw [if_neg (by simp; omega), List.drop_eq_nil_of_le (by omega)]; simp [into]
    | succ m ih =>
      intro i t pre hi hp h0 h1
      have hil : i < q.length := by omega
      have hqi := hq.at i hil
      obtain ⟨t', h⟩ := ih (i + 1) ((t + q[i]) % 256) (pre ++ [(t + q[i]) % 256 % 4]) (by omega) (by simp [hp]) (by omega) (by omega)
      refine ⟨t', (loop_step ?_).trans (h.trans ?_)⟩
      · simp only [f_turns_each.s1, f_turns_each.s1c, f_turns_Into_1]
        rw [if_pos (by simp; omega), if_pos (by omega), gt_nat hil]
        simp only [Option.bind_some]
        rw [if_pos (by simp; omega), w8, and3 _ (by omega) (by omega), w64 (by omega) (by omega), Int.toNat_natCast, List.set_append_right _ _ (by omega), hp]
        simp [List.replicate_succ]
      · rw [List.drop_eq_getElem_cons hil]
        have e : (t + q[i]) % 256 % 4 = (t % 4 + q[i]) % 4 := by omega
        simp only [into, e, List.append_assoc, List.singleton_append]
  obtain ⟨t', h⟩ := key q.length 0 0 [] (by omega) rfl (by omega) (by omega)
  simp only [List.nil_append, List.drop_zero, Int.natCast_zero] at h
  rw [h]; rfl

theorem out_some (q : List Int) (hq : Q q) (hl : q.length ≤ 65536) : f_turns_Out q = some (outo 0 q, 0) := by
  unfold f_turns_Out f_turns_each_33
  rw [row_some q hq hl]
  simp only [Option.bind_some, Bool.not_true, Bool.false_eq_true, if_false]
  rw [if_pos (by omega), Int.toNat_natCast]
  have key : ∀ (m i : Nat) (t : Int) (pre : List Int), i + m = q.length → pre.length = i → 0 ≤ t → t < 4 →
      ∃ t', loop (f_turns_each_33.s1 q) (t, pre ++ List.replicate m (0 : Int), (i : Int)) = some (t', pre ++ outo t (q.drop i)) := by
    intro m
    induction m with
    | zero =>
      intro i t pre hi hp h0 h1
      refine ⟨t, loop_done ?_⟩
      simp only [f_turns_each_33.s1, f_turns_each_33.s1c]
      rw [if_neg (by simp; omega), List.drop_eq_nil_of_le (by omega)]; simp [outo]
    | succ m ih =>
      intro i t pre hi hp h0 h1
      have hil : i < q.length := by omega
      have hqi := hq.at i hil
      obtain ⟨t', h⟩ := ih (i + 1) q[i] (pre ++ [(q[i] - t) % 256 % 4]) (by omega) (by simp [hp]) (by omega) (by omega)
      refine ⟨t', (loop_step ?_).trans (h.trans ?_)⟩
      · simp only [f_turns_each_33.s1, f_turns_each_33.s1c, f_turns_Out_1]
        rw [if_pos (by simp; omega), if_pos (by omega), gt_nat hil]
        simp only [Option.bind_some]
        rw [if_pos (by simp; omega), w8, and3 _ (by omega) (by omega), w64 (by omega) (by omega), Int.toNat_natCast, List.set_append_right _ _ (by omega), hp]
        simp [List.replicate_succ]
      · rw [List.drop_eq_getElem_cons hil]
        have e : (q[i] - t) % 256 % 4 = (q[i] - t) % 4 := by omega
        simp only [outo, e, List.append_assoc, List.singleton_append]
  obtain ⟨t', h⟩ := key q.length 0 0 [] (by omega) rfl (by omega) (by omega)
  simp only [List.nil_append, List.drop_zero, Int.natCast_zero] at h
  rw [h]; rfl

theorem quarters_self (a : List Int) (h : a.length ≤ 65536) : f_foghornlaw06_quarters a a = some true := by
  unfold f_foghornlaw06_quarters
  rw [if_neg (by simp)]
  have := loop_same (f := f_foghornlaw06_quarters.s1 a a) a (· != ·) (by simp) (by omega) false (fun i => rfl)
  rw [this]; rfl

theorem awake_some : f_foghornlaw06_awake = some true := by
  unfold f_foghornlaw06_awake
  have h1 : Q [1, 1, 3, 2] := by intro x hx; simp at hx; omega
  have h2 : Q [1, 2, 1, 3] := by intro x hx; simp at hx; omega
  rw [into_some _ h1 (by decide), out_some _ h2 (by decide)]
  have e1 : into 0 [1, 1, 3, 2] = [1, 2, 1, 3] := by decide
  have e2 : outo 0 [1, 2, 1, 3] = [1, 1, 3, 2] := by decide
  rw [e1, e2]
  simp only [Option.bind_some, beq_self_eq_true, Bool.and_self, if_true, quarters_self [1, 2, 1, 3] (by decide), quarters_self [1, 1, 3, 2] (by decide)]

theorem row_gen (q : List Int) (hq : Q q) (hl : q.length ≤ 140737488351232) : f_turns_row q = some (decide ((q.length : Int) ≤ 65536)) := by
  unfold f_turns_row
  have := loop_for1 (f := f_turns_row.s1 q) q.length (.inl ()) (fun i hi => ?_) ?_
  · rw [this]; rfl
  · have := hq.at i hi
    simp only [f_turns_row.s1, f_turns_row.s1c]
    rw [if_pos (by simpa using hi), if_pos (by omega), gt_nat hi, if_neg (by simp; omega), w64 (by omega) (by omega)]; rfl
  · simp only [f_turns_row.s1, f_turns_row.s1c]
    rw [if_neg (by simp)]

theorem zQ (n : Int) : Q (mk0 n (0 : Int)) := by
  intro x hx
  rw [mk0_eq] at hx
  have := List.eq_of_mem_replicate hx
  omega
theorem mk0_len {α : Type} (n : Int) (z : α) : (mk0 n z).length = n.toNat := by rw [mk0_eq]; simp

theorem none_true : f_foghornlaw06_TurnsNone = some true := by
  unfold f_foghornlaw06_TurnsNone
  have q0 : Q [] := by intro x hx; simp at hx
  have q1 : Q [1] := by intro x hx; simp at hx; omega
  have e1 : f_turns_Into [] = some ([], 0) := into_some [] q0 (by simp)
  have e2 : f_turns_Into [4] = some ([], 1) := by
    unfold f_turns_Into f_turns_each f_turns_row
    have : loop (f_turns_row.s1 [4]) (0 : Int) = some (.inr false) := loop_done rfl
    rw [this]; rfl
  have e3 : f_turns_Out (mk0 (65537 : Int) (0 : Int)) = some ([], 1) := by
    unfold f_turns_Out f_turns_each_33
    have hl := mk0_len (65537 : Int) (0 : Int)
    have hn : ((65537 : Int)).toNat = 65537 := rfl
    rw [row_gen _ (zQ _) (by omega)]
    have : decide (((mk0 (65537 : Int) (0 : Int)).length : Int) ≤ 65536) = false := by rw [decide_eq_false_iff_not]; omega
    rw [this]; rfl
  have l4 := mk0_len (65536 : Int) (0 : Int)
  have n4 : ((65536 : Int)).toNat = 65536 := rfl
  have e4 := out_some _ (zQ (65536 : Int)) (by omega)
  have e5 : f_turns_Bits (mk0 (16385 : Int) (0 : Int)) = some ([], 1) := by
    unfold f_turns_Bits
    have hl := mk0_len (16385 : Int) (0 : Int)
    have hn : ((16385 : Int)).toNat = 16385 := rfl
    rw [row_some _ (zQ _) (by omega), w64 (by omega) (by omega)]
    simp only [Option.bind_some]
    rw [if_pos (by simp; omega)]
  have e6 : f_turns_Of (mk0 (32769 : Int) false) = some ([], 1) := by
    unfold f_turns_Of
    have hl := mk0_len (32769 : Int) false
    have hn : ((32769 : Int)).toNat = 32769 := rfl
    rw [if_pos (by simp only [Bool.or_eq_true, decide_eq_true_eq]; omega)]
  have e7 : f_turns_Of (mk0 (32770 : Int) false) = some ([], 1) := by
    unfold f_turns_Of
    have hl := mk0_len (32770 : Int) false
    have hn : ((32770 : Int)).toNat = 32770 := rfl
    rw [if_pos (by simp only [Bool.or_eq_true, decide_eq_true_eq]; omega)]
  have e8 : f_turns_Marked [1] [] = some ([], [], 1) := by
    unfold f_turns_Marked
    rw [out_some [1] q1 (by simp)]; rfl
  have r0 : f_turns_row [] = some true := row_some [] q0 (by simp)
  have k1 : (fge (Fl.bits 0) (Fl.bits 4553139223271571456) && fle (Fl.bits 0) (Fl.bits 4652218415073722368)) = false := by decide +kernel
  have k2 : (fge (Fl.bits 4553139223271571456) (Fl.bits 4553139223271571456) && fle (Fl.bits 4553139223271571456) (Fl.bits 4652218415073722368)) = true := by decide +kernel
  have k3 : (fge (Fl.bits 4652220614096977920) (Fl.bits 4553139223271571456) && fle (Fl.bits 4652220614096977920) (Fl.bits 4652218415073722368)) = false := by decide +kernel
  have e9 : f_turns_Points [] (Fl.bits 0) = some ([], 1) := by
    unfold f_turns_Points; rw [r0]; simp only [Option.bind_some, k1]; rfl
  have e10 : f_turns_Points [] (Fl.bits 4553139223271571456) = some ([], 0) := by
    unfold f_turns_Points; rw [r0]; simp only [Option.bind_some, k2]
    have : loop (f_turns_Points.s1 [] (Fl.bits 4553139223271571456)) ([], (0 : Int)) = some [] := loop_done rfl
    rw [if_neg (by simp), if_pos (by simp)]
    have e0 : List.replicate (((([] : List Int).length : Int))).toNat ((Fl.bits 0, Fl.bits 0) : Fl × Fl) = [] := rfl
    rw [e0, this]; rfl
  have e11 : f_turns_Points [] (Fl.bits 4652220614096977920) = some ([], 1) := by
    unfold f_turns_Points; rw [r0]; simp only [Option.bind_some, k3]; rfl
  have e12 : f_turns_Found [] [] = some (0, 0) := by
    unfold f_turns_Found
    have h2 : loop (f_turns_Found.s2 [] [] 0) (0 : Int) = some (.inl ()) := loop_done rfl
    have h1 : f_turns_Found.s1 [] [] (0 : Int) = some (.inr (.inr (0, 0))) := by
      simp only [f_turns_Found.s1, f_turns_Found.s1c]
      rw [if_pos (by decide), h2]; rfl
    rw [if_neg (by simp), loop_done h1]; rfl
  have e13 : ∀ z, f_turns_Found [] (List.replicate ((1 : Int)).toNat z) = some (0, 1) := by
    intro z; unfold f_turns_Found; rw [if_pos (by simp)]
  have k4 : ceq (Fl.bits 0, Fl.bits 0) (Fl.bits 0, Fl.bits 0) = true := by decide +kernel
  have e14 : f_turns_Near (Fl.bits 0, Fl.bits 0) = some (0, false) := by
    unfold f_turns_Near; rw [k4]; rfl
  rw [e1, e2]
  simp only [Option.bind_some, e3, e4, e5, e6, e7, e8, e9, e10, e11, e12, e13, e14, awake_some, outo_len, l4, n4]
  rfl
end Go.Proofs.Ytienojgmpjpcjaa
