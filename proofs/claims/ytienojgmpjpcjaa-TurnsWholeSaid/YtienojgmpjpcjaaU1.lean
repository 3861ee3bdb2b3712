/- TurnsWhole: the plain law. -/
import Derived.Test.YtienojgmpjpcjaaG1
import Derived.Test.YtienojgmpjpcjaaGlK
set_option linter.unusedVariables false
namespace Go.Proofs.Ytienojgmpjpcjaa
open GL

theorem w8 (x : Int) : IntKind.u8.wrap x = x % 256 := by
  simp [IntKind.wrap, IntKind.bits, IntKind.signed]
theorem and3 (x : Int) (h0 : 0 ≤ x) (h1 : x < 256) : iand .u8 x 3 = x % 4 := by
  have e : iand .u8 x 3 = IntKind.u8.wrap (((BitVec.ofInt 8 x &&& BitVec.ofInt 8 3).toNat : Nat) : Int) := rfl
  have e3 : (BitVec.ofInt 8 3).toNat = 2 ^ 2 - 1 := by decide
  rw [e, BitVec.toNat_and, e3, Nat.and_two_pow_sub_one_eq_mod, BitVec.toNat_ofInt, w8]
  omega

/-- every one a quarter -/
def Q (q : List Int) : Prop := ∀ x ∈ q, 0 ≤ x ∧ x < 4
theorem Q.at {q : List Int} (h : Q q) (i : Nat) (hi : i < q.length) : 0 ≤ q[i] ∧ q[i] < 4 := h _ (List.getElem_mem hi)

def into (a : Int) : List Int → List Int
  | [] => []
  | n :: q => ((a + n) % 4) :: into ((a + n) % 4) q
def outo (a : Int) : List Int → List Int
  | [] => []
  | n :: q => ((n - a) % 4) :: outo n q
theorem into_len (q : List Int) : ∀ a, (into a q).length = q.length := by
  induction q with
  | nil => intro a; rfl
  | cons n q ih => intro a; simp [into, ih]
theorem outo_len (q : List Int) : ∀ a, (outo a q).length = q.length := by
  induction q with
  | nil => intro a; rfl
  | cons n q ih => intro a; simp [outo, ih]
theorem into_Q (q : List Int) : ∀ a, Q (into a q) := by
  induction q with
  | nil => intro a x hx; simp [into] at hx
  | cons n q ih =>
    intro a x hx
    simp only [into, List.mem_cons] at hx
    rcases hx with rfl | hx
    · omega
    · exact ih _ x hx
theorem outo_Q (q : List Int) : ∀ a, Q (outo a q) := by
  induction q with
  | nil => intro a x hx; simp [outo] at hx
  | cons n q ih =>
    intro a x hx
    simp only [outo, List.mem_cons] at hx
    rcases hx with rfl | hx
    · omega
    · exact ih _ x hx
theorem Q.tail {n : Int} {q : List Int} (h : Q (n :: q)) : Q q := fun x hx => h x (List.mem_cons_of_mem _ hx)
theorem Q.head {n : Int} {q : List Int} (h : Q (n :: q)) : 0 ≤ n ∧ n < 4 := h n (List.mem_cons_self ..)
theorem out_into (q : List Int) (hq : Q q) : ∀ a, outo a (into a q) = q := by
  induction q with
  | nil => intro a; rfl
  | cons n q ih =>
    intro a
    have := hq.head
    simp only [into, outo]
    rw [ih hq.tail]
    congr 1; omega
theorem into_out (q : List Int) (hq : Q q) : ∀ a, 0 ≤ a → a < 4 → into a (outo a q) = q := by
  induction q with
  | nil => intro a _ _; rfl
  | cons n q ih =>
    intro a h0 h1
    have := hq.head
    have e : (a + (n - a) % 4) % 4 = n := by omega
    simp only [outo, into, e]
    rw [ih hq.tail n (by omega) (by omega)]
def addc (c : Int) (q : List Int) : List Int := q.map fun x => (x + c) % 4
theorem out_add (c : Int) (q : List Int) (hq : Q q) : ∀ a, outo ((a + c) % 4) (addc c (into a q)) = q := by
  induction q with
  | nil => intro a; rfl
  | cons n q ih =>
    intro a
    have := hq.head
    have e := ih hq.tail ((a + n) % 4)
    simp only [into, addc, List.map_cons, outo] at e ⊢
    rw [e]
    congr 1; omega

theorem row_some (q : List Int) (hq : Q q) (hl : q.length ≤ 65536) : f_turns_row q = some true := by
  unfold f_turns_row
  have := loop_for1 (f := f_turns_row.s1 q) q.length (.inl ()) (fun i hi => ?_) ?_
  · rw [this]
    simp only [Option.bind_some, sm]
    congr 1; simp; omega
  · have := hq.at i hi
    simp only [f_turns_row.s1, f_turns_row.s1c]
    rw [if_pos (by simpa using hi), if_pos (by omega), gt_nat hi, if_neg (by simp; omega), w64 (by omega) (by omega)]; rfl
  · simp only [f_turns_row.s1, f_turns_row.s1c]
    rw [if_neg (by simp)]

theorem into_some (q : List Int) (hq : Q q) (hl : q.length ≤ 65536) : f_turns_Into q = some (into 0 q, 0) := by
  unfold f_turns_Into f_turns_each
  rw [row_some q hq hl]
  simp only [Option.bind_some, Bool.not_true, Bool.false_eq_true, if_false]
  rw [if_pos (by omega), Int.toNat_natCast]
  have key : ∀ (m i : Nat) (t : Int) (pre : List Int), i + m = q.length → pre.length = i → 0 ≤ t → t < 256 →
      ∃ t', loop (f_turns_each.s1 q) (t, pre ++ List.replicate m (0 : Int), (i : Int)) = some (t', pre ++ into (t % 4) (q.drop i)) := by
    intro m
    induction m with
    | zero =>
      intro i t pre hi hp h0 h1
      refine ⟨t, loop_done ?_⟩
      simp only [f_turns_each.s1, f_turns_each.s1c]
      rw [if_neg (by simp; omega), List.drop_eq_nil_of_le (by omega)]; simp [into]
    | succ m ih =>
      intro i t pre hi hp h0 h1
      have hil : i < q.length := by omega
      have hqi := hq.at i hil
      obtain ⟨t', h⟩ := ih (i + 1) ((t + q[i]) % 256) (pre ++ [(t + q[i]) % 256 % 4]) (by omega) (by simp [hp]) (by omega) (by omega)
      refine ⟨t', (loop_step ?_).trans (h.trans ?_)⟩
      · simp only [f_turns_each.s1, f_turns_each.s1c, f_turns_Into_1]
        rw [if_pos (by simp; omega), if_pos (by omega), gt_nat hil]
        simp only [Option.bind_some]
        rw [if_pos (by simp; omega), w8, and3 _ (by omega) (by omega), w64 (by omega) (by omega), Int.toNat_natCast, List.set_append_right _ _ (by omega), hp]
        simp [List.replicate_succ]
      · rw [List.drop_eq_getElem_cons hil]
        have e : (t + q[i]) % 256 % 4 = (t % 4 + q[i]) % 4 := by omega
        simp only [into, e, List.append_assoc, List.singleton_append]
  obtain ⟨t', h⟩ := key q.length 0 0 [] (by omega) rfl (by omega) (by omega)
  simp only [List.nil_append, List.drop_zero, Int.natCast_zero] at h
  rw [h]; rfl

theorem out_some (q : List Int) (hq : Q q) (hl : q.length ≤ 65536) : f_turns_Out q = some (outo 0 q, 0) := by
  unfold f_turns_Out f_turns_each_33
  rw [row_some q hq hl]
  simp only [Option.bind_some, Bool.not_true, Bool.false_eq_true, if_false]
  rw [if_pos (by omega), Int.toNat_natCast]
  have key : ∀ (m i : Nat) (t : Int) (pre : List Int), i + m = q.length → pre.length = i → 0 ≤ t → t < 4 →
      ∃ t', loop (f_turns_each_33.s1 q) (t, pre ++ List.replicate m (0 : Int), (i : Int)) = some (t', pre ++ outo t (q.drop i)) := by
    intro m
    induction m with
    | zero =>
      intro i t pre hi hp h0 h1
      refine ⟨t, loop_done ?_⟩
      simp only [f_turns_each_33.s1, f_turns_each_33.s1c]
      rw [if_neg (by simp; omega), List.drop_eq_nil_of_le (by omega)]; simp [outo]
    | succ m ih =>
      intro i t pre hi hp h0 h1
      have hil : i < q.length := by omega
      have hqi := hq.at i hil
      obtain ⟨t', h⟩ := ih (i + 1) q[i] (pre ++ [(q[i] - t) % 256 % 4]) (by omega) (by simp [hp]) (by omega) (by omega)
      refine ⟨t', (loop_step ?_).trans (h.trans ?_)⟩
      · simp only [f_turns_each_33.s1, f_turns_each_33.s1c, f_turns_Out_1]
        rw [if_pos (by simp; omega), if_pos (by omega), gt_nat hil]
        simp only [Option.bind_some]
        rw [if_pos (by simp; omega), w8, and3 _ (by omega) (by omega), w64 (by omega) (by omega), Int.toNat_natCast, List.set_append_right _ _ (by omega), hp]
        simp [List.replicate_succ]
      · rw [List.drop_eq_getElem_cons hil]
        have e : (q[i] - t) % 256 % 4 = (q[i] - t) % 4 := by omega
        simp only [outo, e, List.append_assoc, List.singleton_append]
  obtain ⟨t', h⟩ := key q.length 0 0 [] (by omega) rfl (by omega) (by omega)
  simp only [List.nil_append, List.drop_zero, Int.natCast_zero] at h
  rw [h]; rfl

def B (n : Int) : List Bool := [decide ((0 : Int) < iand .u8 n 2), decide ((0 : Int) < iand .u8 (ixor .u8 n (ishr .u8 n 1)) 1)]
def bitsL (q : List Int) : List Bool := q.flatMap B
theorem bitsL_len (q : List Int) : (bitsL q).length = 2 * q.length := by
  induction q with
  | nil => rfl
  | cons n q ih => simp [bitsL, B] at ih ⊢; omega
theorem bitsL_app (q : List Int) (n : Int) : bitsL (q ++ [n]) = bitsL q ++ B n := by simp [bitsL]

theorem bits_some (q : List Int) (hq : Q q) (hl : q.length ≤ 16384) : f_turns_Bits q = some (bitsL q, 0) := by
  unfold f_turns_Bits
  rw [row_some q hq (by omega)]
  simp only [Option.bind_some]
  rw [w64 (by omega) (by omega), if_neg (by simp; omega)]
  have := loop_for (f := f_turns_Bits.s1 q) q.length (fun i => bitsL (q.take i)) (bitsL q) (fun i hi => ?_) ?_
  · have e : bitsL (q.take 0) = [] := by simp [bitsL]
    simp only [e] at this
    rw [this]; rfl
  · simp only [f_turns_Bits.s1, f_turns_Bits.s1c]
    rw [if_pos (by simpa using hi), if_pos (by omega), if_pos (by simp [bitsL_len]; omega), w64 (by omega) (by omega), List.take_succ_eq_append_getElem hi, bitsL_app, gt_nat hi]; rfl
  · simp only [f_turns_Bits.s1, f_turns_Bits.s1c]
    rw [if_neg (by simp), List.take_of_length_le (Nat.le_refl _)]

theorem bitsL_get (q : List Int) : ∀ (i : Nat) (hi : i < q.length), (bitsL q)[2 * i]? = (B q[i])[0]? ∧ (bitsL q)[2 * i + 1]? = (B q[i])[1]? := by
  induction q with
  | nil => intro i hi; simp at hi
  | cons n q ih =>
    intro i hi
    cases i with
    | zero => simp [bitsL, B]
    | succ i =>
      have := ih i (by simpa using hi)
      have e : bitsL (n :: q) = B n ++ bitsL q := by simp [bitsL]
      have hB : (B n).length = 2 := rfl
      rw [e, List.getElem?_append_right (by omega), List.getElem?_append_right (by omega), hB]
      simpa [show 2 * (i + 1) - 2 = 2 * i by omega, show 2 * (i + 1) + 1 - 2 = 2 * i + 1 by omega] using this

theorem of_one (n : Int) (h0 : 0 ≤ n) (h1 : n < 4) :
    (if decide ((0 : Int) < iand .u8 n 2) = true then (if decide ((0 : Int) < iand .u8 (ixor .u8 n (ishr .u8 n 1)) 1) = true then ixor .u8 3 1 else 3)
      else (if decide ((0 : Int) < iand .u8 (ixor .u8 n (ishr .u8 n 1)) 1) = true then ixor .u8 0 1 else 0)) = n := by
  have : n = 0 ∨ n = 1 ∨ n = 2 ∨ n = 3 := by omega
  rcases this with rfl | rfl | rfl | rfl <;> decide

theorem of_some (q : List Int) (hq : Q q) (hl : q.length ≤ 16384) : f_turns_Of (bitsL q) = some (q, 0) := by
  unfold f_turns_Of
  have hbl := bitsL_len q
  have ha : iand .i64 ((bitsL q).length : Int) 1 = 0 := by
    have e : iand .i64 ((bitsL q).length : Int) 1 = IntKind.i64.wrap (((BitVec.ofInt 64 ((bitsL q).length : Int) &&& BitVec.ofInt 64 1).toNat : Nat) : Int) := rfl
    have e3 : (BitVec.ofInt 64 1).toNat = 2 ^ 1 - 1 := by decide
    rw [e, BitVec.toNat_and, e3, Nat.and_two_pow_sub_one_eq_mod, BitVec.toNat_ofInt, hbl, w64 (by omega) (by omega)]
    omega
  rw [ha, if_neg (by simp; omega)]
  have key : ∀ m i : Nat, i + m = q.length → loop (f_turns_Of.s1 (bitsL q)) (q.take i, ((2 * i : Nat) : Int)) = some q := by
    intro m
    induction m with
    | zero =>
      intro i hi
      apply loop_done
      simp only [f_turns_Of.s1, f_turns_Of.s1c]
      rw [if_neg (by simp; omega), List.take_of_length_le (by omega)]
    | succ m ih =>
      intro i hi
      have hil : i < q.length := by omega
      obtain ⟨g0, g1⟩ := bitsL_get q i hil
      have hqi := hq.at i hil
      have e0 : gt (bitsL q) ((2 * i : Nat) : Int) = decide ((0 : Int) < iand .u8 q[i] 2) := by
        rw [gt_nat (by omega)]
        rw [List.getElem?_eq_getElem (by omega)] at g0
        simpa [B] using g0
      have e1 : gt (bitsL q) ((2 * i + 1 : Nat) : Int) = decide ((0 : Int) < iand .u8 (ixor .u8 q[i] (ishr .u8 q[i] 1)) 1) := by
        rw [gt_nat (by omega)]
        rw [List.getElem?_eq_getElem (by omega)] at g1
        simpa [B] using g1
      refine (loop_step ?_).trans (ih (i + 1) (by omega))
      have h1 := of_one q[i] hqi.1 hqi.2
      have k1 : ((2 * i : Nat) : Int) + 1 = ((2 * i + 1 : Nat) : Int) := by omega
      have k2 : ((2 * i : Nat) : Int) + 2 = ((2 * (i + 1) : Nat) : Int) := by omega
      have hb1 : 0 ≤ ((2 * i + 1 : Nat) : Int) ∧ ((2 * i + 1 : Nat) : Int) < ((bitsL q).length : Int) := by omega
      simp only [f_turns_Of.s1, f_turns_Of.s1c, f_turns_Of.j1]
      rw [if_pos (by simp; omega), if_pos (by omega), w64 (x := ((2 * i : Nat) : Int) + 1) (by omega) (by omega), w64 (x := ((2 * i : Nat) : Int) + 2) (by omega) (by omega), k1, k2, if_pos hb1, e0, e1,
        List.take_succ_eq_append_getElem hil]
      by_cases c0 : (0 : Int) < iand .u8 q[i] 2
      · by_cases c1 : (0 : Int) < iand .u8 (ixor .u8 q[i] (ishr .u8 q[i] 1)) 1
        · simp only [c0, c1, decide_true, if_true] at h1 ⊢
          rw [if_pos (by simp; omega), h1]
        · simp only [c0, c1, decide_true, decide_false, if_true, Bool.false_eq_true, if_false] at h1 ⊢
          rw [if_pos (by simp; omega), h1]
      · by_cases c1 : (0 : Int) < iand .u8 (ixor .u8 q[i] (ishr .u8 q[i] 1)) 1
        · simp only [c0, c1, decide_true, decide_false, if_true, Bool.false_eq_true, if_false] at h1 ⊢
          rw [h1]
          rw [if_pos hb1]
          refine if_pos ?_
          simp; omega
        · simp only [c0, c1, decide_false, Bool.false_eq_true, if_false] at h1 ⊢
          rw [← h1]
          rw [if_pos hb1]
          refine if_pos ?_
          simp; omega
  have := key q.length 0 (by omega)
  simp only [List.take_zero, Nat.mul_zero, Int.natCast_zero] at this
  rw [this]; rfl

theorem fit_some (row : List Int) (hw : ∀ x ∈ row, (Lit.int .u8 x).wf = true) (hr : row.length ≤ 140737488351232) : ∃ q, f_foghornlaw06_fit row 300 = some q ∧ Q q ∧ q.length ≤ 300 := by
  unfold f_foghornlaw06_fit
  obtain ⟨q, h1, h2, h3⟩ := loop_inv (f := f_foghornlaw06_fit.s1 row 300) (fun s : List Int × Int => 0 ≤ s.2 ∧ s.2 ≤ 300 ∧ s.2 ≤ row.length ∧ s.1.length = s.2.toNat ∧ Q s.1) (fun s => 300 - s.2.toNat) (fun q : List Int => Q q ∧ q.length ≤ 300) (by
    rintro ⟨o, i⟩ ⟨h1, h2, h3, h4, h5⟩
    simp only at h1 h2 h3 h4 h5
    simp only [f_foghornlaw06_fit.s1, f_foghornlaw06_fit.s1c]
    by_cases hi : i < row.length ∧ i < 300
    · have hx := wf_u8 (hw _ (gt_mem (xs := row) (i := i) (by omega) (by omega)))
      rw [if_pos (by simpa using hi), if_pos (by omega), if_pos (by simp; omega), w64 (by omega) (by omega), Int.tmod_eq_emod_of_nonneg hx.1]
      refine .inl ⟨_, rfl, ⟨by simp; omega, by simp; omega, by simp; omega, by simp; omega, fun x hx' => ?_⟩, by simp; omega⟩
      simp only [List.mem_append, List.mem_singleton] at hx'
      rcases hx' with hx' | rfl
      · exact h5 x hx'
      · omega
    · rw [if_neg (by simpa using hi)]
      exact .inr ⟨_, rfl, h5, by omega⟩) ([], 0) ⟨by simp, by simp, by simp, by simp, fun x hx => by simp at hx⟩
  exact ⟨q, by rw [h1]; rfl, h2, h3⟩

theorem quarters_self (a : List Int) (h : a.length ≤ 65536) : f_foghornlaw06_quarters a a = some true := by
  unfold f_foghornlaw06_quarters
  rw [if_neg (by simp)]
  have := loop_same (f := f_foghornlaw06_quarters.s1 a a) a (· != ·) (by simp) (by omega) false (fun i => rfl)
  rw [this]; rfl

theorem awake_some : f_foghornlaw06_awake = some true := by
  unfold f_foghornlaw06_awake
  have h1 : Q [1, 1, 3, 2] := by intro x hx; simp at hx; omega
  have h2 : Q [1, 2, 1, 3] := by intro x hx; simp at hx; omega
  rw [into_some _ h1 (by decide), out_some _ h2 (by decide)]
  have e1 : into 0 [1, 1, 3, 2] = [1, 2, 1, 3] := by decide
  have e2 : outo 0 [1, 2, 1, 3] = [1, 1, 3, 2] := by decide
  rw [e1, e2]
  simp only [Option.bind_some, beq_self_eq_true, Bool.and_self, if_true, quarters_self [1, 2, 1, 3] (by decide), quarters_self [1, 1, 3, 2] (by decide)]

theorem s3_some : loop f_foghornlaw06_TurnsWhole.s3 (0 : Int) = some (.inl ()) := by
  have one : ∀ k : Nat, k < 4 → f_foghornlaw06_TurnsWhole.s3 (k : Int) = some (.inl ((k + 1 : Nat) : Int)) := by
    intro k hk
    have hq : Q [(k : Int), ((k : Int) + 1) % 4] := by intro x hx; simp at hx; omega
    simp only [f_foghornlaw06_TurnsWhole.s3, f_foghornlaw06_TurnsWhole.s3c]
    have e1 : (IntKind.u8.wrap ((k : Int) + 1)).tmod 4 = ((k : Int) + 1) % 4 := by rw [w8, Int.tmod_eq_emod_of_nonneg (by omega)]; omega
    rw [if_pos (by simp; omega), e1, bits_some _ hq (by simp)]
    have e2 : IntKind.u8.wrap ((k : Int) + 1) = ((k + 1 : Nat) : Int) := by rw [w8]; omega
    rw [e2]
    have : k = 0 ∨ k = 1 ∨ k = 2 ∨ k = 3 := by omega
    rcases this with rfl | rfl | rfl | rfl <;> rfl
  exact loop_for1 (f := f_foghornlaw06_TurnsWhole.s3) 4 (.inl ()) one (by simp only [f_foghornlaw06_TurnsWhole.s3, f_foghornlaw06_TurnsWhole.s3c]; rw [if_neg (by simp)])

theorem whole_true (row : List Int) (w0 : ∀ x ∈ row, (Lit.int .u8 x).wf = true) (r0 : row.length * 1 ≤ 140737488351232) (n : Int) (w1 : (Lit.int .u8 n).wf = true) : f_foghornlaw06_TurnsWhole row n = some true := by
  have hn := wf_u8 w1
  obtain ⟨q, h1, hq, hl⟩ := fit_some row w0 (by omega)
  unfold f_foghornlaw06_TurnsWhole
  have hil := into_len q 0
  have hbl := bitsL_len q
  rw [h1]
  simp only [Option.bind_some]
  rw [into_some q hq (by omega)]
  simp only [Option.bind_some]
  rw [out_some _ (into_Q q 0) (by omega), out_into q hq, bits_some q hq (by omega)]
  simp only [Option.bind_some]
  rw [of_some q hq (by omega)]
  simp only [Option.bind_some, bne_self_eq_false, Bool.or_false, Bool.false_eq_true, if_false, quarters_self q (by omega), Bool.not_true]
  rw [w64 (by omega) (by omega), if_neg (by simp [hbl])]
  have hc : n.tmod 4 = n % 4 := Int.tmod_eq_emod_of_nonneg hn.1
  have hadd : loop (f_foghornlaw06_TurnsWhole.s1 n (into 0 q, 0)) ([], (0 : Int)) = some (addc (n % 4) (into 0 q)) := by
    have hal : (addc (n % 4) (into 0 q)).length = q.length := by simp [addc, hil]
    have := loop_for (f := f_foghornlaw06_TurnsWhole.s1 n (into 0 q, 0)) q.length (fun i => (addc (n % 4) (into 0 q)).take i) (addc (n % 4) (into 0 q)) (fun i hi => ?_) ?_
    · simpa using this
    · have hpi := (into_Q q 0).at i (by omega)
      simp only [f_foghornlaw06_TurnsWhole.s1, f_foghornlaw06_TurnsWhole.s1c]
      rw [if_pos (by simp [hil]; omega), if_pos (by omega), if_pos (by simp [hal]; omega), w64 (by omega) (by omega), List.take_succ_eq_append_getElem (by rw [hal]; exact hi), gt_nat (by omega), hc, w8,
        Int.tmod_eq_emod_of_nonneg (by omega)]
      have e : (into 0 q)[i] + n % 4 < 256 := by omega
      have e2 : ((into 0 q)[i] + n % 4) % 256 = (into 0 q)[i] + n % 4 := by omega
      rw [e2]; simp [addc]
    · simp only [f_foghornlaw06_TurnsWhole.s1, f_foghornlaw06_TurnsWhole.s1c]
      rw [if_neg (by simp [hil]), List.take_of_length_le (by omega)]
  have hQa : Q (addc (n % 4) (into 0 q)) := by
    intro x hx
    simp only [addc, List.mem_map] at hx
    obtain ⟨y, _, rfl⟩ := hx
    omega
  have hal : (addc (n % 4) (into 0 q)).length = q.length := by simp [addc, hil]
  have hol := outo_len (addc (n % 4) (into 0 q)) 0
  rw [hadd]
  simp only [Option.bind_some]
  rw [out_some _ hQa (by omega)]
  simp only [Option.bind_some]
  rw [into_some _ (outo_Q _ _) (by omega), into_out _ hQa 0 (by omega) (by omega)]
  simp only [Option.bind_some, bne_self_eq_false, Bool.false_or, quarters_self _ (show (addc (n % 4) (into 0 q)).length ≤ 65536 by omega)]
  have hlen : (((outo 0 (addc (n % 4) (into 0 q))).length : Int) != (q.length : Int)) = false := by rw [hol, hal]; simp
  rw [hlen]
  simp only [Bool.false_eq_true, if_false, Option.bind_some, Bool.not_true]
  have hs2 : loop (f_foghornlaw06_TurnsWhole.s2 n q (outo 0 (addc (n % 4) (into 0 q)), 0)) (0 : Int) = some (.inl ()) := by
    refine loop_for1 (f := f_foghornlaw06_TurnsWhole.s2 n q (outo 0 (addc (n % 4) (into 0 q)), 0)) q.length _ (fun i hi => ?_) ?_
    · simp only [f_foghornlaw06_TurnsWhole.s2, f_foghornlaw06_TurnsWhole.s2c]
      -- what stands there
      have hget : gt (outo 0 (addc (n % 4) (into 0 q))) (i : Int) = if i = 0 then (q[i] + n % 4) % 4 else q[i] := by
        rw [gt_nat (by omega)]
        cases q with
        | nil => simp at hi
        | cons m q =>
          have hm := hq.head
          have e := out_add (n % 4) q hq.tail ((0 + m) % 4)
          have e4 : outo 0 (addc (n % 4) (into 0 (m :: q))) = ((m + n % 4) % 4) :: q := by
            have e5 : addc (n % 4) (into 0 (m :: q)) = (((0 + m) % 4 + n % 4) % 4) :: addc (n % 4) (into ((0 + m) % 4) q) := rfl
            rw [e5, outo, e]
            congr 1; omega
          simp only [e4]
          cases i with
          | zero => simp
          | succ i => simp
      rw [if_pos (by rw [hol, hal]; simpa using hi), hget]
      by_cases h0 : i = 0
      · subst h0
        have hq0 := hq.at 0 hi
        rw [if_neg (by simp), if_pos (by simp), if_pos (by omega), if_pos (by omega)]
        have hg0 : gt (outo 0 (addc (n % 4) (into 0 q))) (0 : Int) = (q[0] + n % 4) % 4 := by simpa using hget
        have hgq : gt q (0 : Int) = q[0] := gt_nat (i := 0) hi
        rw [hg0, hgq, hc, w8, Int.tmod_eq_emod_of_nonneg (by omega)]
        have e2 : ((q[0] : Int) + n % (4 : Int)) % (256 : Int) = (q[0] : Int) + n % (4 : Int) := by omega
        rw [e2]
        simp only [Option.bind_some, bne_self_eq_false, Bool.false_eq_true, if_false]
        rfl
      · rw [if_pos (by simp; omega), if_pos (by omega), if_pos (by omega), if_neg h0, gt_nat hi]
        simp only [Option.bind_some, bne_self_eq_false, Bool.false_eq_true, if_false]
        rw [if_neg (by simp; omega)]
        simp only [Option.bind_some, Bool.false_eq_true, if_false]
        rw [w64 (by omega) (by omega)]; rfl
    · simp only [f_foghornlaw06_TurnsWhole.s2, f_foghornlaw06_TurnsWhole.s2c]
      rw [if_neg (by rw [hol, hal]; simp)]
  rw [hs2]
  simp only [Option.bind_some, sm, s3_some, awake_some]
end Go.Proofs.Ytienojgmpjpcjaa
