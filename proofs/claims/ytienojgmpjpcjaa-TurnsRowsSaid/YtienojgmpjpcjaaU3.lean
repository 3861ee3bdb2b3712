/- TurnsRows: the plain law. -/
import Derived.Test.YtienojgmpjpcjaaG3
import Derived.Test.YtienojgmpjpcjaaGlK
set_option linter.unusedVariables false
set_option linter.unusedSimpArgs false
namespace Go.Proofs.Ytienojgmpjpcjaa
open GL
theorem w8 (x : Int) : IntKind.u8.wrap x = x % 256 := by
  simp [IntKind.wrap, IntKind.bits, IntKind.signed]
theorem and3 (x : Int) (h0 : 0 ≤ x) (h1 : x < 256) : iand .u8 x 3 = x % 4 := by
  have e : iand .u8 x 3 = IntKind.u8.wrap (((BitVec.ofInt 8 x &&& BitVec.ofInt 8 3).toNat : Nat) : Int) := rfl
  have e3 : (BitVec.ofInt 8 3).toNat = 2 ^ 2 - 1 := by decide
  rw [e, BitVec.toNat_and, e3, Nat.and_two_pow_sub_one_eq_mod, BitVec.toNat_ofInt, w8]
  omega

/-- every one a quarter -/
def Q (q : List Int) : Prop := ∀ x ∈ q, 0 ≤ x ∧ x < 4
theorem Q.at {q : List Int} (h : Q q) (i : Nat) (hi : i < q.length) : 0 ≤ q[i] ∧ q[i] < 4 := h _ (List.getElem_mem hi)

def into (a : Int) : List Int → List Int
  | [] => []
  | n :: q => ((a + n) % 4) :: into ((a + n) % 4) q
def outo (a : Int) : List Int → List Int
  | [] => []
  | n :: q => ((n - a) % 4) :: outo n q
theorem into_len (q : List Int) : ∀ a, (into a q).length = q.length := by
  induction q with
  | nil => intro a; rfl
  | cons n q ih => intro a; simp [into, ih]
theorem outo_len (q : List Int) : ∀ a, (outo a q).length = q.length := by
  induction q with
  | nil => intro a; rfl
  | cons n q ih => intro a; simp [outo, ih]
theorem into_Q (q : List Int) : ∀ a, Q (into a q) := by
  induction q with
  | nil => intro a x hx; simp [into] at hx
  | cons n q ih =>
    intro a x hx
    simp only [into, List.mem_cons] at hx
    rcases hx with rfl | hx
    · omega
    · exact ih _ x hx
theorem outo_Q (q : List Int) : ∀ a, Q (outo a q) := by
  induction q with
  | nil => intro a x hx; simp [outo] at hx
  | cons n q ih =>
    intro a x hx
    simp only [outo, List.mem_cons] at hx
    rcases hx with rfl | hx
    · omega
    · exact ih _ x hx
theorem Q.tail {n : Int} {q : List Int} (h : Q (n :: q)) : Q q := fun x hx => h x (List.mem_cons_of_mem _ hx)
theorem Q.head {n : Int} {q : List Int} (h : Q (n :: q)) : 0 ≤ n ∧ n < 4 := h n (List.mem_cons_self ..)
theorem out_into (q : List Int) (hq : Q q) : ∀ a, outo a (into a q) = q := by
  induction q with
  | nil => intro a; rfl
  | cons n q ih =>
    intro a
    have := hq.head
    simp only [into, outo]
    rw [ih hq.tail]
    congr 1; omega
theorem into_out (q : List Int) (hq : Q q) : ∀ a, 0 ≤ a → a < 4 → into a (outo a q) = q := by
  induction q with
  | nil => intro a _ _; rfl
  | cons n q ih =>
    intro a h0 h1
    have := hq.head
    have e : (a + (n - a) % 4) % 4 = n := by omega
    simp only [outo, into, e]
    rw [ih hq.tail n (by omega) (by omega)]
def addc (c : Int) (q : List Int) : List Int := q.map fun x => (x + c) % 4
theorem out_add (c : Int) (q : List Int) (hq : Q q) : ∀ a, outo ((a + c) % 4) (addc c (into a q)) = q := by
  induction q with
  | nil => intro a; rfl
  | cons n q ih =>
    intro a
    have := hq.head
    have e := ih hq.tail ((a + n) % 4)
    simp only [into, addc, List.map_cons, outo] at e ⊢
    rw [e]
    congr 1; omega

theorem row_some (q : List Int) (hq : Q q) (hl : q.length ≤ 65536) : f_turns_row q = some true := by
  unfold f_turns_row
  have := loop_for1 (f := f_turns_row.s1 q) q.length (.inl ()) (fun i hi => ?_) ?_
  · rw [this]
    simp only [Option.bind_some, sm]
    congr 1; simp; omega
  · have := hq.at i hi
    simp only [f_turns_row.s1, f_turns_row.s1c]
    rw [if_pos (by simpa using hi), if_pos (by omega), gt_nat hi, if_neg (by simp; omega), w64 (by omega) (by omega)]; rfl
  · simp only [f_turns_row.s1, f_turns_row.s1c]
    rw [if_neg (by simp)]

theorem into_some (q : List Int) (hq : Q q) (hl : q.length ≤ 65536) : f_turns_Into q = some (into 0 q, 0) := by
  unfold f_turns_Into f_turns_each
  rw [row_some q hq hl]
  simp only [Option.bind_some, Bool.not_true, Bool.false_eq_true, if_false]
  rw [if_pos (by omega), Int.toNat_natCast]
  have key : ∀ (m i : Nat) (t : Int) (pre : List Int), i + m = q.length → pre.length = i → 0 ≤ t → t < 256 →
      ∃ t', loop (f_turns_each.s1 q) (t, pre ++ List.replicate m (0 : Int), (i : Int)) = some (t', pre ++ into (t % 4) (q.drop i)) := by
    intro m
    induction m with
    | zero =>
      intro i t pre hi hp h0 h1
      refine ⟨t, loop_done ?_⟩
      simp only [f_turns_each.s1, f_turns_each.s1c]
      rw [if_neg (by simp; omega), List.drop_eq_nil_of_le (by omega)]; simp [into]
    | succ m ih =>
      intro i t pre hi hp h0 h1
      have hil : i < q.length := by omega
      have hqi := hq.at i hil
      obtain ⟨t', h⟩ := ih (i + 1) ((t + q[i]) % 256) (pre ++ [(t + q[i]) % 256 % 4]) (by omega) (by simp [hp]) (by omega) (by omega)
      refine ⟨t', (loop_step ?_).trans (h.trans ?_)⟩
      · simp only [f_turns_each.s1, f_turns_each.s1c, f_turns_Into_1]
        rw [if_pos (by simp; omega), if_pos (by omega), gt_nat hil]
        simp only [Option.bind_some]
        rw [if_pos (by simp; omega), w8, and3 _ (by omega) (by omega), w64 (by omega) (by omega), Int.toNat_natCast, List.set_append_right _ _ (by omega), hp]
        simp [List.replicate_succ]
      · rw [List.drop_eq_getElem_cons hil]
        have e : (t + q[i]) % 256 % 4 = (t % 4 + q[i]) % 4 := by omega
        simp only [into, e, List.append_assoc, List.singleton_append]
  obtain ⟨t', h⟩ := key q.length 0 0 [] (by omega) rfl (by omega) (by omega)
  simp only [List.nil_append, List.drop_zero, Int.natCast_zero] at h
  rw [h]; rfl

theorem out_some (q : List Int) (hq : Q q) (hl : q.length ≤ 65536) : f_turns_Out q = some (outo 0 q, 0) := by
  unfold f_turns_Out f_turns_each_33
  rw [row_some q hq hl]
  simp only [Option.bind_some, Bool.not_true, Bool.false_eq_true, if_false]
  rw [if_pos (by omega), Int.toNat_natCast]
  have key : ∀ (m i : Nat) (t : Int) (pre : List Int), i + m = q.length → pre.length = i → 0 ≤ t → t < 4 →
      ∃ t', loop (f_turns_each_33.s1 q) (t, pre ++ List.replicate m (0 : Int), (i : Int)) = some (t', pre ++ outo t (q.drop i)) := by
    intro m
    induction m with
    | zero =>
      intro i t pre hi hp h0 h1
      refine ⟨t, loop_done ?_⟩
      simp only [f_turns_each_33.s1, f_turns_each_33.s1c]
      rw [if_neg (by simp; omega), List.drop_eq_nil_of_le (by omega)]; simp [outo]
    | succ m ih =>
      intro i t pre hi hp h0 h1
      have hil : i < q.length := by omega
      have hqi := hq.at i hil
      obtain ⟨t', h⟩ := ih (i + 1) q[i] (pre ++ [(q[i] - t) % 256 % 4]) (by omega) (by simp [hp]) (by omega) (by omega)
      refine ⟨t', (loop_step ?_).trans (h.trans ?_)⟩
      · simp only [f_turns_each_33.s1, f_turns_each_33.s1c, f_turns_Out_1]
        rw [if_pos (by simp; omega), if_pos (by omega), gt_nat hil]
        simp only [Option.bind_some]
        rw [if_pos (by simp; omega), w8, and3 _ (by omega) (by omega), w64 (by omega) (by omega), Int.toNat_natCast, List.set_append_right _ _ (by omega), hp]
        simp [List.replicate_succ]
      · rw [List.drop_eq_getElem_cons hil]
        have e : (q[i] - t) % 256 % 4 = (q[i] - t) % 4 := by omega
        simp only [outo, e, List.append_assoc, List.singleton_append]
  obtain ⟨t', h⟩ := key q.length 0 0 [] (by omega) rfl (by omega) (by omega)
  simp only [List.nil_append, List.drop_zero, Int.natCast_zero] at h
  rw [h]; rfl

def B (n : Int) : List Bool := [decide ((0 : Int) < iand .u8 n 2), decide ((0 : Int) < iand .u8 (ixor .u8 n (ishr .u8 n 1)) 1)]
def bitsL (q : List Int) : List Bool := q.flatMap B
theorem bitsL_len (q : List Int) : (bitsL q).length = 2 * q.length := by
  induction q with
  | nil => rfl
  | cons n q ih => simp [bitsL, B] at ih ⊢; omega
theorem bitsL_app (q : List Int) (n : Int) : bitsL (q ++ [n]) = bitsL q ++ B n := by simp [bitsL]

theorem bits_some (q : List Int) (hq : Q q) (hl : q.length ≤ 16384) : f_turns_Bits q = some (bitsL q, 0) := by
  unfold f_turns_Bits
  rw [row_some q hq (by omega)]
  simp only [Option.bind_some]
  rw [w64 (by omega) (by omega), if_neg (by simp; omega)]
  have := loop_for (f := f_turns_Bits.s1 q) q.length (fun i => bitsL (q.take i)) (bitsL q) (fun i hi => ?_) ?_
  · have e : bitsL (q.take 0) = [] := by simp [bitsL]
    simp only [e] at this
    rw [this]; rfl
  · simp only [f_turns_Bits.s1, f_turns_Bits.s1c]
    rw [if_pos (by simpa using hi), if_pos (by omega), if_pos (by simp [bitsL_len]; omega), w64 (by omega) (by omega), List.take_succ_eq_append_getElem hi, bitsL_app, gt_nat hi]; rfl
  · simp only [f_turns_Bits.s1, f_turns_Bits.s1c]
    rw [if_neg (by simp), List.take_of_length_le (Nat.le_refl _)]

theorem quarters_self (a : List Int) (h : a.length ≤ 65536) : f_foghornlaw06_quarters a a = some true := by
  unfold f_foghornlaw06_quarters
  rw [if_neg (by simp)]
  have := loop_same (f := f_foghornlaw06_quarters.s1 a a) a (· != ·) (by simp) (by omega) false (fun i => rfl)
  rw [this]; rfl

theorem awake_some : f_foghornlaw06_awake = some true := by
  unfold f_foghornlaw06_awake
  have h1 : Q [1, 1, 3, 2] := by intro x hx; simp at hx; omega
  have h2 : Q [1, 2, 1, 3] := by intro x hx; simp at hx; omega
  rw [into_some _ h1 (by decide), out_some _ h2 (by decide)]
  have e1 : into 0 [1, 1, 3, 2] = [1, 2, 1, 3] := by decide
  have e2 : outo 0 [1, 2, 1, 3] = [1, 1, 3, 2] := by decide
  rw [e1, e2]
  simp only [Option.bind_some, beq_self_eq_true, Bool.and_self, if_true, quarters_self [1, 2, 1, 3] (by decide), quarters_self [1, 1, 3, 2] (by decide)]

theorem lst {σ R : Type} {f : σ → Option (σ ⊕ R)} (n : Nat) (g : Nat → σ) (r : R)
    (h1 : ∀ i : Nat, i < n → f (g i) = some (.inl (g (i + 1)))) (h2 : f (g n) = some (.inr r)) : loop f (g 0) = some r := by
  have : ∀ k i : Nat, i + k = n → loop f (g i) = some r := by
    intro k
    induction k with
    | zero => intro i hi; obtain rfl : i = n := by omega
              exact loop_done h2
    | succ k ih => intro i hi; rw [loop_step (h1 i (by omega))]; exact ih (i + 1) (by omega)
  exact this n 0 (by omega)
theorem mid_set {α : Type} {A B : List α} (v x : α) {n : Nat} (h : A.length = n) : (A ++ v :: B).set n x = A ++ x :: B := by
  rw [List.set_append_right _ _ (by omega), h, Nat.sub_self, List.set_cons_zero]
theorem mid_gt {α : Type} [Inhabited α] {A B : List α} (v : α) {n : Nat} (h : A.length = n) : gt (A ++ v :: B) (n : Int) = v := by
  rw [gt_nat (by simp; omega), List.getElem_append_right (by omega)]; simp [h]
def W (q : List Int) : Prop := ∀ x ∈ q, 0 ≤ x ∧ x < 256
theorem W.at {q : List Int} (h : W q) (i : Nat) (hi : i < q.length) : 0 ≤ q[i] ∧ q[i] < 256 := h _ (List.getElem_mem hi)
theorem row_loop (q : List Int) (hw : W q) (hl : q.length < 140737488355328) : (Q q ∧ loop (f_turns_row.s1 q) 0 = some (.inl ())) ∨ (¬ Q q ∧ loop (f_turns_row.s1 q) 0 = some (.inr false)) := by
  obtain ⟨r, h1, h2⟩ := loop_inv (f := f_turns_row.s1 q) (fun i : Int => 0 ≤ i ∧ i ≤ q.length ∧ ∀ j : Nat, (hj : j < q.length) → (j : Int) < i → q[j] < 4) (fun i => q.length - i.toNat) (fun r => (r = .inl () ∧ Q q) ∨ (r = .inr false ∧ ¬ Q q)) (by
    intro i ⟨i0, i1, i2⟩
    simp only [f_turns_row.s1, f_turns_row.s1c]
    by_cases hi : i < q.length
    · obtain ⟨k, rfl⟩ : ∃ k : Nat, i = (k : Int) := ⟨i.toNat, by omega⟩
      have hk : k < q.length := by omega
      rw [if_pos (by rw [decide_eq_true_eq]; omega), if_pos (by omega), gt_nat hk]
      have hx := hw.at k hk
      by_cases hc : 3 < q[k]
      · rw [if_pos (by rw [decide_eq_true_eq]; exact hc)]
        refine .inr ⟨_, rfl, .inr ⟨rfl, fun hq => ?_⟩⟩
        have := hq.at k hk
        omega
      · rw [if_neg (by rw [decide_eq_true_eq]; exact hc), w64 (by omega) (by omega)]
        refine .inl ⟨_, rfl, ⟨by omega, by omega, fun j hj hji => ?_⟩, by omega⟩
        by_cases hjk : j = k
        · subst hjk; omega
        · exact i2 j hj (by omega)
    · rw [if_neg (by rw [decide_eq_true_eq]; omega)]
      refine .inr ⟨_, rfl, .inl ⟨rfl, fun x hx => ?_⟩⟩
      obtain ⟨j, hj, rfl⟩ := List.getElem_of_mem hx
      have := hw.at j hj
      have := i2 j hj (by omega)
      omega) 0 ⟨by omega, by omega, fun j hj hji => by omega⟩
  rcases h2 with ⟨rfl, h⟩ | ⟨rfl, h⟩
  · exact .inl ⟨h, h1⟩
  · exact .inr ⟨h, h1⟩
theorem row_two (q : List Int) (hw : W q) (hl : q.length < 140737488355328) :
    ((Q q ∧ q.length ≤ 65536) ∧ f_foghornref06_row q = some true) ∨ (f_turns_row q = some false ∧ f_foghornref06_row q = some false) := by
  have e : f_foghornref06_row.s1 q = f_turns_row.s1 q := rfl
  unfold f_foghornref06_row f_turns_row
  rw [e]
  rcases row_loop q hw hl with ⟨hq, h⟩ | ⟨hq, h⟩
  · rw [h]
    by_cases hc : q.length ≤ 65536
    · left
      refine ⟨⟨hq, hc⟩, ?_⟩
      rw [if_neg (by rw [decide_eq_true_eq]; omega)]; rfl
    · right
      rw [if_pos (by rw [decide_eq_true_eq]; omega)]
      refine ⟨?_, rfl⟩
      simp only [Option.bind_some, sm]
      congr 1; rw [decide_eq_false_iff_not]; omega
  · right
    rw [h]
    refine ⟨rfl, ?_⟩
    split
    · rfl
    · rfl
theorem gt_nat' {α : Type} [Inhabited α] {xs : List α} {i : Nat} (h : i < xs.length) : xs[i] = gt xs (i : Int) := (gt_nat h).symm
def intoF (q : List Int) : Nat → Int
  | 0 => 0
  | i + 1 => (intoF q i + gt q (i : Int)) % 4
theorem intoF_b (q : List Int) : ∀ i, 0 ≤ intoF q i ∧ intoF q i < 4
  | 0 => by simp [intoF]
  | i + 1 => by simp only [intoF]; omega
theorem rinto_some (q : List Int) (hq : Q q) (hl : q.length ≤ 65536) (hr : f_foghornref06_row q = some true) : f_foghornref06_Into q = some (into 0 q, 0) := by
  unfold f_foghornref06_Into
  rw [hr]
  simp only [Option.bind_some, Bool.not_true, Bool.false_eq_true, if_false]
  have key : ∀ (m i : Nat) (a : Int) (pre : List Int), i + m = q.length → pre.length = i → 0 ≤ a → a < 4 →
      loop (f_foghornref06_Into.s1 q) (pre, a, (i : Int)) = some (pre ++ into a (q.drop i)) := by
    intro m
    induction m with
    | zero =>
      intro i a pre hi hp h0 h1
      refine loop_done ?_
      simp only [f_foghornref06_Into.s1, f_foghornref06_Into.s1c]
      rw [if_neg (by rw [decide_eq_true_eq]; omega), List.drop_eq_nil_of_le (by omega)]; simp [into]
    | succ m ih =>
      intro i a pre hi hp h0 h1
      have hil : i < q.length := by omega
      have hqi := hq.at i hil
      have h := ih (i + 1) ((a + q[i]) % 4) (pre ++ [(a + q[i]) % 4]) (by omega) (by simp [hp]) (by omega) (by omega)
      refine (loop_step ?_).trans (h.trans ?_)
      · simp only [f_foghornref06_Into.s1, f_foghornref06_Into.s1c]
        have e : (IntKind.u8.wrap (a + q[i])).tmod 4 = (a + q[i]) % 4 := by rw [w8, Int.tmod_eq_emod_of_nonneg (by omega)]; omega
        rw [if_pos (by rw [decide_eq_true_eq]; omega), if_pos (by omega), gt_nat hil, e, if_pos (by simp only [List.length_cons, List.length_nil]; omega), w64 (by omega) (by omega)]; rfl
      · rw [List.drop_eq_getElem_cons hil]
        simp only [into, List.append_assoc, List.singleton_append]
  have h := key q.length 0 0 [] (by omega) rfl (by omega) (by omega)
  simp only [List.nil_append, List.drop_zero, Int.natCast_zero] at h
  rw [h]; rfl
theorem outo_take (q : List Int) : ∀ (a : Int) (i : Nat) (hi : i < q.length), (outo a q)[i]'(by rw [outo_len]; exact hi) = if h : i = 0 then (q[0]'(by omega) - a) % 4 else (q[i] - q[i - 1]) % 4 := by
  induction q with
  | nil => intro a i hi; simp at hi
  | cons n q ih =>
    intro a i hi
    cases i with
    | zero => simp [outo]
    | succ i =>
      simp only [outo, List.getElem_cons_succ, Nat.succ_ne_zero, dif_neg, Nat.add_sub_cancel, not_false_eq_true]
      rw [ih n i (by simpa using hi)]
      cases i with
      | zero => simp
      | succ i => simp
theorem rout_some (q : List Int) (hq : Q q) (hl : q.length ≤ 65536) (hr : f_foghornref06_row q = some true) : f_foghornref06_Out q = some (outo 0 q, 0) := by
  unfold f_foghornref06_Out
  rw [hr]
  simp only [Option.bind_some, Bool.not_true, Bool.false_eq_true, if_false]
  have hol := outo_len q 0
  have := loop_for (f := f_foghornref06_Out.s1 q) q.length (fun i => (outo 0 q).take i) (outo 0 q) (fun i hi => ?_) ?_
  · rw [List.take_zero] at this
    rw [this]; rfl
  · simp only [f_foghornref06_Out.s1, f_foghornref06_Out.s1c]
    have hqi := hq.at i hi
    have hL : ((outo 0 q).take i).length = i := by rw [List.length_take]; omega
    have ht : (outo 0 q).take (i + 1) = (outo 0 q).take i ++ [(outo 0 q)[i]] := List.take_succ_eq_append_getElem (by omega)
    have hv := outo_take q 0 i hi
    rw [if_pos (by rw [decide_eq_true_eq]; omega)]
    by_cases h0 : i = 0
    · subst h0
      rw [dif_pos rfl] at hv
      have hg : gt q (0 : Int) = q[0] := gt_nat (i := 0) hi
      have e0 : ((q[0] : Int) - (0 : Int)) % (4 : Int) = q[0] := by omega
      rw [e0] at hv
      rw [if_pos (by simp), if_pos (by omega), if_pos (by simp only [List.length_cons, List.length_nil, hL]; omega), w64 (by omega) (by omega), hg, ht, hv]; rfl
    · have hg : gt q ((i : Int) - 1) = q[i - 1] := by
        rw [show (i : Int) - 1 = ((i - 1 : Nat) : Int) by omega, gt_nat]
      have hqp := hq.at (i - 1) (by omega)
      rw [dif_neg h0] at hv
      have e : (IntKind.u8.wrap (IntKind.u8.wrap (q[i] + 4) - q[i - 1])).tmod 4 = (q[i] - q[i - 1]) % 4 := by
        rw [w8, w8, Int.tmod_eq_emod_of_nonneg (by omega)]; omega
      rw [if_neg (by simp; omega), if_pos (by omega), w64 (x := (i : Int) - 1) (by omega) (by omega), if_pos (by omega), hg, gt_nat hi, e,
        if_pos (by simp only [List.length_cons, List.length_nil, hL]; omega), w64 (by omega) (by omega), ht, hv]; rfl
  · simp only [f_foghornref06_Out.s1, f_foghornref06_Out.s1c]
    rw [if_neg (by simp), List.take_of_length_le (by omega)]

theorem both_into (q : List Int) (hw : W q) (hl : q.length < 140737488355328) : ∃ x e, f_turns_Into q = some (x, e) ∧ f_foghornref06_Into q = some (x, e) ∧ x.length ≤ 65536 := by
  rcases row_two q hw hl with ⟨⟨hq, h1⟩, h2⟩ | ⟨h1, h2⟩
  · exact ⟨_, _, into_some q hq h1, rinto_some q hq h1 h2, by rw [into_len]; exact h1⟩
  · refine ⟨[], 1, ?_, ?_, by simp⟩
    · unfold f_turns_Into f_turns_each; rw [h1]; rfl
    · unfold f_foghornref06_Into; rw [h2]; rfl
theorem both_out (q : List Int) (hw : W q) (hl : q.length < 140737488355328) :
    ((q.length ≤ 65536 ∧ f_turns_Out q = some (outo 0 q, 0) ∧ f_foghornref06_Out q = some (outo 0 q, 0)) ∨ (f_turns_Out q = some ([], 1) ∧ f_foghornref06_Out q = some ([], 1))) := by
  rcases row_two q hw hl with ⟨⟨hq, h1⟩, h2⟩ | ⟨h1, h2⟩
  · exact .inl ⟨h1, out_some q hq h1, rout_some q hq h1 h2⟩
  · refine .inr ⟨?_, ?_⟩
    · unfold f_turns_Out f_turns_each_33; rw [h1]; rfl
    · unfold f_foghornref06_Out; rw [h2]; rfl

/-! marks -/
def mk (there : List Bool) (i : Nat) : Bool := gt there (i : Int) && (if i = 0 then true else gt there ((i : Int) - 1))
def zq (there : List Bool) (o : List Int) : Nat → List Int
  | 0 => o
  | i + 1 => if mk there i then zq there o i else (zq there o i).set i 0
theorem zq_len (there : List Bool) (o : List Int) : ∀ i, (zq there o i).length = o.length
  | 0 => rfl
  | i + 1 => by simp only [zq]; split <;> simp [zq_len there o i]
def mks (there : List Bool) (i : Nat) : List Bool := (List.range i).map (mk there)
theorem mks_len (there : List Bool) (i : Nat) : (mks there i).length = i := by simp [mks]
theorem mks_succ (there : List Bool) (i : Nat) : mks there (i + 1) = mks there i ++ [mk there i] := by simp [mks, List.range_succ]
def lastt (there : List Bool) (i : Nat) : Bool := if i = 0 then true else gt there ((i : Int) - 1)
theorem marked_loop (there : List Bool) (o : List Int) (n : Nat) (ht : there.length = n) (ho : o.length = n) (hn : n ≤ 65536) :
    loop (f_turns_Marked.s1 there) (o, List.replicate n false, true, 0) = some (zq there o n, mks there n) := by
  have := lst (f := f_turns_Marked.s1 there) n (fun i => (zq there o i, mks there i ++ List.replicate (n - i) false, lastt there i, (i : Int))) (zq there o n, mks there n) (fun i hi => ?_) ?_
  · simpa [zq, mks, lastt] using this
  · simp only [f_turns_Marked.s1, f_turns_Marked.s1c]
    have e : List.replicate (n - i) false = false :: List.replicate (n - (i + 1)) false := by rw [← List.replicate_succ]; congr 1; omega
    have hm := mks_len there i
    have hz := zq_len there o i
    have em : (gt there (i : Int) && lastt there i) = mk there i := rfl
    have ew : IntKind.i64.wrap ((i : Int) + 1) = ((i + 1 : Nat) : Int) := by rw [w64 (by omega) (by omega)]; rfl
    have el : gt there (i : Int) = lastt there (i + 1) := by
      simp only [lastt]; rw [if_neg (by omega)]; congr 1; omega
    have hL : ∀ (x : Bool) (y : List Bool), (mks there i ++ x :: y).length = i + 1 + y.length := fun x y => by simp [hm]; omega
    rw [if_pos (by rw [decide_eq_true_eq]; omega), if_pos (by omega), em, e, Int.toNat_natCast, mid_set _ _ hm, mid_gt _ hm, hL, hL, if_pos (by omega), if_pos (by omega), ew, el, mks_succ]
    have ea : mks there i ++ mk there i :: List.replicate (n - (i + 1)) false = mks there i ++ [mk there i] ++ List.replicate (n - (i + 1)) false := by simp
    cases hk : mk there i
    · rw [if_pos (show (!false) = true from rfl), if_pos (by omega)]
      simp [zq, hk]
    · rw [if_neg (by decide)]
      simp [zq, hk]
  · simp only [f_turns_Marked.s1, f_turns_Marked.s1c]
    rw [if_neg (by rw [ht]; simp)]
    simp
theorem rmarked_loop (q : List Int) (there : List Bool) (o : List Int) (n : Nat) (hq : q.length = n) (ht : there.length = n) (ho : o.length = n) (hn : n ≤ 65536) :
    loop (f_foghornref06_Marked.s1 q there) (o, [], 0) = some (zq there o n, mks there n) := by
  have := lst (f := f_foghornref06_Marked.s1 q there) n (fun i => (zq there o i, mks there i, (i : Int))) (zq there o n, mks there n) (fun i hi => ?_) ?_
  · simpa [zq, mks] using this
  · simp only [f_foghornref06_Marked.s1, f_foghornref06_Marked.s1c]
    have hm := mks_len there i
    have hz := zq_len there o i
    have ew : IntKind.i64.wrap ((i : Int) + 1) = ((i + 1 : Nat) : Int) := by rw [w64 (by omega) (by omega)]; rfl
    have ez : (if gt there (i : Int) = true then ((if ((i : Int) == (0 : Int)) = true then (some true) else (if 0 ≤ (IntKind.i64.wrap ((i : Int) - (1 : Int))) ∧ (IntKind.i64.wrap ((i : Int) - (1 : Int))) < (there.length : Int) then (some (gt there (IntKind.i64.wrap ((i : Int) - (1 : Int))))) else none)).bind fun z23 => (some z23)) else (some false)) = some (mk there i) := by
      unfold mk
      rw [w64 (x := (i : Int) - 1) (by omega) (by omega)]
      by_cases h0 : i = 0
      · subst h0; cases h : gt there ((0 : Nat) : Int) <;> simp_all
      · rw [if_neg h0, if_neg (show ¬ (((i : Int) == 0) = true) by simp; omega), if_pos (show 0 ≤ (i : Int) - 1 ∧ (i : Int) - 1 < (there.length : Int) by omega)]
        cases h : gt there (i : Int) <;> rfl
    rw [if_pos (by rw [decide_eq_true_eq]; omega), if_pos (by omega), ez]
    simp only [Option.bind_some]
    rw [ew, Int.toNat_natCast, mks_succ]
    cases hk : mk there i
    · rw [if_pos (show (!false) = true from rfl), if_pos (by omega), if_pos (by simp only [List.length_cons, List.length_nil]; omega)]
      simp [zq, hk]
    · rw [if_neg (by decide), if_pos (by simp only [List.length_cons, List.length_nil]; omega)]
      simp [zq, hk]
  · simp only [f_foghornref06_Marked.s1, f_foghornref06_Marked.s1c]
    rw [if_neg (by rw [hq]; simp)]
theorem both_marked (q : List Int) (there : List Bool) (hw : W q) (hl : q.length < 140737488355328) (ht : there.length < 140737488355328) :
    ∃ x y e, f_turns_Marked q there = some (x, y, e) ∧ f_foghornref06_Marked q there = some (x, y, e) ∧ x.length ≤ 65536 ∧ y.length ≤ 65536 := by
  unfold f_turns_Marked f_foghornref06_Marked
  rcases both_out q hw hl with ⟨h0, h1, h2⟩ | ⟨h1, h2⟩
  · rw [h1, h2]
    simp only [Option.bind_some]
    by_cases hc : there.length = q.length
    · have ho := outo_len q 0
      have hcc : ((((0 : Int) != (0 : Int)) || ((there.length : Int) != (q.length : Int))) = true) = False := by simp [hc]
      simp only [hcc, if_false]
      rw [if_pos (by omega), Int.toNat_natCast, marked_loop there (outo 0 q) q.length hc ho h0, rmarked_loop q there (outo 0 q) q.length rfl hc ho h0]
      exact ⟨_, _, _, rfl, rfl, by rw [zq_len]; omega, by rw [mks_len]; omega⟩
    · rw [if_pos (by simp; omega), if_pos (by simp; omega)]
      exact ⟨_, _, _, rfl, rfl, by simp, by simp⟩
  · rw [h1, h2]
    exact ⟨_, _, _, rfl, rfl, by simp, by simp⟩
theorem B_alt (n : Int) (h0 : 0 ≤ n) (h1 : n < 4) : B n = [decide (2 ≤ n), (n == 1) || (n == 2)] := by
  have : n = 0 ∨ n = 1 ∨ n = 2 ∨ n = 3 := by omega
  rcases this with rfl | rfl | rfl | rfl <;> decide
theorem rbits_some (q : List Int) (hq : Q q) (hl : q.length ≤ 16384) (hr : f_foghornref06_row q = some true) : f_foghornref06_Bits q = some (bitsL q, 0) := by
  unfold f_foghornref06_Bits
  rw [hr]
  simp only [Option.bind_some]
  rw [w64 (by omega) (by omega), if_neg (by simp; omega)]
  have := loop_for (f := f_foghornref06_Bits.s1 q) q.length (fun i => bitsL (q.take i)) (bitsL q) (fun i hi => ?_) ?_
  · have e : bitsL (q.take 0) = [] := by simp [bitsL]
    simp only [e] at this
    rw [this]; rfl
  · simp only [f_foghornref06_Bits.s1, f_foghornref06_Bits.s1c]
    have hqi := hq.at i hi
    have hb := B_alt q[i] hqi.1 hqi.2
    have hii : 0 ≤ (i : Int) ∧ (i : Int) < (q.length : Int) := by omega
    rw [if_pos (by rw [decide_eq_true_eq]; omega)]
    simp only [hii, and_self, if_true]
    rw [gt_nat hi]
    have ez : (if ((q[i] : Int) == 1) = true then (some true) else some ((q[i] : Int) == 2)) = some (((q[i] : Int) == 1) || ((q[i] : Int) == 2)) := by
      cases (q[i] : Int) == 1 <;> rfl
    rw [ez]
    simp only [Option.bind_some]
    rw [if_pos (by simp only [bitsL_len, List.length_take, List.length_cons, List.length_nil]; omega), w64 (by omega) (by omega), List.take_succ_eq_append_getElem hi, bitsL_app, hb]; rfl
  · simp only [f_foghornref06_Bits.s1, f_foghornref06_Bits.s1c]
    rw [if_neg (by simp), List.take_of_length_le (Nat.le_refl _)]
theorem both_bits (q : List Int) (hw : W q) (hl : q.length < 140737488355328) : ∃ x e, f_turns_Bits q = some (x, e) ∧ f_foghornref06_Bits q = some (x, e) ∧ x.length ≤ 65536 := by
  rcases row_two q hw hl with ⟨⟨hq, h1⟩, h2⟩ | ⟨h1, h2⟩
  · by_cases hc : q.length ≤ 16384
    · exact ⟨_, _, bits_some q hq hc, rbits_some q hq hc h2, by rw [bitsL_len]; omega⟩
    · refine ⟨[], 1, ?_, ?_, by simp⟩
      · unfold f_turns_Bits; rw [row_some q hq h1]; simp only [Option.bind_some]; rw [w64 (by omega) (by omega), if_pos (by simp; omega)]
      · unfold f_foghornref06_Bits; rw [h2]; simp only [Option.bind_some]; rw [w64 (by omega) (by omega), if_pos (by simp; omega)]
  · refine ⟨[], 1, ?_, ?_, by simp⟩
    · unfold f_turns_Bits; rw [h1]; rfl
    · unfold f_foghornref06_Bits; rw [h2]; rfl
theorem counts_loop (q : List Int) (hq : Q q) (hl : q.length ≤ 65536) : ∃ r, loop (f_turns_Counts.s1 q) (0, 0, 0, 0, 0) = some r := by
  obtain ⟨r, h1, h2⟩ := loop_inv (f := f_turns_Counts.s1 q) (fun s : Int × Int × Int × Int × Int => 0 ≤ s.2.2.2.2 ∧ s.2.2.2.2 ≤ q.length) (fun s => q.length - s.2.2.2.2.toNat) (fun _ => True) (by
    rintro ⟨a, b, c, d, i⟩ ⟨i0, i1⟩
    simp only at i0 i1
    simp only [f_turns_Counts.s1, f_turns_Counts.s1c]
    by_cases hi : i < q.length
    · obtain ⟨k, rfl⟩ : ∃ k : Nat, i = (k : Int) := ⟨i.toNat, by omega⟩
      have hk : k < q.length := by omega
      have hx := hq.at k hk
      rw [if_pos (by rw [decide_eq_true_eq]; omega), if_pos (by omega), gt_nat hk, if_pos (by omega), if_pos (by omega), w64 (x := (k : Int) + 1) (by omega) (by omega)]
      exact .inl ⟨_, rfl, ⟨by simp only; omega, by simp only; omega⟩, by simp only; omega⟩
    · rw [if_neg (by rw [decide_eq_true_eq]; omega)]
      exact .inr ⟨_, rfl, trivial⟩) (0, 0, 0, 0, 0) ⟨by simp, by simp⟩
  exact ⟨r, h1⟩
theorem both_counts (q : List Int) (hw : W q) (hl : q.length < 140737488355328) : ∃ x, f_turns_Counts q = some x ∧ f_foghornref06_Counts q = some x := by
  have e : f_foghornref06_Counts.s1 q = f_turns_Counts.s1 q := rfl
  unfold f_turns_Counts f_foghornref06_Counts
  rw [e]
  rcases row_two q hw hl with ⟨⟨hq, h1⟩, h2⟩ | ⟨h1, h2⟩
  · obtain ⟨r, hr⟩ := counts_loop q hq h1
    rw [row_some q hq h1, h2, hr]
    exact ⟨_, rfl, rfl⟩
  · rw [h1, h2]
    exact ⟨_, rfl, rfl⟩
def ob2 (x y : Bool) : Int := if x then (if y then 2 else 3) else (if y then 1 else 0)
def ofL : List Bool → List Int
  | x :: y :: r => ob2 x y :: ofL r
  | _ => []
def ofT (b : List Bool) (i : Nat) : List Int := (List.range i).map fun j => ob2 (gt b ((2 * j : Nat) : Int)) (gt b ((2 * j + 1 : Nat) : Int))
theorem ofT_len (b : List Bool) (i : Nat) : (ofT b i).length = i := by simp [ofT]
theorem ofT_succ (b : List Bool) (i : Nat) : ofT b (i + 1) = ofT b i ++ [ob2 (gt b ((2 * i : Nat) : Int)) (gt b ((2 * i + 1 : Nat) : Int))] := by simp [ofT, List.range_succ]
theorem x1 : ixor .u8 3 1 = 2 := by decide
theorem x2 : ixor .u8 0 1 = 1 := by decide
theorem of_even (b : List Bool) (n : Nat) (hb : b.length = 2 * n) (hl : b.length ≤ 32768) : f_turns_Of b = some (ofT b n, 0) := by
  unfold f_turns_Of
  have ha : iand .i64 (b.length : Int) 1 = 0 := by
    have e : iand .i64 (b.length : Int) 1 = IntKind.i64.wrap (((BitVec.ofInt 64 (b.length : Int) &&& BitVec.ofInt 64 1).toNat : Nat) : Int) := rfl
    have e3 : (BitVec.ofInt 64 1).toNat = 2 ^ 1 - 1 := by decide
    rw [e, BitVec.toNat_and, e3, Nat.and_two_pow_sub_one_eq_mod, BitVec.toNat_ofInt, hb, w64 (by omega) (by omega)]
    omega
  rw [ha, if_neg (by simp; omega)]
  have := lst (f := f_turns_Of.s1 b) n (fun i => (ofT b i, ((2 * i : Nat) : Int))) (ofT b n) (fun i hi => ?_) ?_
  · have e : (ofT b 0, ((2 * 0 : Nat) : Int)) = ([], (0 : Int)) := rfl
    rw [e] at this
    rw [this]; rfl
  · simp only [f_turns_Of.s1, f_turns_Of.s1c, f_turns_Of.j1]
    have hL := ofT_len b i
    have e1 : IntKind.i64.wrap (((2 * i : Nat) : Int) + 1) = ((2 * i + 1 : Nat) : Int) := by rw [w64 (by omega) (by omega)]; rfl
    have e2 : IntKind.i64.wrap (((2 * i : Nat) : Int) + 2) = ((2 * (i + 1) : Nat) : Int) := by rw [w64 (by omega) (by omega)]; omega
    have hb1 : 0 ≤ ((2 * i + 1 : Nat) : Int) ∧ ((2 * i + 1 : Nat) : Int) < (b.length : Int) := by omega
    have hz : ∀ v : Int, ((ofT b i).length + [v].length) * 1 ≤ 140737488355328 := fun v => by simp only [List.length_cons, List.length_nil]; omega
    rw [if_pos (by rw [decide_eq_true_eq]; omega), if_pos (by omega), e1, e2, ofT_succ, x1, x2]
    simp only [hb1, hz, and_self, if_true]
    cases gt b ((2 * i : Nat) : Int) <;> cases gt b ((2 * i + 1 : Nat) : Int) <;> rfl
  · simp only [f_turns_Of.s1, f_turns_Of.s1c]
    rw [if_neg (by rw [decide_eq_true_eq]; omega)]
theorem rof_even (b : List Bool) (n : Nat) (hb : b.length = 2 * n) (hl : b.length ≤ 32768) : f_foghornref06_Of b = some (ofT b n, 0) := by
  unfold f_foghornref06_Of
  rw [if_neg (by rw [Int.tmod_eq_emod_of_nonneg (by omega)]; simp; omega)]
  have := lst (f := f_foghornref06_Of.s1 b) n (fun i => (ofT b i, ((2 * i : Nat) : Int))) (ofT b n) (fun i hi => ?_) ?_
  · have e : (ofT b 0, ((2 * 0 : Nat) : Int)) = ([], (0 : Int)) := rfl
    rw [e] at this
    rw [this]; rfl
  · simp only [f_foghornref06_Of.s1, f_foghornref06_Of.s1c]
    have hL := ofT_len b i
    have e1 : IntKind.i64.wrap (((2 * i : Nat) : Int) + 1) = ((2 * i + 1 : Nat) : Int) := by rw [w64 (by omega) (by omega)]; rfl
    have e2 : IntKind.i64.wrap (((2 * i : Nat) : Int) + 2) = ((2 * (i + 1) : Nat) : Int) := by rw [w64 (by omega) (by omega)]; omega
    have hb1 : 0 ≤ ((2 * i + 1 : Nat) : Int) ∧ ((2 * i + 1 : Nat) : Int) < (b.length : Int) := by omega
    have hb0 : 0 ≤ ((2 * i : Nat) : Int) ∧ ((2 * i : Nat) : Int) < (b.length : Int) := by omega
    have hz : ∀ v : Int, ((ofT b i).length + [v].length) * 1 ≤ 140737488355328 := fun v => by simp only [List.length_cons, List.length_nil]; omega
    rw [if_pos (by rw [decide_eq_true_eq]; omega), if_pos hb0, e1, e2, ofT_succ]
    simp only [hb1, hb0, hz, and_self, if_true]
    cases gt b ((2 * i : Nat) : Int) <;> cases gt b ((2 * i + 1 : Nat) : Int) <;> rfl
  · simp only [f_foghornref06_Of.s1, f_foghornref06_Of.s1c]
    rw [if_neg (by rw [decide_eq_true_eq]; omega)]
theorem both_of (b : List Bool) (hl : b.length < 140737488355328) : ∃ x e, f_turns_Of b = some (x, e) ∧ f_foghornref06_Of b = some (x, e) ∧ x.length ≤ 65536 := by
  by_cases hc : b.length ≤ 32768 ∧ b.length % 2 = 0
  · have hb : b.length = 2 * (b.length / 2) := by omega
    exact ⟨_, _, of_even b _ hb hc.1, rof_even b _ hb hc.1, by rw [ofT_len]; omega⟩
  · refine ⟨[], 1, ?_, ?_, by simp⟩
    · unfold f_turns_Of
      have ha : iand .i64 (b.length : Int) 1 = ((b.length % 2 : Nat) : Int) := by
        have e : iand .i64 (b.length : Int) 1 = IntKind.i64.wrap (((BitVec.ofInt 64 (b.length : Int) &&& BitVec.ofInt 64 1).toNat : Nat) : Int) := rfl
        have e3 : (BitVec.ofInt 64 1).toNat = 2 ^ 1 - 1 := by decide
        rw [e, BitVec.toNat_and, e3, Nat.and_two_pow_sub_one_eq_mod, BitVec.toNat_ofInt, w64 (by omega) (by omega)]
        omega
      rw [ha, if_pos (by simp only [Bool.or_eq_true, decide_eq_true_eq]; omega)]
    · unfold f_foghornref06_Of
      rw [Int.tmod_eq_emod_of_nonneg (by omega), if_pos (by simp only [Bool.or_eq_true, decide_eq_true_eq, beq_iff_eq]; omega)]
theorem truths_self (a : List Bool) (h : a.length < 140737488355328) : f_foghornlaw06_truths a a = some true := by
  unfold f_foghornlaw06_truths
  rw [if_neg (by simp)]
  have := loop_same (f := f_foghornlaw06_truths.s1 a a) a (· != ·) (by simp) (by omega) false (fun i => rfl)
  rw [this]; rfl
theorem quarters_self' (a : List Int) (h : a.length < 140737488355328) : f_foghornlaw06_quarters a a = some true := by
  unfold f_foghornlaw06_quarters
  rw [if_neg (by simp)]
  have := loop_same (f := f_foghornlaw06_quarters.s1 a a) a (· != ·) (by simp) (by omega) false (fun i => rfl)
  rw [this]; rfl
theorem rows_s1 (a : List Int) (ha : a.length ≤ 65536) : loop f_foghornlaw06_rows.s1 (a, 0) = some () := by
  obtain ⟨r, h1, h2⟩ := loop_inv (f := f_foghornlaw06_rows.s1) (fun s : List Int × Int => s.1.length = a.length ∧ 0 ≤ s.2 ∧ s.2 ≤ a.length) (fun s => a.length - s.2.toNat) (fun _ => True) (by
    rintro ⟨x, i⟩ ⟨i0, i1, i2⟩
    simp only at i0 i1 i2
    simp only [f_foghornlaw06_rows.s1, f_foghornlaw06_rows.s1c]
    by_cases hi : i < x.length
    · rw [if_pos (by rw [decide_eq_true_eq]; omega), if_pos (by omega), w64 (by omega) (by omega)]
      exact .inl ⟨_, rfl, ⟨by simp [i0], by simp only; omega, by simp only; omega⟩, by simp only; omega⟩
    · rw [if_neg (by rw [decide_eq_true_eq]; omega)]
      exact .inr ⟨_, rfl, trivial⟩) (a, 0) ⟨rfl, by simp, by simp⟩
  exact h1
theorem rows_s2 (a : List Bool) (ha : a.length ≤ 65536) : loop f_foghornlaw06_rows.s2 (a, 0) = some () := by
  obtain ⟨r, h1, h2⟩ := loop_inv (f := f_foghornlaw06_rows.s2) (fun s : List Bool × Int => s.1.length = a.length ∧ 0 ≤ s.2 ∧ s.2 ≤ a.length) (fun s => a.length - s.2.toNat) (fun _ => True) (by
    rintro ⟨x, i⟩ ⟨i0, i1, i2⟩
    simp only at i0 i1 i2
    simp only [f_foghornlaw06_rows.s2, f_foghornlaw06_rows.s2c]
    by_cases hi : i < x.length
    · rw [if_pos (by rw [decide_eq_true_eq]; omega), if_pos (by omega), if_pos (by omega), w64 (by omega) (by omega)]
      exact .inl ⟨_, rfl, ⟨by simp [i0], by simp only; omega, by simp only; omega⟩, by simp only; omega⟩
    · rw [if_neg (by rw [decide_eq_true_eq]; omega)]
      exact .inr ⟨_, rfl, trivial⟩) (a, 0) ⟨rfl, by simp, by simp⟩
  exact h1
theorem rows_s3 (a : List Bool) (ha : a.length ≤ 65536) : loop f_foghornlaw06_rows.s3 (a, 0) = some () := rows_s2 a ha
theorem rows_ok (q : List Int) (there : List Bool) (hw : W q) (hl : q.length < 140737488355328) (ht : there.length < 140737488355328) : f_foghornlaw06_rows q there q there = some true := by
  obtain ⟨a1, a2, a3, a4, a5⟩ := both_into q hw hl
  obtain ⟨b1, b2, b3, b4, b5⟩ : ∃ x e, f_turns_Out q = some (x, e) ∧ f_foghornref06_Out q = some (x, e) ∧ x.length ≤ 65536 := by
    rcases both_out q hw hl with ⟨h0, h1, h2⟩ | ⟨h1, h2⟩
    · exact ⟨_, _, h1, h2, by rw [outo_len]; exact h0⟩
    · exact ⟨_, _, h1, h2, by simp⟩
  obtain ⟨c1, c2, c3, c4, c5, c6, c7⟩ := both_marked q there hw hl ht
  obtain ⟨d1, d2, d3, d4, d5⟩ := both_bits q hw hl
  obtain ⟨e1, e2, e3⟩ := both_counts q hw hl
  unfold f_foghornlaw06_rows
  rw [a3, a4, b3, b4, c4, c5, d3, d4, e2, e3]
  simp only [Option.bind_some, bne_self_eq_false, Bool.false_eq_true, if_false, quarters_self' a1 (by omega), quarters_self' b1 (by omega), quarters_self' c1 (by omega), truths_self c2 (by omega), truths_self d1 (by omega),
    Bool.not_true, rows_s1 a1 a5, rows_s2 c2 c7, rows_s3 d1 d5, beq_self_eq_true, Bool.and_self, if_true]
theorem spelt_ok (b : List Bool) (hl : b.length < 140737488355328) : f_foghornlaw06_spelt b b = some true := by
  obtain ⟨a1, a2, a3, a4, a5⟩ := both_of b hl
  unfold f_foghornlaw06_spelt
  rw [a3, a4]
  simp only [Option.bind_some, beq_self_eq_true, if_true, quarters_self' a1 (by omega)]
def trn (q : List Int) : List Int := q.map fun x => (x + 1) % 256 % 4
theorem main_loop (q : List Int) (hw : W q) (hl : q.length < 140737488355328) :
    loop (f_foghornlaw06_TurnsRows.s1 q) (q ++ [99], List.replicate q.length 0, 0) = some (trn q ++ [99], trn q) := by
  have hL : (trn q).length = q.length := by simp [trn]
  have := lst (f := f_foghornlaw06_TurnsRows.s1 q) q.length (fun i => ((trn q).take i ++ (q.drop i ++ [99]), (trn q).take i ++ List.replicate (q.length - i) 0, (i : Int))) (trn q ++ [99], trn q) (fun i hi => ?_) ?_
  · rw [List.take_zero, List.nil_append, List.drop_zero, List.nil_append, Nat.sub_zero] at this
    exact this
  · simp only [f_foghornlaw06_TurnsRows.s1, f_foghornlaw06_TurnsRows.s1c]
    have hA : ((trn q).take i).length = i := by rw [List.length_take]; omega
    have e : List.replicate (q.length - i) (0 : Int) = 0 :: List.replicate (q.length - (i + 1)) 0 := by rw [← List.replicate_succ]; congr 1; omega
    have e2 : q.drop i ++ [99] = q[i] :: (q.drop (i + 1) ++ [99]) := by rw [List.drop_eq_getElem_cons hi]; rfl
    have hx := hw.at i hi
    have ev : (IntKind.u8.wrap (q[i] + 1)).tmod 4 = (q[i] + 1) % 256 % 4 := by rw [w8, Int.tmod_eq_emod_of_nonneg (by omega)]
    have ht : (trn q).take (i + 1) = (trn q).take i ++ [(q[i] + 1) % 256 % 4] := by
      rw [List.take_succ_eq_append_getElem (by omega)]; simp [trn]
    have hM : ∀ (x : Int) (y : List Int), ((trn q).take i ++ x :: y).length = i + 1 + y.length := fun x y => by rw [List.length_append, hA, List.length_cons]; omega
    rw [if_pos (by rw [decide_eq_true_eq]; omega), if_pos (by omega), gt_nat hi, ev, e, e2, Int.toNat_natCast, mid_set _ _ hA, mid_gt _ hA, mid_set _ _ hA, hM, hM, hM, if_pos (by omega), if_pos (by omega), if_pos (by omega), w64 (by omega) (by omega), ht]
    simp
  · simp only [f_foghornlaw06_TurnsRows.s1, f_foghornlaw06_TurnsRows.s1c]
    rw [if_neg (by simp), List.take_of_length_le (by omega), Nat.sub_self]; simp
theorem cut {α : Type} (q : List α) (x : α) (n : Nat) (h : q.length = n) : ((q ++ [x]).drop 0).take (((n : Nat) : Int).toNat - 0) = q := by subst h; simp
theorem pick {α : Type} [Inhabited α] (q : List α) (x : α) : gt (q ++ [x]) (q.length : Int) = x := mid_gt x rfl

theorem rows_true (q : List Int) (w0 : ∀ x ∈ q, (Lit.int .u8 x).wf = true) (r0 : q.length * 1 ≤ 140737488351232) (there : List Bool) (w1 : ∀ x ∈ there, True) (r1 : there.length * 1 ≤ 140737488351232) (bits : List Bool) (w2 : ∀ x ∈ bits, True) (r2 : bits.length * 1 ≤ 140737488351232) : f_foghornlaw06_TurnsRows q there bits = some true := by
  have hw : W q := fun x hx => wf_u8 (w0 x hx)
  unfold f_foghornlaw06_TurnsRows
  simp only [List.nil_append, List.length_nil, Nat.zero_add, List.length_cons, List.length_append]
  have hT : (trn q).length = q.length := by simp [trn]
  have hwT : W (trn q) := by
    intro x hx
    simp only [trn, List.mem_map] at hx
    obtain ⟨y, _, rfl⟩ := hx
    omega
  have hz1 : (q.length * 1 ≤ 140737488355328) = True := by rw [eq_iff_iff, iff_true]; omega
  have hz2 : ((q.length + 1) * 1 ≤ 140737488355328) = True := by rw [eq_iff_iff, iff_true]; omega
  have hz3 : (there.length * 1 ≤ 140737488355328) = True := by rw [eq_iff_iff, iff_true]; omega
  have hz4 : ((there.length + 1) * 1 ≤ 140737488355328) = True := by rw [eq_iff_iff, iff_true]; omega
  have hz5 : (bits.length * 1 ≤ 140737488355328) = True := by rw [eq_iff_iff, iff_true]; omega
  have hz6 : ((bits.length + 1) * 1 ≤ 140737488355328) = True := by rw [eq_iff_iff, iff_true]; omega
  have hy1 : (0 ≤ (q.length : Int) ∧ (q.length : Int) ≤ ((q.length + 1 : Nat) : Int)) = True := by rw [eq_iff_iff, iff_true]; omega
  have hy2 : (0 ≤ (there.length : Int) ∧ (there.length : Int) ≤ ((there.length + 1 : Nat) : Int)) = True := by rw [eq_iff_iff, iff_true]; omega
  have hy3 : (0 ≤ (bits.length : Int) ∧ (bits.length : Int) ≤ ((bits.length + 1 : Nat) : Int)) = True := by rw [eq_iff_iff, iff_true]; omega
  have hy4 : (0 ≤ (q.length : Int) ∧ (q.length : Int) < ((q.length + 1 : Nat) : Int)) = True := by rw [eq_iff_iff, iff_true]; omega
  have hy5 : (0 ≤ (there.length : Int) ∧ (there.length : Int) < ((there.length + 1 : Nat) : Int)) = True := by rw [eq_iff_iff, iff_true]; omega
  have hy6 : (0 ≤ (bits.length : Int) ∧ (bits.length : Int) < ((bits.length + 1 : Nat) : Int)) = True := by rw [eq_iff_iff, iff_true]; omega
  have hx : (0 ≤ (q.length : Int) ∧ (q.length : Int) ≤ (q.length : Int) ∧ (q.length : Int) * 1 ≤ 281474976710656) = True := by rw [eq_iff_iff, iff_true]; omega
  have ml : loop (f_foghornlaw06_TurnsRows.s1 q) (q ++ [99], List.replicate ((q.length : Int)).toNat 0, 0) = some (trn q ++ [99], trn q) := by rw [Int.toNat_natCast]; exact main_loop q hw (by omega)
  simp only [hz1, hz2, hz3, hz4, hz5, hz6, hy1, hy2, hy3, hy4, hy5, hy6, hx, if_true, ml, cut q 99 _ rfl, cut there true _ rfl, cut bits true _ rfl, cut (trn q) 99 _ hT, pick, rows_ok q there hw (by omega) (by omega), rows_ok (trn q) there hwT (by omega) (by omega), quarters_self' q (by omega), truths_self there (by omega), truths_self bits (by omega), spelt_ok bits (by omega), Option.bind_some, Bool.not_true, Bool.false_eq_true, if_false, bne_self_eq_false, List.length_append, List.length_cons, List.length_nil, Nat.zero_add, hT, awake_some]
end Go.Proofs.Ytienojgmpjpcjaa
