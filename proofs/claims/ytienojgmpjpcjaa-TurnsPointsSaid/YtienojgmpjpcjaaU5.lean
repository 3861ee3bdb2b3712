/- The plain law of TurnsPoints. -/
import Derived.Test.YtienojgmpjpcjaaG5
import Derived.Test.YtienojgmpjpcjaaGlK
import Derived.Test.YtienojgmpjpcjaaGlW
import Derived.Test.YtienojgmpjpcjaaGlY
set_option linter.unusedVariables false
set_option linter.unusedSimpArgs false
set_option maxRecDepth 8000
namespace Go.Proofs.Ytienojgmpjpcjaa
open GL Go

theorem w8 (x : Int) : IntKind.u8.wrap x = x % 256 := by
  simp [IntKind.wrap, IntKind.bits, IntKind.signed]
theorem and3 (x : Int) (h0 : 0 ≤ x) (h1 : x < 256) : iand .u8 x 3 = x % 4 := by
  have e : iand .u8 x 3 = IntKind.u8.wrap (((BitVec.ofInt 8 x &&& BitVec.ofInt 8 3).toNat : Nat) : Int) := rfl
  have e3 : (BitVec.ofInt 8 3).toNat = 2 ^ 2 - 1 := by decide
  rw [e, BitVec.toNat_and, e3, Nat.and_two_pow_sub_one_eq_mod, BitVec.toNat_ofInt, w8]
  omega

/-- every one a quarter -/
def Q (q : List Int) : Prop := ∀ x ∈ q, 0 ≤ x ∧ x < 4
theorem Q.at {q : List Int} (h : Q q) (i : Nat) (hi : i < q.length) : 0 ≤ q[i] ∧ q[i] < 4 := h _ (List.getElem_mem hi)

def into (a : Int) : List Int → List Int
  | [] => []
  | n :: q => ((a + n) % 4) :: into ((a + n) % 4) q
def outo (a : Int) : List Int → List Int
  | [] => []
  | n :: q => ((n - a) % 4) :: outo n q
theorem into_len (q : List Int) : ∀ a, (into a q).length = q.length := by
  induction q with
  | nil => intro a; rfl
  | cons n q ih => intro a; simp [into, ih]
theorem outo_len (q : List Int) : ∀ a, (outo a q).length = q.length := by
  induction q with
  | nil => intro a; rfl
  | cons n q ih => intro a; simp [outo, ih]
theorem into_Q (q : List Int) : ∀ a, Q (into a q) := by
  induction q with
  | nil => intro a x hx; simp [into] at hx
  | cons n q ih =>
    intro a x hx
    simp only [into, List.mem_cons] at hx
    rcases hx with rfl | hx
    · omega
    · exact ih _ x hx
theorem outo_Q (q : List Int) : ∀ a, Q (outo a q) := by
  induction q with
  | nil => intro a x hx; simp [outo] at hx
  | cons n q ih =>
    intro a x hx
    simp only [outo, List.mem_cons] at hx
    rcases hx with rfl | hx
    · omega
    · exact ih _ x hx
theorem Q.tail {n : Int} {q : List Int} (h : Q (n :: q)) : Q q := fun x hx => h x (List.mem_cons_of_mem _ hx)
theorem Q.head {n : Int} {q : List Int} (h : Q (n :: q)) : 0 ≤ n ∧ n < 4 := h n (List.mem_cons_self ..)
theorem out_into (q : List Int) (hq : Q q) : ∀ a, outo a (into a q) = q := by
  induction q with
  | nil => intro a; rfl
  | cons n q ih =>
    intro a
    have := hq.head
    simp only [into, outo]
    rw [ih hq.tail]
    congr 1; omega
theorem into_out (q : List Int) (hq : Q q) : ∀ a, 0 ≤ a → a < 4 → into a (outo a q) = q := by
  induction q with
  | nil => intro a _ _; rfl
  | cons n q ih =>
    intro a h0 h1
    have := hq.head
    have e : (a + (n - a) % 4) % 4 = n := by omega
    simp only [outo, into, e]
    rw [ih hq.tail n (by omega) (by omega)]
def addc (c : Int) (q : List Int) : List Int := q.map fun x => (x + c) % 4
theorem out_add (c : Int) (q : List Int) (hq : Q q) : ∀ a, outo ((a + c) % 4) (addc c (into a q)) = q := by
  induction q with
  | nil => intro a; rfl
  | cons n q ih =>
    intro a
    have := hq.head
    have e := ih hq.tail ((a + n) % 4)
    simp only [into, addc, List.map_cons, outo] at e ⊢
    rw [e]
    congr 1; omega

theorem row_some (q : List Int) (hq : Q q) (hl : q.length ≤ 65536) : f_turns_row q = some true := by
  unfold f_turns_row
  have := loop_for1 (f := f_turns_row.s1 q) q.length (.inl ()) (fun i hi => ?_) ?_
  · rw [this]
    simp only [Option.bind_some, sm]
    congr 1; simp; omega
  · have := hq.at i hi
    simp only [f_turns_row.s1, f_turns_row.s1c]
    rw [if_pos (by simpa using hi), if_pos (by omega), gt_nat hi, if_neg (by simp; omega), w64 (by omega) (by omega)]; rfl
  · simp only [f_turns_row.s1, f_turns_row.s1c]
    rw [if_neg (by simp)]

theorem into_some (q : List Int) (hq : Q q) (hl : q.length ≤ 65536) : f_turns_Into q = some (into 0 q, 0) := by
  unfold f_turns_Into f_turns_each
  rw [row_some q hq hl]
  simp only [Option.bind_some, Bool.not_true, Bool.false_eq_true, if_false]
  rw [if_pos (by omega), Int.toNat_natCast]
  have key : ∀ (m i : Nat) (t : Int) (pre : List Int), i + m = q.length → pre.length = i → 0 ≤ t → t < 256 →
      ∃ t', loop (f_turns_each.s1 q) (t, pre ++ List.replicate m (0 : Int), (i : Int)) = some (t', pre ++ into (t % 4) (q.drop i)) := by
    intro m
    induction m with
    | zero =>
      intro i t pre hi hp h0 h1
      refine ⟨t, loop_done ?_⟩
      simp only [f_turns_each.s1, f_turns_each.s1c]
      rw [if_neg (by simp; omega), List.drop_eq_nil_of_le (by omega)]; simp [into]
    | succ m ih =>
      intro i t pre hi hp h0 h1
      have hil : i < q.length := by omega
      have hqi := hq.at i hil
      obtain ⟨t', h⟩ := ih (i + 1) ((t + q[i]) % 256) (pre ++ [(t + q[i]) % 256 % 4]) (by omega) (by simp [hp]) (by omega) (by omega)
      refine ⟨t', (loop_step ?_).trans (h.trans ?_)⟩
      · simp only [f_turns_each.s1, f_turns_each.s1c, f_turns_Into_1]
        rw [if_pos (by simp; omega), if_pos (by omega), gt_nat hil]
        simp only [Option.bind_some]
        rw [if_pos (by simp; omega), w8, and3 _ (by omega) (by omega), w64 (by omega) (by omega), Int.toNat_natCast, List.set_append_right _ _ (by omega), hp]
        simp [List.replicate_succ]
      · rw [List.drop_eq_getElem_cons hil]
        have e : (t + q[i]) % 256 % 4 = (t % 4 + q[i]) % 4 := by omega
        simp only [into, e, List.append_assoc, List.singleton_append]
  obtain ⟨t', h⟩ := key q.length 0 0 [] (by omega) rfl (by omega) (by omega)
  simp only [List.nil_append, List.drop_zero, Int.natCast_zero] at h
  rw [h]; rfl

theorem out_some (q : List Int) (hq : Q q) (hl : q.length ≤ 65536) : f_turns_Out q = some (outo 0 q, 0) := by
  unfold f_turns_Out f_turns_each_33
  rw [row_some q hq hl]
  simp only [Option.bind_some, Bool.not_true, Bool.false_eq_true, if_false]
  rw [if_pos (by omega), Int.toNat_natCast]
  have key : ∀ (m i : Nat) (t : Int) (pre : List Int), i + m = q.length → pre.length = i → 0 ≤ t → t < 4 →
      ∃ t', loop (f_turns_each_33.s1 q) (t, pre ++ List.replicate m (0 : Int), (i : Int)) = some (t', pre ++ outo t (q.drop i)) := by
    intro m
    induction m with
    | zero =>
      intro i t pre hi hp h0 h1
      refine ⟨t, loop_done ?_⟩
      simp only [f_turns_each_33.s1, f_turns_each_33.s1c]
      rw [if_neg (by simp; omega), List.drop_eq_nil_of_le (by omega)]; simp [outo]
    | succ m ih =>
      intro i t pre hi hp h0 h1
      have hil : i < q.length := by omega
      have hqi := hq.at i hil
      obtain ⟨t', h⟩ := ih (i + 1) q[i] (pre ++ [(q[i] - t) % 256 % 4]) (by omega) (by simp [hp]) (by omega) (by omega)
      refine ⟨t', (loop_step ?_).trans (h.trans ?_)⟩
      · simp only [f_turns_each_33.s1, f_turns_each_33.s1c, f_turns_Out_1]
        rw [if_pos (by simp; omega), if_pos (by omega), gt_nat hil]
        simp only [Option.bind_some]
        rw [if_pos (by simp; omega), w8, and3 _ (by omega) (by omega), w64 (by omega) (by omega), Int.toNat_natCast, List.set_append_right _ _ (by omega), hp]
        simp [List.replicate_succ]
      · rw [List.drop_eq_getElem_cons hil]
        have e : (q[i] - t) % 256 % 4 = (q[i] - t) % 4 := by omega
        simp only [outo, e, List.append_assoc, List.singleton_append]
  obtain ⟨t', h⟩ := key q.length 0 0 [] (by omega) rfl (by omega) (by omega)
  simp only [List.nil_append, List.drop_zero, Int.natCast_zero] at h
  rw [h]; rfl

theorem quarters_self (a : List Int) (h : a.length ≤ 65536) : f_foghornlaw06_quarters a a = some true := by
  unfold f_foghornlaw06_quarters
  rw [if_neg (by simp)]
  have := loop_same (f := f_foghornlaw06_quarters.s1 a a) a (· != ·) (by simp) (by omega) false (fun i => rfl)
  rw [this]; rfl

theorem awake_some : f_foghornlaw06_awake = some true := by
  unfold f_foghornlaw06_awake
  have h1 : Q [1, 1, 3, 2] := by intro x hx; simp at hx; omega
  have h2 : Q [1, 2, 1, 3] := by intro x hx; simp at hx; omega
  rw [into_some _ h1 (by decide), out_some _ h2 (by decide)]
  have e1 : into 0 [1, 1, 3, 2] = [1, 2, 1, 3] := by decide
  have e2 : outo 0 [1, 2, 1, 3] = [1, 1, 3, 2] := by decide
  rw [e1, e2]
  simp only [Option.bind_some, beq_self_eq_true, Bool.and_self, if_true, quarters_self [1, 2, 1, 3] (by decide), quarters_self [1, 1, 3, 2] (by decide)]

theorem lst {σ R : Type} {f : σ → Option (σ ⊕ R)} (n : Nat) (g : Nat → σ) (r : R)
    (h1 : ∀ i : Nat, i < n → f (g i) = some (.inl (g (i + 1)))) (h2 : f (g n) = some (.inr r)) : loop f (g 0) = some r := by
  have : ∀ k i : Nat, i + k = n → loop f (g i) = some r := by
    intro k
    induction k with
    | zero => intro i hi; obtain rfl : i = n := by omega
              exact loop_done h2
    | succ k ih => intro i hi; rw [loop_step (h1 i (by omega))]; exact ih (i + 1) (by omega)
  exact this n 0 (by omega)
theorem mid_set {α : Type} {A B : List α} (v x : α) {n : Nat} (h : A.length = n) : (A ++ v :: B).set n x = A ++ x :: B := by
  rw [List.set_append_right _ _ (by omega), h, Nat.sub_self, List.set_cons_zero]
theorem mid_gt {α : Type} [Inhabited α] {A B : List α} (v : α) {n : Nat} (h : A.length = n) : gt (A ++ v :: B) (n : Int) = v := by
  rw [gt_nat (by simp; omega), List.getElem_append_right (by omega)]; simp [h]
/-! marks -/
theorem fill_step {α : Type} {D : List α} {z : α} {i : Nat} (h : i < D.length) : (D.take i ++ List.replicate (D.length - i) z).set i D[i] = D.take (i + 1) ++ List.replicate (D.length - (i + 1)) z := by
  have e : List.replicate (D.length - i) z = z :: List.replicate (D.length - (i + 1)) z := by rw [← List.replicate_succ]; congr 1; omega
  rw [e, mid_set _ _ (by rw [List.length_take]; omega), List.take_succ_eq_append_getElem h, List.append_assoc]; rfl
theorem truths_self (a : List Bool) (h : a.length < 140737488355328) : f_foghornlaw06_truths a a = some true := by
  unfold f_foghornlaw06_truths
  rw [if_neg (by simp)]
  have := loop_same (f := f_foghornlaw06_truths.s1 a a) a (· != ·) (by simp) (by omega) false (fun i => rfl)
  rw [this]; rfl
/-! ### Quarters -/
theorem fneg_fneg (x : Fl) : fneg (fneg x) = x := by
  cases x with
  | nan => rfl
  | bits b =>
    simp only [fneg, Fl.bits.injEq]
    show (b ^^^ 2 ^ 63) ^^^ 2 ^ 63 = b
    rw [Nat.xor_assoc, Nat.xor_self, Nat.xor_zero]
def tn (z : Fl × Fl) : Nat → Fl × Fl
  | 0 => z
  | i + 1 => (fneg (tn z i).2, (tn z i).1)
theorem iand3 (n : Int) : iand .i64 n 3 = n % 4 := by
  have h3 : (BitVec.ofInt IntKind.i64.bits n &&& BitVec.ofInt IntKind.i64.bits 3).toNat = (n % 4).toNat := by
    rw [BitVec.toNat_and]
    show (BitVec.ofInt 64 n).toNat &&& (BitVec.ofInt 64 3).toNat = _
    have e3 : (BitVec.ofInt 64 3).toNat = 2 ^ 2 - 1 := by decide
    rw [e3, Nat.and_two_pow_sub_one_eq_mod, BitVec.toNat_ofInt]
    omega
  unfold iand
  rw [h3, w64 (by omega) (by omega)]; omega
theorem rturn_ok (z : Fl × Fl) (n : Int) (h : -9223372036854775808 ≤ n ∧ n < 9223372036854775808) : f_foghornref03_Turn z n = some (tn z (n % 4).toNat) := by
  have key : ∀ m : Nat, m < 4 → f_foghornref03_Turn.j1 z (m : Int) = some (tn z m) := by
    intro m hm
    have := loop_for (f := f_foghornref03_Turn.s1 (m : Int)) m (fun i => tn z i) (tn z m) (fun i hi => by
      simp only [f_foghornref03_Turn.s1, f_foghornref03_Turn.s1c]
      rw [if_pos (by rw [decide_eq_true_eq]; omega), w64 (by omega) (by omega)]; rfl) (by
      simp only [f_foghornref03_Turn.s1, f_foghornref03_Turn.s1c]
      rw [if_neg (by simp)])
    unfold f_foghornref03_Turn.j1
    rw [show ((z, (0 : Int)) : (Fl × Fl) × Int) = (tn z 0, (0 : Int)) from rfl, this]; rfl
  have hm := Int.tmod_def n 4
  unfold f_foghornref03_Turn
  by_cases hn : n.tmod 4 < 0
  · rw [if_pos (by rw [decide_eq_true_eq]; exact hn)]
    have e : IntKind.i64.wrap (n.tmod 4 + 4) = (((n % 4).toNat : Nat) : Int) := by
      have := Int.lt_tmod_of_pos n (show (0 : Int) < 4 by decide)
      have h1 : n.tmod 4 + 4 = n % 4 := by have := Int.emod_emod_of_dvd n (show (4 : Int) ∣ 4 from ⟨1, rfl⟩); omega
      rw [w64 (by omega) (by omega)]; omega
    rw [e]; exact key _ (by omega)
  · rw [if_neg (by rw [decide_eq_true_eq]; exact hn)]
    have := Int.tmod_lt_of_pos n (show (0 : Int) < 4 by decide)
    have e : n.tmod 4 = (((n % 4).toNat : Nat) : Int) := by omega
    rw [e]; exact key _ (by omega)
theorem turn_ok (z : Fl × Fl) (n : Int) : f_plane_Turn z n = some (tn z (n % 4).toNat) := by
  unfold f_plane_Turn
  rw [iand3]
  have h : n % 4 = 0 ∨ n % 4 = 1 ∨ n % 4 = 2 ∨ n % 4 = 3 := by omega
  rcases h with h | h | h | h <;> rw [h] <;> simp [tn, fneg_fneg]
/-! ### A float against itself -/
theorem fcmp_self (x : Fl) : fcmp x x = some .eq ∨ fcmp x x = none := by
  cases x with
  | nan => exact .inr rfl
  | bits b =>
    simp only [fcmp, Ieee.Format.order]
    cases FloatKind.f64.format.read b with
    | nan s t => exact .inr rfl
    | infinity s => left; simp [Ieee.Datum.order]
    | number s m e => left; simp [Ieee.Datum.order]
theorem part_self (x : Fl) (s : Bool) : f_foghornref03_part x x s = some true := by
  unfold f_foghornref03_part feq fne
  rcases fcmp_self x with h | h
  · rw [h]
    cases x with
    | nan => cases h
    | bits b => cases s <;> simp [f_math_Signbit, fbits]
  · rw [h]; rfl
theorem Same_self (z : Fl × Fl) (s : Bool) : f_foghornref03_Same z z s = some true := by
  unfold f_foghornref03_Same
  rw [part_self]
  simp only [Option.bind_some, if_true]
  rw [part_self]; rfl
/-! ### Lists that a loop fills -/
abbrev zc : Fl × Fl := (Fl.bits 0, Fl.bits 0)
theorem set_loop {α : Type} {f : List α × Int → Option ((List α × Int) ⊕ List α)} (D : List α) (z : α) (hl : (D.length : Int) < 9223372036854775807)
    (h1 : ∀ (i : Nat) (hi : i < D.length) (T : List α), T.length = D.length → f (T, (i : Int)) = some (.inl (T.set i D[i], IntKind.i64.wrap ((i : Int) + 1)))) (h2 : f (D, (D.length : Int)) = some (.inr D)) :
    loop f (List.replicate D.length z, 0) = some D := by
  have := lst (f := f) D.length (fun i => (D.take i ++ List.replicate (D.length - i) z, (i : Int))) D (fun i hi => ?_) ?_
  · simpa using this
  · rw [h1 i hi _ (by simp; omega), fill_step hi, w64 (by omega) (by omega)]; rfl
  · simpa using h2
theorem app_loop {α : Type} {f : List α × Int → Option ((List α × Int) ⊕ List α)} (D : List α) (hl : (D.length : Int) < 9223372036854775807)
    (h1 : ∀ (i : Nat) (hi : i < D.length) (T : List α), T.length = i → f (T, (i : Int)) = some (.inl (T ++ [D[i]], IntKind.i64.wrap ((i : Int) + 1)))) (h2 : f (D, (D.length : Int)) = some (.inr D)) :
    loop f ([], 0) = some D := by
  have := lst (f := f) D.length (fun i => (D.take i, (i : Int))) D (fun i hi => ?_) ?_
  · simpa using this
  · rw [h1 i hi _ (by simp; omega), w64 (by omega) (by omega), List.take_succ_eq_append_getElem hi]; rfl
  · simpa using h2
/-! ### What is handed in -/
def smp (l : List (Fl × Fl × Bool)) : List ((Fl × Fl) × Bool) := l.map fun x => ((x.1, x.2.1), x.2.2)
theorem samples_ok (l : List (Fl × Fl × Bool)) (hl : l.length * 24 ≤ 140737488351232) : f_foghornlaw06_samples l = some (smp l) := by
  unfold f_foghornlaw06_samples
  have hL : (smp l).length = l.length := by simp [smp]
  have := app_loop (f := f_foghornlaw06_samples.s1 l) (smp l) (by omega) (fun i hi T hT => ?_) ?_
  · rw [this]; rfl
  · have hi' : i < l.length := by omega
    simp only [f_foghornlaw06_samples.s1, f_foghornlaw06_samples.s1c]
    rw [if_pos (by rw [decide_eq_true_eq]; omega), if_pos (by omega), if_pos (by omega), if_pos (by omega), if_pos (by simp only [List.length_cons, List.length_nil]; omega), gt_nat hi']
    simp [smp]
  · simp only [f_foghornlaw06_samples.s1, f_foghornlaw06_samples.s1c]
    rw [if_neg (by rw [hL]; simp)]
theorem many_ok (l : List (Fl × Fl)) (hl : l.length * 16 ≤ 140737488351232) : f_foghornlaw06_many l = some l := by
  unfold f_foghornlaw06_many
  have := app_loop (f := f_foghornlaw06_many.s1 l) l (by omega) (fun i hi T hT => ?_) ?_
  · rw [this]; rfl
  · simp only [f_foghornlaw06_many.s1, f_foghornlaw06_many.s1c]
    rw [if_pos (by rw [decide_eq_true_eq]; omega), if_pos (by omega), if_pos (by omega), if_pos (by simp only [List.length_cons, List.length_nil]; omega), gt_nat hi]
  · simp only [f_foghornlaw06_many.s1, f_foghornlaw06_many.s1c]
    rw [if_neg (by simp)]
theorem row_self (l : List (Fl × Fl)) (hl : l.length < 140737488351233) : f_foghornref03_SameRow l l = some true := by
  unfold f_foghornref03_SameRow
  rw [if_neg (by simp)]
  have : loop (f_foghornref03_SameRow.s1 l l) 0 = some (.inl ()) := by
    refine loop_for1 l.length (Sum.inl ()) (fun i hi => ?_) ?_
    · simp only [f_foghornref03_SameRow.s1, f_foghornref03_SameRow.s1c]
      rw [if_pos (by rw [decide_eq_true_eq]; omega), if_pos (by omega), if_pos (by omega), Same_self]
      simp only [Option.bind_some, Bool.not_true, Bool.false_eq_true, if_false]
      rw [w64 (by omega) (by omega)]; rfl
    · simp only [f_foghornref03_SameRow.s1, f_foghornref03_SameRow.s1c]
      rw [if_neg (by simp)]
  rw [this]; rfl
/-! ### Points -/
theorem rows_eq (q : List Int) (hl : (q.length : Int) < 9223372036854775807) : ∃ b, f_turns_row q = some b ∧ f_foghornref06_row q = some b ∧ (b = true → q.length ≤ 65536) := by
  have hx : ∃ x, loop (f_turns_row.s1 q) 0 = some x ∧ (x = .inl () ∨ x = .inr false) := by
    obtain ⟨r, h1, h2⟩ := loop_inv (f := f_turns_row.s1 q) (fun s : Int => 0 ≤ s ∧ s ≤ q.length) (fun s => q.length - s.toNat) (fun x => x = .inl () ∨ x = .inr false) (by
      rintro i ⟨i1, i2⟩
      simp only [f_turns_row.s1, f_turns_row.s1c]
      by_cases hi : i < q.length
      · rw [if_pos (by rw [decide_eq_true_eq]; omega), if_pos (by omega)]
        by_cases h3 : (3 : Int) < gt q i
        · rw [if_pos (by rw [decide_eq_true_eq]; exact h3)]
          exact .inr ⟨_, rfl, .inr rfl⟩
        · rw [if_neg (by rw [decide_eq_true_eq]; exact h3), w64 (by omega) (by omega)]
          exact .inl ⟨_, rfl, ⟨by omega, by omega⟩, by omega⟩
      · rw [if_neg (by rw [decide_eq_true_eq]; omega)]; exact .inr ⟨_, rfl, .inl rfl⟩) 0 ⟨by omega, by omega⟩
    exact ⟨r, h1, h2⟩
  obtain ⟨x, h1, h2⟩ := hx
  have e : f_foghornref06_row.s1 q = f_turns_row.s1 q := rfl
  unfold f_turns_row f_foghornref06_row
  rw [e, h1]
  by_cases hc : (65536 : Int) < q.length
  · refine ⟨false, ?_, ?_, fun h => by cases h⟩
    · rcases h2 with rfl | rfl
      · simp only [Option.bind_some, sm]; rw [decide_eq_false (by omega)]
      · rfl
    · rw [if_pos (by rw [decide_eq_true_eq]; exact hc)]
  · rw [if_neg (by rw [decide_eq_true_eq]; exact hc)]
    rcases h2 with rfl | rfl
    · exact ⟨true, by simp only [Option.bind_some, sm]; rw [decide_eq_true (by omega)], rfl, fun _ => by omega⟩
    · exact ⟨false, rfl, rfl, fun h => by cases h⟩
def pts (size : Fl) (p : List Int) : List (Fl × Fl) := p.map fun k => tn (size, Fl.bits 0) (k % 4).toNat
theorem wf_u8 {x : Int} (h : (Lit.int .u8 x).wf = true) : 0 ≤ x ∧ x < 256 := by
  simp [Lit.wf, IntKind.min, IntKind.max, IntKind.bits, IntKind.signed] at h
  omega
theorem wf_i64 {x : Int} (h : (Lit.int .i64 x).wf = true) : -9223372036854775808 ≤ x ∧ x < 9223372036854775808 := by
  simp [Lit.wf, IntKind.min, IntKind.max, IntKind.bits, IntKind.signed] at h
  omega
theorem points_both (p : List Int) (size : Fl) (hp : ∀ x ∈ p, (Lit.int .u8 x).wf = true) (hl : (p.length : Int) < 9223372036854775807) : ∃ x e, f_turns_Points p size = some (x, e) ∧ f_foghornref06_Points p size = some (x, e) ∧ x.length ≤ 65536 := by
  obtain ⟨b, h1, h2, h3⟩ := rows_eq p hl
  unfold f_turns_Points f_foghornref06_Points
  rw [h1, h2]
  simp only [Option.bind_some]
  by_cases hc : ((!b) || (!((fge size (Fl.bits 4553139223271571456)) && (fle size (Fl.bits 4652218415073722368))))) = true
  · rw [if_pos hc, if_pos hc]
    exact ⟨_, _, rfl, rfl, by simp⟩
  · rw [if_neg hc, if_neg hc]
    have hb : b = true := by cases b <;> simp_all
    have h4 := h3 hb
    have hL : (pts size p).length = p.length := by simp [pts]
    have hx : ∀ (i : Nat) (hi : i < p.length), 0 ≤ p[i] ∧ p[i] < 256 := fun i hi => wf_u8 (hp _ (List.getElem_mem hi))
    rw [if_pos (by omega), Int.toNat_natCast]
    have e1 := set_loop (f := f_turns_Points.s1 p size) (pts size p) zc (by omega) (fun i hi T hT => by
      have hi' : i < p.length := by omega
      have := hx i hi'
      simp only [f_turns_Points.s1, f_turns_Points.s1c]
      rw [if_pos (by rw [decide_eq_true_eq]; omega), if_pos (by omega), gt_nat hi', w64 (x := p[i]) (by omega) (by omega), turn_ok]
      simp only [Option.bind_some]
      rw [if_pos (by omega), Int.toNat_natCast]
      simp [pts]) (by
      simp only [f_turns_Points.s1, f_turns_Points.s1c]
      rw [if_neg (by rw [hL]; simp)])
    have e2 := app_loop (f := f_foghornref06_Points.s1 p size) (pts size p) (by omega) (fun i hi T hT => by
      have hi' : i < p.length := by omega
      have := hx i hi'
      simp only [f_foghornref06_Points.s1, f_foghornref06_Points.s1c]
      rw [if_pos (by rw [decide_eq_true_eq]; omega), if_pos (by omega), gt_nat hi', w64 (x := p[i]) (by omega) (by omega), rturn_ok _ _ (by omega)]
      simp only [Option.bind_some]
      rw [if_pos (by simp only [List.length_cons, List.length_nil]; omega)]
      simp [pts]) (by
      simp only [f_foghornref06_Points.s1, f_foghornref06_Points.s1c]
      rw [if_neg (by rw [hL]; simp)])
    rw [← hL, e1, e2]
    exact ⟨_, _, rfl, rfl, by omega⟩
/-! ### The nearest quarter -/
def A4 (z : Fl × Fl) (t : Nat) : Fl := (tn z ((0 - (t : Int)) % 4).toNat).1
def B4 (z : Fl × Fl) : Nat → Nat
  | 0 => 0
  | i + 1 => if fgt (A4 z i) (A4 z (B4 z i)) = true then i else B4 z i
theorem B4_le (z : Fl × Fl) : ∀ i, B4 z i ≤ i
  | 0 => Nat.le_refl _
  | i + 1 => by
    have := B4_le z i
    simp only [B4]
    split <;> omega
theorem fgt_self (x : Fl) : fgt x x = false := by
  unfold fgt
  rcases fcmp_self x with h | h <;> rw [h] <;> rfl
theorem A4_at (z : Fl × Fl) {t : Nat} (ht : t < 4) : gt [z.1, z.2, fneg z.1, fneg z.2] (t : Int) = A4 z t := by
  have : t = 0 ∨ t = 1 ∨ t = 2 ∨ t = 3 := by omega
  rcases this with rfl | rfl | rfl | rfl
  · rfl
  · show z.2 = fneg (fneg z.2)
    rw [fneg_fneg]
  · rfl
  · rfl
theorem bad_eq (z : Fl × Fl) : ((!ceq z z) || (ceq z (Fl.bits 0, Fl.bits 0))) = (((fne z.1 z.1) || (fne z.2 z.2)) || ((feq z.1 (Fl.bits 0)) && (feq z.2 (Fl.bits 0)))) := by
  simp only [ceq, fne, feq, Bool.not_and]
  rfl
def nearV (z : Fl × Fl) : Int × Bool := if ((!ceq z z) || (ceq z (Fl.bits 0, Fl.bits 0))) = true then (0, false) else ((B4 z 4 : Int), true)
theorem near_c (z : Fl × Fl) : f_turns_Near z = some (nearV z) := by
  unfold f_turns_Near nearV
  by_cases hc : ((!ceq z z) || (ceq z (Fl.bits 0, Fl.bits 0))) = true
  · rw [if_pos hc, if_pos hc]
  · rw [if_neg hc, if_neg hc]
    have := lst (f := f_turns_Near.s1 z) 4 (fun i => ((B4 z i : Int), (i : Int))) (B4 z 4 : Int) (fun i hi => by
      have hb := B4_le z i
      simp only [f_turns_Near.s1, f_turns_Near.s1c]
      rw [if_pos (by rw [decide_eq_true_eq]; omega), w64 (x := (i : Int)) (by omega) (by omega), w64 (x := (0 : Int) - (i : Int)) (by omega) (by omega), turn_ok]
      simp only [Option.bind_some]
      rw [w64 (x := (B4 z i : Int)) (by omega) (by omega), w64 (x := (0 : Int) - (B4 z i : Int)) (by omega) (by omega), turn_ok]
      simp only [Option.bind_some]
      rw [show (tn z ((0 - (i : Int)) % 4).toNat).1 = A4 z i from rfl, show (tn z ((0 - (B4 z i : Int)) % 4).toNat).1 = A4 z (B4 z i) from rfl]
      have ew : IntKind.u8.wrap ((i : Int) + 1) = ((i + 1 : Nat) : Int) := by rw [w8]; omega
      rw [ew]
      simp only [B4]
      by_cases hg : fgt (A4 z i) (A4 z (B4 z i)) = true
      · rw [if_pos hg, if_pos hg]
      · rw [if_neg hg, if_neg hg]) (by
      simp only [f_turns_Near.s1, f_turns_Near.s1c]
      rw [if_neg (by simp)])
    have this2 : loop (f_turns_Near.s1 z) (0, 0) = some (B4 z 4 : Int) := this
    rw [this2]; rfl
theorem near_r (z : Fl × Fl) : f_foghornref06_Near z = some (nearV z) := by
  unfold f_foghornref06_Near nearV
  rw [bad_eq]
  by_cases hc : (((fne z.1 z.1) || (fne z.2 z.2)) || ((feq z.1 (Fl.bits 0)) && (feq z.2 (Fl.bits 0)))) = true
  · rw [if_pos hc, if_pos hc]
  · rw [if_neg hc, if_neg hc]
    have hb4 := B4_le z 4
    have := lst (f := f_foghornref06_Near.s1 z) 3 (fun i => ((B4 z (i + 1) : Int), ((i + 1 : Nat) : Int))) (B4 z 4 : Int) (fun i hi => by
      have hb := B4_le z (i + 1)
      simp only [f_foghornref06_Near.s1, f_foghornref06_Near.s1c]
      rw [if_pos (by rw [decide_eq_true_eq]; omega), if_pos (by simp only [List.length_cons, List.length_nil]; omega), if_pos (by simp only [List.length_cons, List.length_nil]; omega), A4_at z (show i + 1 < 4 by omega), A4_at z (show B4 z (i + 1) < 4 by omega)]
      have ew : IntKind.i64.wrap (((i + 1 : Nat) : Int) + 1) = ((i + 1 + 1 : Nat) : Int) := by rw [w64 (by omega) (by omega)]; omega
      rw [ew]
      by_cases hg : fgt (A4 z (i + 1)) (A4 z (B4 z (i + 1))) = true
      · rw [if_pos hg]
        have : B4 z (i + 1 + 1) = i + 1 := by show (if _ then _ else _) = _; rw [if_pos hg]
        rw [this]
      · rw [if_neg hg]
        have : B4 z (i + 1 + 1) = B4 z (i + 1) := by show (if _ then _ else _) = _; rw [if_neg hg]
        rw [this]) (by
      simp only [f_foghornref06_Near.s1, f_foghornref06_Near.s1c]
      rw [if_neg (by simp)])
    have e1 : B4 z (0 + 1) = 0 := by
      show (if fgt (A4 z 0) (A4 z (B4 z 0)) = true then 0 else B4 z 0) = 0
      split <;> rfl
    rw [e1] at this
    have this2 : loop (f_foghornref06_Near.s1 z) (0, 1) = some (B4 z 4 : Int) := this
    rw [this2]
    simp only [Option.bind_some]
    rw [w8, show (B4 z 4 : Int) % 256 = (B4 z 4 : Int) by omega]
/-! ### Rows of samples -/
def nr (s : (Fl × Fl) × Bool) : Int × Bool := if s.2 = true then (0, false) else nearV s.1
def nq (l : List ((Fl × Fl) × Bool)) : List Int := l.map fun s => (nr s).1
def nm (l : List ((Fl × Fl) × Bool)) : List Bool := l.map fun s => (nr s).2
theorem row_c (l : List ((Fl × Fl) × Bool)) (hl : l.length ≤ 65536) : f_turns_Row l = some (nq l, nm l, 0) := by
  unfold f_turns_Row
  have hL : (nq l).length = l.length := by simp [nq]
  have hM : (nm l).length = l.length := by simp [nm]
  rw [if_neg (by rw [decide_eq_true_eq]; omega), if_pos (by omega), if_pos (by omega), Int.toNat_natCast]
  have := lst (f := f_turns_Row.s1 l) l.length (fun i => ((nq l).take i ++ List.replicate ((nq l).length - i) 0, (nm l).take i ++ List.replicate ((nm l).length - i) false, (i : Int))) (nq l, nm l) (fun i hi => ?_) ?_
  · rw [List.take_zero, List.take_zero, List.nil_append, List.nil_append, Nat.sub_zero, Nat.sub_zero, hL, hM, show ((0 : Nat) : Int) = 0 from rfl] at this
    rw [this]; rfl
  · simp only [f_turns_Row.s1, f_turns_Row.s1c]
    have hT : ((nq l).take i ++ List.replicate ((nq l).length - i) (0 : Int)).length = l.length := by rw [List.length_append, List.length_take, List.length_replicate]; omega
    have hU : ((nm l).take i ++ List.replicate ((nm l).length - i) false).length = l.length := by rw [List.length_append, List.length_take, List.length_replicate]; omega
    have s1 := fill_step (D := nq l) (z := (0 : Int)) (i := i) (by omega)
    have s2 := fill_step (D := nm l) (z := false) (i := i) (by omega)
    have g1 : (nq l)[i]'(by omega) = (nr l[i]).1 := by simp [nq]
    have g2 : (nm l)[i]'(by omega) = (nr l[i]).2 := by simp [nm]
    rw [g1] at s1
    rw [g2] at s2
    have ew : IntKind.i64.wrap ((i : Int) + 1) = ((i + 1 : Nat) : Int) := by rw [w64 (by omega) (by omega)]; rfl
    rw [if_pos (by rw [decide_eq_true_eq]; omega), if_pos (by omega), gt_nat hi, ew]
    by_cases hs : l[i].2 = true
    · rw [if_neg (by rw [hs]; decide)]
      have e : nr l[i] = (0, false) := by unfold nr; rw [if_pos hs]
      rw [e] at s1 s2
      have c1 : List.replicate ((nq l).length - i) (0 : Int) = 0 :: List.replicate ((nq l).length - (i + 1)) 0 := by rw [← List.replicate_succ]; congr 1; omega
      have c2 : List.replicate ((nm l).length - i) false = false :: List.replicate ((nm l).length - (i + 1)) false := by rw [← List.replicate_succ]; congr 1; omega
      rw [← s1, ← s2, c1, c2, mid_set _ _ (by rw [List.length_take]; omega), mid_set _ _ (by rw [List.length_take]; omega)]
    · have hs' : l[i].2 = false := by cases h : l[i].2 <;> simp_all
      rw [if_pos (by rw [hs']; decide), near_c]
      simp only [Option.bind_some]
      rw [if_pos (by rw [hT]; omega), if_pos (by rw [hU]; omega), Int.toNat_natCast]
      have e : nr l[i] = nearV l[i].1 := by unfold nr; rw [if_neg hs]
      rw [e] at s1 s2
      rw [s1, s2]
  · simp only [f_turns_Row.s1, f_turns_Row.s1c]
    rw [if_neg (by simp), List.take_of_length_le (by omega), List.take_of_length_le (by omega), hL, hM, Nat.sub_self]; simp
theorem row_r (l : List ((Fl × Fl) × Bool)) (hl : l.length ≤ 65536) : f_foghornref06_Row l = some (nq l, nm l, 0) := by
  unfold f_foghornref06_Row
  have hL : (nq l).length = l.length := by simp [nq]
  have hM : (nm l).length = l.length := by simp [nm]
  rw [if_neg (by rw [decide_eq_true_eq]; omega)]
  have := lst (f := f_foghornref06_Row.s1 l) l.length (fun i => ((nq l).take i, (nm l).take i, (i : Int))) (nq l, nm l) (fun i hi => ?_) ?_
  · rw [List.take_zero, List.take_zero, show ((0 : Nat) : Int) = 0 from rfl] at this
    rw [this]; rfl
  · simp only [f_foghornref06_Row.s1, f_foghornref06_Row.s1c]
    have hj : ∀ n ok, f_foghornref06_Row.j1 ((nq l).take i) ((nm l).take i) (i : Int) n ok = some (.inl ((nq l).take i ++ [n], (nm l).take i ++ [ok], ((i + 1 : Nat) : Int))) := by
      intro n ok
      unfold f_foghornref06_Row.j1
      rw [if_pos (by simp only [List.length_cons, List.length_nil, List.length_take]; omega), if_pos (by simp only [List.length_cons, List.length_nil, List.length_take]; omega), w64 (by omega) (by omega)]; rfl
    have t1 := List.take_succ_eq_append_getElem (l := nq l) (i := i) (by omega)
    have t2 := List.take_succ_eq_append_getElem (l := nm l) (i := i) (by omega)
    have g1 : (nq l)[i]'(by omega) = (nr l[i]).1 := by simp [nq]
    have g2 : (nm l)[i]'(by omega) = (nr l[i]).2 := by simp [nm]
    rw [if_pos (by rw [decide_eq_true_eq]; omega), if_pos (by omega), gt_nat hi, t1, t2, g1, g2]
    by_cases hs : l[i].2 = true
    · rw [if_neg (by rw [hs]; decide), hj]
      have e : nr l[i] = (0, false) := by unfold nr; rw [if_pos hs]
      rw [e]
    · have hs' : l[i].2 = false := by cases h : l[i].2 <;> simp_all
      rw [if_pos (by rw [hs']; decide), if_pos (by omega), near_r]
      simp only [Option.bind_some]
      rw [hj]
      have e : nr l[i] = nearV l[i].1 := by unfold nr; rw [if_neg hs]
      rw [e]
  · simp only [f_foghornref06_Row.s1, f_foghornref06_Row.s1c]
    rw [if_neg (by simp), List.take_of_length_le (by omega), List.take_of_length_le (by omega)]
theorem row_both (l : List ((Fl × Fl) × Bool)) : ∃ x y e, f_turns_Row l = some (x, y, e) ∧ f_foghornref06_Row l = some (x, y, e) ∧ x.length ≤ 65536 ∧ y.length ≤ 65536 := by
  by_cases hc : l.length ≤ 65536
  · exact ⟨_, _, _, row_c l hc, row_r l hc, by simp [nq]; exact hc, by simp [nm]; exact hc⟩
  · refine ⟨[], [], 1, ?_, ?_, by simp, by simp⟩
    · unfold f_turns_Row; rw [if_pos (by rw [decide_eq_true_eq]; omega)]
    · unfold f_foghornref06_Row; rw [if_pos (by rw [decide_eq_true_eq]; omega)]
/-! ### Whole rows -/
def trs (l : List (Fl × Fl)) (n : Nat) : List (Fl × Fl) := l.map fun z => tn z n
theorem whole_both (l : List (Fl × Fl)) (n : Int) (hn : -9223372036854775808 ≤ n ∧ n < 9223372036854775808) : ∃ x e, f_turns_Whole l n = some (x, e) ∧ f_foghornref06_Whole l n = some (x, e) ∧ x.length ≤ 65536 := by
  unfold f_turns_Whole f_foghornref06_Whole
  by_cases hc : (65536 : Int) < l.length
  · rw [if_pos (by rw [decide_eq_true_eq]; exact hc), if_pos (by rw [decide_eq_true_eq]; exact hc)]
    exact ⟨_, _, rfl, rfl, by simp⟩
  · have hL : (trs l (n % 4).toNat).length = l.length := by simp [trs]
    rw [if_neg (by rw [decide_eq_true_eq]; exact hc), if_pos (by omega), Int.toNat_natCast, if_neg (by rw [decide_eq_true_eq]; exact hc)]
    have e1 := set_loop (f := f_turns_Whole.s1 l n) (trs l (n % 4).toNat) zc (by omega) (fun i hi T hT => by
      have hi' : i < l.length := by omega
      simp only [f_turns_Whole.s1, f_turns_Whole.s1c]
      rw [if_pos (by rw [decide_eq_true_eq]; omega), if_pos (by omega), gt_nat hi', turn_ok]
      simp only [Option.bind_some]
      rw [if_pos (by omega), Int.toNat_natCast]
      simp [trs]) (by
      simp only [f_turns_Whole.s1, f_turns_Whole.s1c]
      rw [if_neg (by rw [hL]; simp)])
    have e2 := app_loop (f := f_foghornref06_Whole.s1 l n) (trs l (n % 4).toNat) (by omega) (fun i hi T hT => by
      have hi' : i < l.length := by omega
      simp only [f_foghornref06_Whole.s1, f_foghornref06_Whole.s1c]
      rw [if_pos (by rw [decide_eq_true_eq]; omega), if_pos (by omega), gt_nat hi', rturn_ok _ _ hn]
      simp only [Option.bind_some]
      rw [if_pos (by simp only [List.length_cons, List.length_nil]; omega)]
      simp [trs]) (by
      simp only [f_foghornref06_Whole.s1, f_foghornref06_Whole.s1c]
      rw [if_neg (by rw [hL]; simp)])
    rw [← hL, e1, e2]
    exact ⟨_, _, rfl, rfl, by omega⟩
/-! ### Found -/
def mt (a b : List (Fl × Fl)) (n : Nat) (i : Nat) : Bool := ceq (tn (gt a (i : Int)) n) (gt b (i : Int))
def al (a b : List (Fl × Fl)) (n : Nat) : Nat → Bool
  | 0 => true
  | i + 1 => al a b n i && mt a b n i
theorem al_false {a b : List (Fl × Fl)} {n : Nat} : ∀ {i j : Nat}, i ≤ j → al a b n i = false → al a b n j = false := by
  intro i j h h0
  induction j with
  | zero => obtain rfl : i = 0 := by omega
            exact h0
  | succ j ih =>
    by_cases e : i = j + 1
    · subst e; exact h0
    · simp only [al]; rw [ih (by omega)]; rfl
theorem found_c (a b : List (Fl × Fl)) (hb : b.length = a.length) (hl : a.length ≤ 65536) {n : Nat} (hn : n < 4) : f_turns_Found.s1 a b (n : Int) = some (if al a b n a.length = true then .inr (.inr ((n : Int), 0)) else .inl ((n + 1 : Nat) : Int)) := by
  simp only [f_turns_Found.s1, f_turns_Found.s1c]
  rw [if_pos (by rw [decide_eq_true_eq]; omega)]
  have key : ∀ k i : Nat, i + k = a.length → al a b n i = true → loop (f_turns_Found.s2 a b (n : Int)) (i : Int) = some (if al a b n a.length = true then .inl () else .inr ()) := by
    intro k
    induction k with
    | zero =>
      intro i hi h
      obtain rfl : i = a.length := by omega
      rw [if_pos h]
      apply loop_done
      simp only [f_turns_Found.s2, f_turns_Found.s2c]
      rw [if_neg (by simp)]
    | succ k ih =>
      intro i hi h
      have h0 : f_turns_Found.s2 a b (n : Int) (i : Int) = some (if mt a b n i = true then .inl ((i + 1 : Nat) : Int) else .inr (.inr ())) := by
        simp only [f_turns_Found.s2, f_turns_Found.s2c]
        rw [if_pos (by rw [decide_eq_true_eq]; omega), if_pos (by omega), turn_ok]
        simp only [Option.bind_some]
        rw [if_pos (by omega), show ((n : Int) % 4).toNat = n by omega, show ceq (tn (gt a (i : Int)) n) (gt b (i : Int)) = mt a b n i from rfl, w64 (by omega) (by omega)]
        cases mt a b n i <;> rfl
      by_cases hm : mt a b n i = true
      · rw [if_pos hm] at h0
        rw [loop_step h0]
        exact ih (i + 1) (by omega) (by simp only [al]; rw [h, hm]; rfl)
      · rw [if_neg hm] at h0
        rw [loop_done h0, if_neg]
        rw [al_false (i := i + 1) (by omega) (by simp only [al]; rw [h]; cases h' : mt a b n i <;> simp_all)]
        decide
  have := key a.length 0 (by omega) rfl
  rw [show ((0 : Nat) : Int) = 0 from rfl] at this
  rw [this]
  by_cases hA : al a b n a.length = true
  · rw [if_pos hA, if_pos hA]; rfl
  · rw [if_neg hA, if_neg hA]
    simp only [Option.bind_some, sm]
    rw [w64 (by omega) (by omega)]; rfl
theorem found_r (a b : List (Fl × Fl)) (hb : b.length = a.length) (hl : a.length ≤ 65536) {n : Nat} (hn : n < 4) : f_foghornref06_Found.s1 a b (n : Int) = some (if al a b n a.length = true then .inr (.inr ((n : Int), 0)) else .inl ((n + 1 : Nat) : Int)) := by
  simp only [f_foghornref06_Found.s1, f_foghornref06_Found.s1c]
  rw [if_pos (by rw [decide_eq_true_eq]; omega)]
  have := lst (f := f_foghornref06_Found.s2 a b (n : Int)) a.length (fun i => (al a b n i, (i : Int))) (al a b n a.length) (fun i hi => by
    simp only [f_foghornref06_Found.s2, f_foghornref06_Found.s2c]
    rw [if_pos (by rw [decide_eq_true_eq]; omega), w64 (by omega) (by omega)]
    by_cases h : al a b n i = true
    · rw [if_pos h, if_pos (by omega), rturn_ok _ _ (by omega)]
      simp only [Option.bind_some]
      rw [if_pos (by omega), show ((n : Int) % 4).toNat = n by omega, show ceq (tn (gt a (i : Int)) n) (gt b (i : Int)) = mt a b n i from rfl]
      simp only [Option.bind_some, al]
      rw [h]; rfl
    · have h' : al a b n i = false := by cases h2 : al a b n i <;> simp_all
      rw [if_neg h]
      simp only [Option.bind_some, al]
      rw [h']; rfl) (by
    simp only [f_foghornref06_Found.s2, f_foghornref06_Found.s2c]
    rw [if_neg (by simp)])
  simp only [al] at this
  rw [show ((0 : Nat) : Int) = 0 from rfl] at this
  rw [this]
  simp only [Option.bind_some]
  by_cases hA : al a b n a.length = true
  · rw [if_pos hA, if_pos hA]
  · rw [if_neg hA, if_neg hA, w64 (by omega) (by omega)]; rfl
theorem found_both (a b : List (Fl × Fl)) : ∃ x, f_turns_Found a b = some x ∧ f_foghornref06_Found a b = some x := by
  unfold f_turns_Found f_foghornref06_Found
  by_cases hc : ((decide ((65536 : Int) < (a.length : Int))) || ((b.length : Int) != (a.length : Int))) = true
  · rw [if_pos hc, if_pos hc]; exact ⟨_, rfl, rfl⟩
  · rw [if_neg hc, if_neg hc]
    simp only [Bool.or_eq_true, decide_eq_true_eq, bne_iff_ne, ne_eq] at hc
    have hb : b.length = a.length := by omega
    have hl : a.length ≤ 65536 := by omega
    have key : ∀ k n : Nat, n + k = 4 → ∃ r, loop (f_turns_Found.s1 a b) (n : Int) = some r ∧ loop (f_foghornref06_Found.s1 a b) (n : Int) = some r := by
      intro k
      induction k with
      | zero =>
        intro n hn
        obtain rfl : n = 4 := by omega
        refine ⟨.inl (), loop_done ?_, loop_done ?_⟩
        · simp only [f_turns_Found.s1, f_turns_Found.s1c]
          rw [if_neg (by simp)]
        · simp only [f_foghornref06_Found.s1, f_foghornref06_Found.s1c]
          rw [if_neg (by simp)]
      | succ k ih =>
        intro n hn
        have h1 := found_c a b hb hl (n := n) (by omega)
        have h2 := found_r a b hb hl (n := n) (by omega)
        by_cases hA : al a b n a.length = true
        · rw [if_pos hA] at h1 h2
          exact ⟨_, loop_done h1, loop_done h2⟩
        · rw [if_neg hA] at h1 h2
          obtain ⟨r, r1, r2⟩ := ih (n + 1) (by omega)
          exact ⟨r, (loop_step h1).trans r1, (loop_step h2).trans r2⟩
    obtain ⟨r, r1, r2⟩ := key 4 0 rfl
    rw [show ((0 : Nat) : Int) = 0 from rfl] at r1 r2
    rw [r1, r2]
    simp only [Option.bind_some]
    cases r with
    | inl u => exact ⟨_, rfl, rfl⟩
    | inr u => exact ⟨_, rfl, rfl⟩
/-! ### The law -/
theorem end_gt {α : Type} [Inhabited α] (l : List α) (c : α) : gt (l ++ [c]) (l.length : Int) = c := mid_gt c rfl
theorem end_take {α : Type} (l : List α) (c : α) : (((l ++ [c]).drop 0).take (((l.length : Int)).toNat - 0)) = l := by simp
theorem app_gt {α : Type} [Inhabited α] (l : List α) (c : α) {i : Nat} (hi : i < l.length) : gt (l ++ [c]) (i : Int) = gt l (i : Int) := by
  rw [gt_nat (by simp; omega), gt_nat hi, List.getElem_append_left hi]
theorem pt_s1 (l : List ((Fl × Fl) × Bool)) (hl : (l.length : Int) < 9223372036854775806) : loop (f_foghornlaw06_TurnsPoints.s1 l) 0 = some (.inl ()) := by
  refine loop_for1 l.length (Sum.inl ()) (fun i hi => ?_) ?_
  · simp only [f_foghornlaw06_TurnsPoints.s1, f_foghornlaw06_TurnsPoints.s1c, List.nil_append]
    rw [if_pos (by rw [decide_eq_true_eq]; omega), if_pos (by simp; omega), if_pos (by omega), app_gt _ _ hi, if_neg (by simp), if_pos (by simp; omega), if_pos (by omega), Same_self]
    simp only [Option.bind_some, Bool.not_true, Bool.false_eq_true, if_false]
    rw [if_pos (by omega), near_c]
    simp only [Option.bind_some]
    rw [if_pos (by omega), near_r]
    simp only [Option.bind_some]
    rw [if_neg (by simp), w64 (by omega) (by omega)]; rfl
  · simp only [f_foghornlaw06_TurnsPoints.s1, f_foghornlaw06_TurnsPoints.s1c]
    rw [if_neg (by simp)]
theorem pt_s2 (u : List (Fl × Fl)) (e : Int) (hl : u.length ≤ 65536) : ∀ k i : Nat, i + k = u.length → ∀ T : List (Fl × Fl), T.length = u.length → (∀ j : Nat, i ≤ j → j < u.length → gt T (j : Int) = gt u (j : Int)) → loop (f_foghornlaw06_TurnsPoints.s2 (u, e)) (T, (i : Int)) = some (.inl ()) := by
  intro k
  induction k with
  | zero =>
    intro i hi T hT _
    apply loop_done
    simp only [f_foghornlaw06_TurnsPoints.s2, f_foghornlaw06_TurnsPoints.s2c]
    rw [if_neg (by rw [decide_eq_true_eq]; omega)]
  | succ k ih =>
    intro i hi T hT hg
    rw [← ih (i + 1) (by omega) (T.set i (Fl.bits 0, Fl.bits 4613937818241073152)) (by simpa using hT) (fun j hj hj2 => by
      rw [gt_nat (by simp; omega), List.getElem_set_ne (by omega), ← gt_nat (by omega), hg j (by omega) hj2])]
    apply loop_step
    simp only [f_foghornlaw06_TurnsPoints.s2, f_foghornlaw06_TurnsPoints.s2c]
    rw [if_pos (by rw [decide_eq_true_eq]; omega), if_pos (by omega), if_pos (by omega), hg i (Nat.le_refl _) (by omega), Same_self]
    simp only [Option.bind_some, Bool.not_true, Bool.false_eq_true, if_false]
    rw [if_pos (by omega), w64 (by omega) (by omega), Int.toNat_natCast]; rfl
theorem points_true (P : List Int) (w0 : ∀ x ∈ P, (Lit.int .u8 x).wf = true) (r0 : P.length * 1 ≤ 140737488351232) (a : Nat) (w1 : (Lit.float .f64 a).wf = true)
    (L : List (Fl × Fl × Bool)) {p2 : Prop} (w2 : p2) (r2 : L.length * 24 ≤ 140737488351232) (A : List (Fl × Fl)) {p3 : Prop} (w3 : p3) (r3 : A.length * 16 ≤ 140737488351232)
    (B : List (Fl × Fl)) {p4 : Prop} (w4 : p4) (r4 : B.length * 16 ≤ 140737488351232) (N : Int) (w5 : (Lit.int .i64 N).wf = true) :
    f_foghornlaw06_TurnsPoints P (Fl.bits a) L A B N = some true := by
  unfold f_foghornlaw06_TurnsPoints
  have hL : (smp L).length = L.length := by simp [smp]
  rw [samples_ok L r2, many_ok A r3]
  simp only [Option.bind_some]
  rw [many_ok B r4]
  simp only [Option.bind_some, List.nil_append]
  rw [if_pos (by simp; omega)]
  obtain ⟨p1, p5, h1, h2, h3⟩ := points_both P (Fl.bits a) w0 (by omega)
  rw [h1, h2]
  simp only [Option.bind_some]
  rw [if_neg (by simp), row_self p1 (by omega)]
  simp only [Option.bind_some, Bool.not_true, Bool.false_eq_true, if_false]
  rw [if_pos (by simp; omega), if_pos (by simp; omega), if_pos (by simp; omega), end_take]
  obtain ⟨x, y, e, k1, k2, k3, k4⟩ := row_both (smp L)
  rw [k1, k2]
  simp only [Option.bind_some]
  rw [if_neg (by simp), quarters_self x (by omega)]
  simp only [Option.bind_some, Bool.not_true, Bool.false_eq_true, if_false]
  rw [truths_self y (by omega)]
  simp only [Option.bind_some, Bool.not_true, Bool.false_eq_true, if_false]
  rw [if_pos (by simp; omega), end_gt]
  have c1 : ceq (Fl.bits 0, Fl.bits 4619567317775286272) (Fl.bits 0, Fl.bits 4619567317775286272) = true := by decide +kernel
  have c2 : ceq (Fl.bits 0, Fl.bits 4621256167635550208) (Fl.bits 0, Fl.bits 4621256167635550208) = true := by decide +kernel
  simp only [c1, Option.bind_some, Bool.not_true, Bool.false_eq_true, if_false]
  rw [pt_s1 _ (by omega)]
  simp only [Option.bind_some, sm]
  rw [if_pos (by simp; omega), if_pos (by simp; omega), if_pos (by simp; omega), end_take]
  obtain ⟨u, f, m1, m2, m3⟩ := whole_both A N (wf_i64 w5)
  rw [m1, m2]
  simp only [Option.bind_some]
  rw [if_neg (by simp), if_pos (by simp; omega), row_self A (by omega)]
  simp only [Option.bind_some, Bool.not_true, Bool.false_eq_true, if_false]
  rw [if_pos (by simp; omega), end_gt]
  simp only [c2, Option.bind_some, Bool.not_true, Bool.false_eq_true, if_false]
  have s2 := pt_s2 u f m3 u.length 0 (by omega) u rfl (fun _ _ _ => rfl)
  rw [show ((0 : Nat) : Int) = 0 from rfl] at s2
  rw [s2]
  simp only [Option.bind_some, sm]
  rw [if_pos (by simp; omega), if_pos (by simp; omega)]
  obtain ⟨z, n1, n2⟩ := found_both A B
  rw [n1, n2]
  simp only [Option.bind_some, beq_self_eq_true, Bool.and_self, if_true]
  rw [awake_some]; rfl

end Go.Proofs.Ytienojgmpjpcjaa
