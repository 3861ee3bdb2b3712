/- The plain law of TonesNone. -/
import Derived.Test.YthmobhgjojgipaaG1
import Derived.Test.YthmobhgjojgipaaGlK
import Derived.Test.YthmobhgjojgipaaGlW
import Derived.Test.YthmobhgjojgipaaGlY
set_option linter.unusedVariables false
set_option linter.unusedSimpArgs false
set_option maxRecDepth 8000
namespace Go.Proofs.Ythmobhgjojgipaa
open GL Go

/-! ### Quarters -/
theorem fneg_fneg (x : Fl) : fneg (fneg x) = x := by
  cases x with
  | nan => rfl
  | bits b =>
    simp only [fneg, Fl.bits.injEq]
    show (b ^^^ 2 ^ 63) ^^^ 2 ^ 63 = b
    rw [Nat.xor_assoc, Nat.xor_self, Nat.xor_zero]
def tn (z : Fl × Fl) : Nat → Fl × Fl
  | 0 => z
  | i + 1 => (fneg (tn z i).2, (tn z i).1)
theorem iand3 (n : Int) : iand .i64 n 3 = n % 4 := by
  have h3 : (BitVec.ofInt IntKind.i64.bits n &&& BitVec.ofInt IntKind.i64.bits 3).toNat = (n % 4).toNat := by
    rw [BitVec.toNat_and]
    show (BitVec.ofInt 64 n).toNat &&& (BitVec.ofInt 64 3).toNat = _
    have e3 : (BitVec.ofInt 64 3).toNat = 2 ^ 2 - 1 := by decide
    rw [e3, Nat.and_two_pow_sub_one_eq_mod, BitVec.toNat_ofInt]
    omega
  unfold iand
  rw [h3, w64 (by omega) (by omega)]; omega
theorem turn_ok (z : Fl × Fl) (n : Int) : f_plane_Turn z n = some (tn z (n % 4).toNat) := by
  unfold f_plane_Turn
  rw [iand3]
  have h : n % 4 = 0 ∨ n % 4 = 1 ∨ n % 4 = 2 ∨ n % 4 = 3 := by omega
  rcases h with h | h | h | h <;> rw [h] <;> simp [tn, fneg_fneg]
/-! ### Loops -/
theorem lst {σ R : Type} {f : σ → Option (σ ⊕ R)} (n : Nat) (g : Nat → σ) (r : R)
    (h1 : ∀ i : Nat, i < n → f (g i) = some (.inl (g (i + 1)))) (h2 : f (g n) = some (.inr r)) : loop f (g 0) = some r := by
  have : ∀ k i : Nat, i + k = n → loop f (g i) = some r := by
    intro k
    induction k with
    | zero => intro i hi; obtain rfl : i = n := by omega
              exact loop_done h2
    | succ k ih => intro i hi; rw [loop_step (h1 i (by omega))]; exact ih (i + 1) (by omega)
  exact this n 0 (by omega)
theorem mid_set {α : Type} {A B : List α} (v x : α) {n : Nat} (h : A.length = n) : (A ++ v :: B).set n x = A ++ x :: B := by
  rw [List.set_append_right _ _ (by omega), h, Nat.sub_self, List.set_cons_zero]
theorem fill_step {α : Type} {D : List α} {z : α} {i : Nat} (h : i < D.length) : (D.take i ++ List.replicate (D.length - i) z).set i D[i] = D.take (i + 1) ++ List.replicate (D.length - (i + 1)) z := by
  have e : List.replicate (D.length - i) z = z :: List.replicate (D.length - (i + 1)) z := by rw [← List.replicate_succ]; congr 1; omega
  rw [e, mid_set _ _ (by rw [List.length_take]; omega), List.take_succ_eq_append_getElem h, List.append_assoc]; rfl
abbrev zc : Fl × Fl := (Fl.bits 0, Fl.bits 0)
/-! ### Entries -/
def ent : Nat → Nat → Nat → Nat
  | 0, _, _ => 0
  | p + 1, a, b => (a % 4) * (b % 4) + ent p (a / 4) (b / 4)
theorem ent_le : ∀ p a b, ent p a b ≤ 9 * p
  | 0, _, _ => Nat.le_refl _
  | p + 1, a, b => by
    have h := ent_le p (a / 4) (b / 4)
    have h2 : (a % 4) * (b % 4) ≤ 3 * 3 := Nat.mul_le_mul (by omega) (by omega)
    simp only [ent]; omega
theorem ent_comm : ∀ p a b, ent p a b = ent p b a
  | 0, _, _ => rfl
  | p + 1, a, b => by simp only [ent]; rw [ent_comm p (a / 4) (b / 4), Nat.mul_comm]
theorem ent_zero : ∀ p b, ent p 0 b = 0
  | 0, _ => rfl
  | p + 1, b => by simp only [ent]; rw [show 0 / 4 = 0 from rfl, ent_zero p]; simp
theorem iandn3 {n : Nat} (h : n < 9223372036854775808) : iand .i64 (n : Int) 3 = ((n % 4 : Nat) : Int) := by
  rw [iand3]; omega
theorem ishr2 (n : Nat) : ishr .i64 (n : Int) 2 = ((n / 4 : Nat) : Int) := ishr_nat (k := .i64) (a := n) (s := 2) (by decide)
theorem entry_loop : ∀ p a b n : Nat, a < 4 ^ p → b < 4 ^ p → p ≤ 3 → n + 9 * p ≤ 100 → loop f_tones_entry.s1 ((a : Int), (b : Int), (n : Int)) = some ((n + ent p a b : Nat) : Int)
  | 0, a, b, n, ha, hb, _, hn => by
    obtain rfl : a = 0 := by simpa using ha
    apply loop_done
    simp only [f_tones_entry.s1, f_tones_entry.s1c, ent]
    rw [if_neg (by simp)]; rfl
  | p + 1, a, b, n, ha, hb, hp, hn => by
    have hpow : 4 ^ (p + 1) ≤ 4 ^ 3 := Nat.pow_le_pow_right (by decide) hp
    have h64 : (4 : Nat) ^ 3 = 64 := rfl
    by_cases hc : 0 < a ∧ 0 < b
    · have h2 : (a % 4) * (b % 4) ≤ 3 * 3 := Nat.mul_le_mul (by omega) (by omega)
      have hs : f_tones_entry.s1 ((a : Int), (b : Int), (n : Int)) = some (.inl (((a / 4 : Nat) : Int), ((b / 4 : Nat) : Int), ((n + (a % 4) * (b % 4) : Nat) : Int))) := by
        simp only [f_tones_entry.s1, f_tones_entry.s1c]
        rw [if_pos (by simp only [Bool.and_eq_true, decide_eq_true_eq]; omega), ishr2, ishr2, iandn3 (by omega), iandn3 (by omega), ← Int.natCast_mul, w64 (x := (((a % 4) * (b % 4) : Nat) : Int)) (by omega) (by omega), w64 (by omega) (by omega), ← Int.natCast_add]
      rw [loop_step hs, entry_loop p (a / 4) (b / 4) _ (by rw [Nat.pow_succ] at ha; omega) (by rw [Nat.pow_succ] at hb; omega) (by omega) (by omega)]
      simp only [ent]
      rw [Nat.add_assoc]
    · have e : ent (p + 1) a b = 0 := by
        by_cases h0 : a = 0
        · subst h0; exact ent_zero _ _
        · have : b = 0 := by omega
          subst this
          rw [ent_comm]; exact ent_zero _ _
      rw [e]
      apply loop_done
      simp only [f_tones_entry.s1, f_tones_entry.s1c]
      rw [if_neg (by simp only [Bool.and_eq_true, decide_eq_true_eq]; omega)]; rfl
theorem entry_ok {p a b : Nat} (ha : a < 4 ^ p) (hb : b < 4 ^ p) (hp : p ≤ 3) : f_tones_entry (a : Int) (b : Int) = some ((ent p a b % 4 : Nat) : Int) := by
  unfold f_tones_entry
  have := entry_loop p a b 0 ha hb hp (by omega)
  have hl := ent_le p a b
  rw [show ((0 : Nat) : Int) = 0 from rfl] at this
  rw [this]
  simp only [Option.bind_some, Nat.zero_add]
  rw [iandn3 (by omega)]
theorem tones_ok {p : Nat} (hp : p = 1 ∨ p = 2 ∨ p = 3) : f_tones_tones (p : Int) = some ((4 ^ p : Nat) : Int) := by
  rcases hp with rfl | rfl | rfl <;> decide +kernel
/-! ### Rows -/
def rot (s : Bool) (e : Nat) : Nat := if s then e % 4 else (4 - e % 4) % 4
def accT (s : Bool) (p : Nat) (l : List (Fl × Fl)) (base a : Nat) : Nat → Fl × Fl
  | 0 => zc
  | k + 1 => cadd (accT s p l base a k) (tn (gt l ((base + k : Nat) : Int)) (rot s (ent p a k)))
def sc (p : Nat) : Fl := fquo (Fl.bits 4607182418800017408) (fofi (ishl .i64 1 (p : Int)))
def rowV (s : Bool) (p : Nat) (l : List (Fl × Fl)) (n : Nat) : Fl × Fl := (fmul (accT s p l (n / 4 ^ p * 4 ^ p) (n % 4 ^ p) (4 ^ p)).1 (sc p), fmul (accT s p l (n / 4 ^ p * 4 ^ p) (n % 4 ^ p) (4 ^ p)).2 (sc p))
def rowsV (s : Bool) (p : Nat) (l : List (Fl × Fl)) : List (Fl × Fl) := (List.range l.length).map (rowV s p l)
theorem rowsV_len (s : Bool) (p : Nat) (l : List (Fl × Fl)) : (rowsV s p l).length = l.length := by simp [rowsV]
theorem rowsV_get (s : Bool) (p : Nat) (l : List (Fl × Fl)) {n : Nat} (h : n < (rowsV s p l).length) : (rowsV s p l)[n] = rowV s p l n := by simp [rowsV]
theorem turn_there (z : Fl × Fl) (e : Nat) : f_plane_Turn z ((e % 4 : Nat) : Int) = some (tn z (rot true e)) := by
  rw [turn_ok]
  congr 2
  simp only [rot, if_true]; omega
theorem turn_back (z : Fl × Fl) (e : Nat) : f_tones_back_1 z ((e % 4 : Nat) : Int) = some (tn z (rot false e)) := by
  unfold f_tones_back_1
  rw [w64 (by omega) (by omega), turn_ok]
  simp only [Option.bind_some]
  congr 2
  simp only [rot, Bool.false_eq_true, if_false]; omega
theorem rows_there {p : Nat} (hp : p = 1 ∨ p = 2 ∨ p = 3) (l : List (Fl × Fl)) (hl : l.length ≤ 65536) (hm : l.length % 4 ^ p = 0) : f_tones_way_rows (p : Int) l = some (rowsV true p l, 0) := by
  have hm4 : 4 ≤ 4 ^ p ∧ 4 ^ p ≤ 64 := by rcases hp with rfl | rfl | rfl <;> decide
  have hp3 : p ≤ 3 := by omega
  unfold f_tones_way_rows
  rw [tones_ok hp]
  simp only [Option.bind_some]
  have hV := rowsV_len true p l
  have hlt : ∀ a b : Nat, a < 4 ^ p → b < 4 ^ p → f_tones_entry (a : Int) (b : Int) = some ((ent p a b % 4 : Nat) : Int) := fun a b ha hb => entry_ok ha hb hp3
  have hsc : fquo (Fl.bits 4607182418800017408) (fofi (ishl .i64 1 (p : Int))) = sc p := rfl
  have hvg : ∀ j a : Nat, a < 4 ^ p → rowV true p l (j * 4 ^ p + a) = (fmul (accT true p l (j * 4 ^ p) a (4 ^ p)).1 (sc p), fmul (accT true p l (j * 4 ^ p) a (4 ^ p)).2 (sc p)) := by
    intro j a ha
    unfold rowV
    have e1 : (j * 4 ^ p + a) / 4 ^ p = j := by rw [Nat.mul_comm, Nat.mul_add_div (by omega), Nat.div_eq_of_lt ha, Nat.add_zero]
    have e2 : (j * 4 ^ p + a) % 4 ^ p = a := by rw [Nat.mul_comm, Nat.mul_add_mod, Nat.mod_eq_of_lt ha]
    rw [e1, e2]
  generalize hM : 4 ^ p = m at *
  rw [if_neg (by simp only [Bool.or_eq_true, beq_iff_eq, decide_eq_true_eq]; omega), if_pos (by omega)]
  simp only [Option.bind_some]
  have hmod : ((l.length : Int)).tmod (m : Int) = 0 := by rw [Int.tmod_eq_emod_of_nonneg (by omega), ← Int.natCast_emod, hm]; rfl
  rw [hmod, if_neg (by decide), if_pos (by omega), if_pos (by omega), Int.toNat_natCast]
  have hdiv := Nat.div_add_mod l.length m
  rw [hm, Nat.add_zero] at hdiv
  generalize hJ : l.length / m = J at *
  -- one entry
  have inner : ∀ j a : Nat, j < J → a < m → loop (f_tones_way_rows.s3 l (m : Int) ((j * m : Nat) : Int) (a : Int)) (zc, 0) = some (accT true p l (j * m) a m) := by
    intro j a hj ha
    have hjm : j * m + m ≤ l.length := by
      have : (j + 1) * m ≤ J * m := Nat.mul_le_mul_right _ hj
      rw [Nat.succ_mul] at this
      rw [← hdiv, Nat.mul_comm m J]; exact this
    have hw : IntKind.i64.wrap (((j * m : Nat) : Int) + (m : Int)) = ((j * m + m : Nat) : Int) := by rw [w64 (by omega) (by omega)]; omega
    have hcut : (l.drop (j * m)).take (j * m + m - j * m) = (l.drop (j * m)).take m := by congr 1; omega
    have hcl : ((l.drop (j * m)).take m).length = m := by rw [List.length_take, List.length_drop]; omega
    have := lst (f := f_tones_way_rows.s3 l (m : Int) ((j * m : Nat) : Int) (a : Int)) m (fun b => (accT true p l (j * m) a b, (b : Int))) (accT true p l (j * m) a m) (fun b hb => ?_) ?_
    · exact this
    · simp only [f_tones_way_rows.s3, f_tones_way_rows.s3c]
      rw [hw, Int.toNat_natCast, Int.toNat_natCast, hcut, hcl, if_pos (by rw [decide_eq_true_eq]; omega), if_pos (by omega), hlt a b (by omega) (by omega)]
      simp only [Option.bind_some]
      rw [turn_there]
      simp only [Option.bind_some]
      have hg : gt ((l.drop (j * m)).take m) (b : Int) = gt l ((j * m + b : Nat) : Int) := by
        rw [gt_nat (by omega), gt_nat (by omega)]
        simp
      rw [hg, w64 (by omega) (by omega)]; rfl
    · simp only [f_tones_way_rows.s3, f_tones_way_rows.s3c]
      rw [hw, Int.toNat_natCast, Int.toNat_natCast, hcut, hcl, if_neg (by simp)]
  -- one row
  have row : ∀ j : Nat, j < J → loop (f_tones_way_rows.s2 (p : Int) l (m : Int) ((j * m : Nat) : Int)) ((rowsV true p l).take (j * m) ++ List.replicate ((rowsV true p l).length - j * m) zc, 0) = some ((rowsV true p l).take (j * m + m) ++ List.replicate ((rowsV true p l).length - (j * m + m)) zc) := by
    intro j hj
    have hjm : j * m + m ≤ l.length := by
      have : (j + 1) * m ≤ J * m := Nat.mul_le_mul_right _ hj
      rw [Nat.succ_mul] at this
      rw [← hdiv, Nat.mul_comm m J]; exact this
    have hw : IntKind.i64.wrap (((j * m : Nat) : Int) + (m : Int)) = ((j * m + m : Nat) : Int) := by rw [w64 (by omega) (by omega)]; omega
    have := lst (f := f_tones_way_rows.s2 (p : Int) l (m : Int) ((j * m : Nat) : Int)) m (fun a => ((rowsV true p l).take (j * m + a) ++ List.replicate ((rowsV true p l).length - (j * m + a)) zc, (a : Int))) ((rowsV true p l).take (j * m + m) ++ List.replicate ((rowsV true p l).length - (j * m + m)) zc) (fun a ha => ?_) ?_
    · exact this
    · simp only [f_tones_way_rows.s2, f_tones_way_rows.s2c]
      have hT : ((rowsV true p l).take (j * m + a) ++ List.replicate ((rowsV true p l).length - (j * m + a)) zc).length = l.length := by rw [List.length_append, List.length_take, List.length_replicate]; omega
      have hwa : IntKind.i64.wrap (((j * m : Nat) : Int) + (a : Int)) = ((j * m + a : Nat) : Int) := by rw [w64 (by omega) (by omega)]; omega
      rw [if_pos (by rw [decide_eq_true_eq]; omega), hw, if_pos (by omega), show ((Fl.bits 0, Fl.bits 0) : Fl × Fl) = zc from rfl, inner j a hj ha]
      simp only [Option.bind_some]
      rw [hwa, if_pos (by rw [hT]; omega), Int.toNat_natCast, hsc, ← hvg j a (by omega)]
      have fs := fill_step (D := rowsV true p l) (z := zc) (i := j * m + a) (by omega)
      rw [rowsV_get] at fs
      rw [fs, w64 (by omega) (by omega)]; rfl
    · simp only [f_tones_way_rows.s2, f_tones_way_rows.s2c]
      rw [if_neg (by simp)]
  have := lst (f := f_tones_way_rows.s1 (p : Int) l (m : Int)) J (fun j => ((rowsV true p l).take (j * m) ++ List.replicate ((rowsV true p l).length - j * m) zc, ((j * m : Nat) : Int))) (rowsV true p l) (fun j hj => ?_) ?_
  · rw [Nat.zero_mul, List.take_zero, List.nil_append, Nat.sub_zero, hV] at this
    rw [show ((Fl.bits 0, Fl.bits 0) : Fl × Fl) = zc from rfl, show (0 : Int) = ((0 : Nat) : Int) from rfl, this]; rfl
  · simp only [f_tones_way_rows.s1, f_tones_way_rows.s1c]
    have hjm : j * m + m ≤ l.length := by
      have : (j + 1) * m ≤ J * m := Nat.mul_le_mul_right _ hj
      rw [Nat.succ_mul] at this
      rw [← hdiv, Nat.mul_comm m J]; exact this
    rw [if_pos (by rw [decide_eq_true_eq]; omega), row j hj]
    simp only [Option.bind_some]
    have hw : IntKind.i64.wrap (((j * m : Nat) : Int) + (m : Int)) = ((j * m + m : Nat) : Int) := by rw [w64 (by omega) (by omega)]; omega
    rw [hw, Nat.succ_mul]
  · simp only [f_tones_way_rows.s1, f_tones_way_rows.s1c]
    have hJm : J * m = l.length := by rw [Nat.mul_comm]; exact hdiv
    rw [hJm, if_neg (by simp), ← hV, List.take_length, Nat.sub_self]; simp
theorem rows_back {p : Nat} (hp : p = 1 ∨ p = 2 ∨ p = 3) (l : List (Fl × Fl)) (hl : l.length ≤ 65536) (hm : l.length % 4 ^ p = 0) : f_tones_way_rows_21 (p : Int) l = some (rowsV false p l, 0) := by
  have hm4 : 4 ≤ 4 ^ p ∧ 4 ^ p ≤ 64 := by rcases hp with rfl | rfl | rfl <;> decide
  have hp3 : p ≤ 3 := by omega
  unfold f_tones_way_rows_21
  rw [tones_ok hp]
  simp only [Option.bind_some]
  have hV := rowsV_len false p l
  have hlt : ∀ a b : Nat, a < 4 ^ p → b < 4 ^ p → f_tones_entry (a : Int) (b : Int) = some ((ent p a b % 4 : Nat) : Int) := fun a b ha hb => entry_ok ha hb hp3
  have hsc : fquo (Fl.bits 4607182418800017408) (fofi (ishl .i64 1 (p : Int))) = sc p := rfl
  have hvg : ∀ j a : Nat, a < 4 ^ p → rowV false p l (j * 4 ^ p + a) = (fmul (accT false p l (j * 4 ^ p) a (4 ^ p)).1 (sc p), fmul (accT false p l (j * 4 ^ p) a (4 ^ p)).2 (sc p)) := by
    intro j a ha
    unfold rowV
    have e1 : (j * 4 ^ p + a) / 4 ^ p = j := by rw [Nat.mul_comm, Nat.mul_add_div (by omega), Nat.div_eq_of_lt ha, Nat.add_zero]
    have e2 : (j * 4 ^ p + a) % 4 ^ p = a := by rw [Nat.mul_comm, Nat.mul_add_mod, Nat.mod_eq_of_lt ha]
    rw [e1, e2]
  generalize hM : 4 ^ p = m at *
  rw [if_neg (by simp only [Bool.or_eq_true, beq_iff_eq, decide_eq_true_eq]; omega), if_pos (by omega)]
  simp only [Option.bind_some]
  have hmod : ((l.length : Int)).tmod (m : Int) = 0 := by rw [Int.tmod_eq_emod_of_nonneg (by omega), ← Int.natCast_emod, hm]; rfl
  rw [hmod, if_neg (by decide), if_pos (by omega), if_pos (by omega), Int.toNat_natCast]
  have hdiv := Nat.div_add_mod l.length m
  rw [hm, Nat.add_zero] at hdiv
  generalize hJ : l.length / m = J at *
  -- one entry
  have inner : ∀ j a : Nat, j < J → a < m → loop (f_tones_way_rows_21.s3 l (m : Int) ((j * m : Nat) : Int) (a : Int)) (zc, 0) = some (accT false p l (j * m) a m) := by
    intro j a hj ha
    have hjm : j * m + m ≤ l.length := by
      have : (j + 1) * m ≤ J * m := Nat.mul_le_mul_right _ hj
      rw [Nat.succ_mul] at this
      rw [← hdiv, Nat.mul_comm m J]; exact this
    have hw : IntKind.i64.wrap (((j * m : Nat) : Int) + (m : Int)) = ((j * m + m : Nat) : Int) := by rw [w64 (by omega) (by omega)]; omega
    have hcut : (l.drop (j * m)).take (j * m + m - j * m) = (l.drop (j * m)).take m := by congr 1; omega
    have hcl : ((l.drop (j * m)).take m).length = m := by rw [List.length_take, List.length_drop]; omega
    have := lst (f := f_tones_way_rows_21.s3 l (m : Int) ((j * m : Nat) : Int) (a : Int)) m (fun b => (accT false p l (j * m) a b, (b : Int))) (accT false p l (j * m) a m) (fun b hb => ?_) ?_
    · exact this
    · simp only [f_tones_way_rows_21.s3, f_tones_way_rows_21.s3c]
      rw [hw, Int.toNat_natCast, Int.toNat_natCast, hcut, hcl, if_pos (by rw [decide_eq_true_eq]; omega), if_pos (by omega), hlt a b (by omega) (by omega)]
      simp only [Option.bind_some]
      rw [turn_back]
      simp only [Option.bind_some]
      have hg : gt ((l.drop (j * m)).take m) (b : Int) = gt l ((j * m + b : Nat) : Int) := by
        rw [gt_nat (by omega), gt_nat (by omega)]
        simp
      rw [hg, w64 (by omega) (by omega)]; rfl
    · simp only [f_tones_way_rows_21.s3, f_tones_way_rows_21.s3c]
      rw [hw, Int.toNat_natCast, Int.toNat_natCast, hcut, hcl, if_neg (by simp)]
  -- one row
  have row : ∀ j : Nat, j < J → loop (f_tones_way_rows_21.s2 (p : Int) l (m : Int) ((j * m : Nat) : Int)) ((rowsV false p l).take (j * m) ++ List.replicate ((rowsV false p l).length - j * m) zc, 0) = some ((rowsV false p l).take (j * m + m) ++ List.replicate ((rowsV false p l).length - (j * m + m)) zc) := by
    intro j hj
    have hjm : j * m + m ≤ l.length := by
      have : (j + 1) * m ≤ J * m := Nat.mul_le_mul_right _ hj
      rw [Nat.succ_mul] at this
      rw [← hdiv, Nat.mul_comm m J]; exact this
    have hw : IntKind.i64.wrap (((j * m : Nat) : Int) + (m : Int)) = ((j * m + m : Nat) : Int) := by rw [w64 (by omega) (by omega)]; omega
    have := lst (f := f_tones_way_rows_21.s2 (p : Int) l (m : Int) ((j * m : Nat) : Int)) m (fun a => ((rowsV false p l).take (j * m + a) ++ List.replicate ((rowsV false p l).length - (j * m + a)) zc, (a : Int))) ((rowsV false p l).take (j * m + m) ++ List.replicate ((rowsV false p l).length - (j * m + m)) zc) (fun a ha => ?_) ?_
    · exact this
    · simp only [f_tones_way_rows_21.s2, f_tones_way_rows_21.s2c]
      have hT : ((rowsV false p l).take (j * m + a) ++ List.replicate ((rowsV false p l).length - (j * m + a)) zc).length = l.length := by rw [List.length_append, List.length_take, List.length_replicate]; omega
      have hwa : IntKind.i64.wrap (((j * m : Nat) : Int) + (a : Int)) = ((j * m + a : Nat) : Int) := by rw [w64 (by omega) (by omega)]; omega
      rw [if_pos (by rw [decide_eq_true_eq]; omega), hw, if_pos (by omega), show ((Fl.bits 0, Fl.bits 0) : Fl × Fl) = zc from rfl, inner j a hj ha]
      simp only [Option.bind_some]
      rw [hwa, if_pos (by rw [hT]; omega), Int.toNat_natCast, hsc, ← hvg j a (by omega)]
      have fs := fill_step (D := rowsV false p l) (z := zc) (i := j * m + a) (by omega)
      rw [rowsV_get] at fs
      rw [fs, w64 (by omega) (by omega)]; rfl
    · simp only [f_tones_way_rows_21.s2, f_tones_way_rows_21.s2c]
      rw [if_neg (by simp)]
  have := lst (f := f_tones_way_rows_21.s1 (p : Int) l (m : Int)) J (fun j => ((rowsV false p l).take (j * m) ++ List.replicate ((rowsV false p l).length - j * m) zc, ((j * m : Nat) : Int))) (rowsV false p l) (fun j hj => ?_) ?_
  · rw [Nat.zero_mul, List.take_zero, List.nil_append, Nat.sub_zero, hV] at this
    rw [show ((Fl.bits 0, Fl.bits 0) : Fl × Fl) = zc from rfl, show (0 : Int) = ((0 : Nat) : Int) from rfl, this]; rfl
  · simp only [f_tones_way_rows_21.s1, f_tones_way_rows_21.s1c]
    have hjm : j * m + m ≤ l.length := by
      have : (j + 1) * m ≤ J * m := Nat.mul_le_mul_right _ hj
      rw [Nat.succ_mul] at this
      rw [← hdiv, Nat.mul_comm m J]; exact this
    rw [if_pos (by rw [decide_eq_true_eq]; omega), row j hj]
    simp only [Option.bind_some]
    have hw : IntKind.i64.wrap (((j * m : Nat) : Int) + (m : Int)) = ((j * m + m : Nat) : Int) := by rw [w64 (by omega) (by omega)]; omega
    rw [hw, Nat.succ_mul]
  · simp only [f_tones_way_rows_21.s1, f_tones_way_rows_21.s1c]
    have hJm : J * m = l.length := by rw [Nat.mul_comm]; exact hdiv
    rw [hJm, if_neg (by simp), ← hV, List.take_length, Nat.sub_self]; simp
theorem send_ok {p : Nat} (hp : p = 1 ∨ p = 2 ∨ p = 3) (l : List (Fl × Fl)) (hl : l.length ≤ 65536) (hm : l.length % 4 ^ p = 0) : f_tones_Send (p : Int) l = some (rowsV true p l, 0) := by
  unfold f_tones_Send
  rw [rows_there hp l hl hm]; rfl
theorem back_ok {p : Nat} (hp : p = 1 ∨ p = 2 ∨ p = 3) (l : List (Fl × Fl)) (hl : l.length ≤ 65536) (hm : l.length % 4 ^ p = 0) : f_tones_Back (p : Int) l = some (rowsV false p l, 0) := by
  unfold f_tones_Back
  rw [rows_back hp l hl hm]; rfl
/-! ### One tone of four -/
theorem awake_true : f_foghornlaw09_awake = some true := by
  have e1 := send_ok (p := 1) (.inl rfl) [(Fl.bits 0, Fl.bits 0), (Fl.bits 4616189618054758400, Fl.bits 0), (Fl.bits 0, Fl.bits 0), (Fl.bits 0, Fl.bits 0)] (by decide) (by decide)
  have e2 := back_ok (p := 1) (.inl rfl) [(Fl.bits 4611686018427387904, Fl.bits 0), (Fl.bits 0, Fl.bits 4611686018427387904), (Fl.bits 13835058055282163712, Fl.bits 0), (Fl.bits 0, Fl.bits 13835058055282163712)] (by decide) (by decide)
  rw [show ((1 : Nat) : Int) = 1 from rfl] at e1 e2
  have r1 : rowsV true 1 [(Fl.bits 0, Fl.bits 0), (Fl.bits 4616189618054758400, Fl.bits 0), (Fl.bits 0, Fl.bits 0), (Fl.bits 0, Fl.bits 0)] = [(Fl.bits 4611686018427387904, Fl.bits 0), (Fl.bits 0, Fl.bits 4611686018427387904), (Fl.bits 13835058055282163712, Fl.bits 0), (Fl.bits 0, Fl.bits 13835058055282163712)] := by decide +kernel
  have r2 : rowsV false 1 [(Fl.bits 4611686018427387904, Fl.bits 0), (Fl.bits 0, Fl.bits 4611686018427387904), (Fl.bits 13835058055282163712, Fl.bits 0), (Fl.bits 0, Fl.bits 13835058055282163712)] = [(Fl.bits 0, Fl.bits 0), (Fl.bits 4616189618054758400, Fl.bits 0), (Fl.bits 0, Fl.bits 0), (Fl.bits 0, Fl.bits 0)] := by decide +kernel
  have s1 : loop (f_foghornref03_SameRow.s1 [(Fl.bits 4611686018427387904, Fl.bits 0), (Fl.bits 0, Fl.bits 4611686018427387904), (Fl.bits 13835058055282163712, Fl.bits 0), (Fl.bits 0, Fl.bits 13835058055282163712)] [(Fl.bits 4611686018427387904, Fl.bits 0), (Fl.bits 0, Fl.bits 4611686018427387904), (Fl.bits 13835058055282163712, Fl.bits 0), (Fl.bits 0, Fl.bits 13835058055282163712)]) 0 = some (.inl ()) := loop_iff.2 ⟨5, by decide +kernel⟩
  have s2 : loop (f_foghornref03_SameRow.s1 [(Fl.bits 0, Fl.bits 0), (Fl.bits 4616189618054758400, Fl.bits 0), (Fl.bits 0, Fl.bits 0), (Fl.bits 0, Fl.bits 0)] [(Fl.bits 0, Fl.bits 0), (Fl.bits 4616189618054758400, Fl.bits 0), (Fl.bits 0, Fl.bits 0), (Fl.bits 0, Fl.bits 0)]) 0 = some (.inl ()) := loop_iff.2 ⟨5, by decide +kernel⟩
  unfold f_foghornlaw09_awake
  rw [e1]
  simp only [Option.bind_some]
  rw [e2]
  simp only [Option.bind_some, beq_self_eq_true, Bool.and_self, if_true]
  unfold f_foghornref03_SameRow
  rw [r1, r2, if_neg (by decide), s1]
  simp only [Option.bind_some, sm, if_true]
  rw [if_neg (by decide), s2]; rfl
/-! ### None, the ends -/
theorem back_bad {p q : Int} (l : List (Fl × Fl)) (hq : f_tones_tones p = some q) (h : q = 0 ∨ 65536 < (l.length : Int) ∨ 0 < ((l.length : Int)).tmod q) : f_tones_Back p l = some ([], 1) := by
  unfold f_tones_Back f_tones_back f_tones_way_rows_21
  rw [hq]
  simp only [Option.bind_some]
  by_cases hc : ((q == (0 : Int)) || (decide ((65536 : Int) < (l.length : Int)))) = true
  · rw [if_pos hc]; rfl
  · rw [if_neg hc]
    simp only [Bool.or_eq_true, beq_iff_eq, decide_eq_true_eq] at hc
    rw [if_pos (by omega), decide_eq_true (by omega)]; rfl
theorem send_bad {p : Int} (l : List (Fl × Fl)) (hq : f_tones_tones p = some 0) : f_tones_Send p l = some ([], 1) := by
  unfold f_tones_Send f_tones_there f_tones_way_rows
  rw [hq]; rfl
theorem mk0_len {n : Nat} : (mk0 (n : Int) (Fl.bits 0, Fl.bits 0)).length = n := by rw [mk0_eq, List.length_replicate]; rfl
theorem none_true : f_foghornlaw09_TonesNone = some true := by
  have t0 : f_tones_tones 0 = some 0 := by decide +kernel
  have t1 : f_tones_tones 1 = some 4 := by decide +kernel
  have t2 : f_tones_tones 2 = some 16 := by decide +kernel
  have t3 : f_tones_tones 3 = some 64 := by decide +kernel
  have t4 : f_tones_tones 4 = some 0 := by decide +kernel
  have h1 := send_bad [] t0
  have h2 := send_bad [] t4
  have h3 := send_ok (p := 3) (.inr (.inr rfl)) [] (by decide) (by decide)
  have h4 : f_tones_Back 1 (List.replicate ((3 : Int)).toNat (Fl.bits 0, Fl.bits 0)) = some ([], 1) := back_bad _ t1 (.inr (.inr (by decide)))
  have h5 : f_tones_Back 1 (mk0 65540 (Fl.bits 0, Fl.bits 0)) = some ([], 1) := back_bad _ t1 (.inr (.inl (by rw [show (65540 : Int) = ((65540 : Nat) : Int) from rfl, mk0_len]; decide)))
  have h6 := back_ok (p := 1) (.inl rfl) (mk0 ((65536 : Nat) : Int) (Fl.bits 0, Fl.bits 0)) (by rw [mk0_len]; decide) (by rw [mk0_len])
  have l6 : (rowsV false 1 (mk0 ((65536 : Nat) : Int) (Fl.bits 0, Fl.bits 0))).length = 65536 := by rw [rowsV_len, mk0_len]
  rw [show ((65536 : Nat) : Int) = 65536 from rfl, show ((1 : Nat) : Int) = 1 from rfl] at h6
  rw [show ((65536 : Nat) : Int) = 65536 from rfl] at l6
  rw [show ((3 : Nat) : Int) = 3 from rfl] at h3
  generalize rowsV false 1 (mk0 (65536 : Int) (Fl.bits 0, Fl.bits 0)) = X at *
  have h7 : f_tones_Heard 2 (List.replicate ((4 : Int)).toNat ((Fl.bits 0, Fl.bits 0), false)) = some ([], [], 1) := by
    have e : loop (f_tones_Heard.s1 (List.replicate ((4 : Int)).toNat ((Fl.bits 0, Fl.bits 0), false))) (List.replicate 4 (Fl.bits 0, Fl.bits 0), 0) = some (List.replicate 4 (Fl.bits 0, Fl.bits 0)) := loop_iff.2 ⟨5, by decide +kernel⟩
    unfold f_tones_Heard
    rw [if_pos (by decide), show (((List.replicate ((4 : Int)).toNat ((Fl.bits 0, Fl.bits 0), false)).length : Int)).toNat = 4 from rfl, e]
    simp only [Option.bind_some]
    rw [back_bad _ t2 (.inr (.inr (by decide)))]; rfl
  have h8 : f_tones_Entry 3 64 0 = some (0, 1) := by unfold f_tones_Entry; rw [t3]; rfl
  have h9 : f_tones_Entry 3 0 (-1) = some (0, 1) := by unfold f_tones_Entry; rw [t3]; rfl
  have h10 : f_tones_Entry 3 63 63 = some (3, 0) := by
    unfold f_tones_Entry
    have := entry_ok (p := 3) (a := 63) (b := 63) (by decide) (by decide) (by decide)
    rw [show ((63 : Nat) : Int) = 63 from rfl] at this
    rw [t3]
    simp only [Option.bind_some]
    rw [if_neg (by decide), this]; rfl
  have h11 : f_tones_Pure 1 4 = some ([], 1) := by unfold f_tones_Pure; rw [t1]; rfl
  have h12 : f_tones_Round 1 (List.replicate ((2 : Int)).toNat (Fl.bits 0, Fl.bits 0)) 1 = some ([], 1) := by unfold f_tones_Round; rw [t1]; rfl
  have h13 : f_tones_Energy [] = some (Fl.bits 0, 0) := by
    unfold f_tones_Energy
    have : loop (f_tones_Energy.s1 []) (Fl.bits 0, 0) = some (Fl.bits 0) := loop_iff.2 ⟨1, by decide +kernel⟩
    rw [if_neg (by decide), this]; rfl
  have h14 : f_tones_Energy (mk0 65537 (Fl.bits 0, Fl.bits 0)) = some (Fl.bits 0, 1) := by
    have hl : ((mk0 (65537 : Int) (Fl.bits 0, Fl.bits 0)).length : Int) = 65537 := by rw [show (65537 : Int) = ((65537 : Nat) : Int) from rfl, mk0_len]
    unfold f_tones_Energy
    rw [hl]; rfl
  unfold f_foghornlaw09_TonesNone
  rw [h1, h2]
  simp only [Option.bind_some]
  rw [h3]
  simp only [Option.bind_some]
  rw [if_pos (by decide), h4]
  simp only [Option.bind_some]
  rw [if_pos (by decide), h5]
  simp only [Option.bind_some]
  rw [if_pos (by decide), h6]
  simp only [Option.bind_some]
  rw [if_pos (by decide), h7, h8, h9, h10, h11]
  simp only [Option.bind_some]
  rw [if_pos (by decide), h12, h13]
  simp only [Option.bind_some]
  rw [if_pos (by decide), h14, awake_true]
  simp only [Option.bind_some]
  rw [l6]
  decide +kernel

end Go.Proofs.Ythmobhgjojgipaa
