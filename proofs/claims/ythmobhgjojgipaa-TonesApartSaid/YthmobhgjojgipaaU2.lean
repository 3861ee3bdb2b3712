/- The plain law of TonesApart. -/
import Derived.Test.YthmobhgjojgipaaG2
import Derived.Test.YthmobhgjojgipaaGlK
import Derived.Test.YthmobhgjojgipaaGlW
import Derived.Test.YthmobhgjojgipaaGlY
set_option linter.unusedVariables false
set_option linter.unusedSimpArgs false
set_option maxRecDepth 8000
set_option exponentiation.threshold 3000
namespace Go.Proofs.Ythmobhgjojgipaa
open GL Go

/-! ### Quarters -/
theorem fneg_fneg (x : Fl) : fneg (fneg x) = x := by
  cases x with
  | nan => rfl
  | bits b =>
    simp only [fneg, Fl.bits.injEq]
    show (b ^^^ 2 ^ 63) ^^^ 2 ^ 63 = b
    rw [Nat.xor_assoc, Nat.xor_self, Nat.xor_zero]
def tn (z : Fl × Fl) : Nat → Fl × Fl
  | 0 => z
  | i + 1 => (fneg (tn z i).2, (tn z i).1)
theorem iand3 (n : Int) : iand .i64 n 3 = n % 4 := by
  have h3 : (BitVec.ofInt IntKind.i64.bits n &&& BitVec.ofInt IntKind.i64.bits 3).toNat = (n % 4).toNat := by
    rw [BitVec.toNat_and]
    show (BitVec.ofInt 64 n).toNat &&& (BitVec.ofInt 64 3).toNat = _
    have e3 : (BitVec.ofInt 64 3).toNat = 2 ^ 2 - 1 := by decide
    rw [e3, Nat.and_two_pow_sub_one_eq_mod, BitVec.toNat_ofInt]
    omega
  unfold iand
  rw [h3, w64 (by omega) (by omega)]; omega
theorem turn_ok (z : Fl × Fl) (n : Int) : f_plane_Turn z n = some (tn z (n % 4).toNat) := by
  unfold f_plane_Turn
  rw [iand3]
  have h : n % 4 = 0 ∨ n % 4 = 1 ∨ n % 4 = 2 ∨ n % 4 = 3 := by omega
  rcases h with h | h | h | h <;> rw [h] <;> simp [tn, fneg_fneg]
/-! ### Loops -/
theorem lst {σ R : Type} {f : σ → Option (σ ⊕ R)} (n : Nat) (g : Nat → σ) (r : R)
    (h1 : ∀ i : Nat, i < n → f (g i) = some (.inl (g (i + 1)))) (h2 : f (g n) = some (.inr r)) : loop f (g 0) = some r := by
  have : ∀ k i : Nat, i + k = n → loop f (g i) = some r := by
    intro k
    induction k with
    | zero => intro i hi; obtain rfl : i = n := by omega
              exact loop_done h2
    | succ k ih => intro i hi; rw [loop_step (h1 i (by omega))]; exact ih (i + 1) (by omega)
  exact this n 0 (by omega)
theorem mid_set {α : Type} {A B : List α} (v x : α) {n : Nat} (h : A.length = n) : (A ++ v :: B).set n x = A ++ x :: B := by
  rw [List.set_append_right _ _ (by omega), h, Nat.sub_self, List.set_cons_zero]
theorem fill_step {α : Type} {D : List α} {z : α} {i : Nat} (h : i < D.length) : (D.take i ++ List.replicate (D.length - i) z).set i D[i] = D.take (i + 1) ++ List.replicate (D.length - (i + 1)) z := by
  have e : List.replicate (D.length - i) z = z :: List.replicate (D.length - (i + 1)) z := by rw [← List.replicate_succ]; congr 1; omega
  rw [e, mid_set _ _ (by rw [List.length_take]; omega), List.take_succ_eq_append_getElem h, List.append_assoc]; rfl
abbrev zc : Fl × Fl := (Fl.bits 0, Fl.bits 0)
/-! ### Entries -/
def ent : Nat → Nat → Nat → Nat
  | 0, _, _ => 0
  | p + 1, a, b => (a % 4) * (b % 4) + ent p (a / 4) (b / 4)
theorem ent_le : ∀ p a b, ent p a b ≤ 9 * p
  | 0, _, _ => Nat.le_refl _
  | p + 1, a, b => by
    have h := ent_le p (a / 4) (b / 4)
    have h2 : (a % 4) * (b % 4) ≤ 3 * 3 := Nat.mul_le_mul (by omega) (by omega)
    simp only [ent]; omega
theorem ent_comm : ∀ p a b, ent p a b = ent p b a
  | 0, _, _ => rfl
  | p + 1, a, b => by simp only [ent]; rw [ent_comm p (a / 4) (b / 4), Nat.mul_comm]
theorem ent_zero : ∀ p b, ent p 0 b = 0
  | 0, _ => rfl
  | p + 1, b => by simp only [ent]; rw [show 0 / 4 = 0 from rfl, ent_zero p]; simp
theorem iandn3 {n : Nat} (h : n < 9223372036854775808) : iand .i64 (n : Int) 3 = ((n % 4 : Nat) : Int) := by
  rw [iand3]; omega
theorem ishr2 (n : Nat) : ishr .i64 (n : Int) 2 = ((n / 4 : Nat) : Int) := ishr_nat (k := .i64) (a := n) (s := 2) (by decide)
theorem entry_loop : ∀ p a b n : Nat, a < 4 ^ p → b < 4 ^ p → p ≤ 3 → n + 9 * p ≤ 100 → loop f_tones_entry.s1 ((a : Int), (b : Int), (n : Int)) = some ((n + ent p a b : Nat) : Int)
  | 0, a, b, n, ha, hb, _, hn => by
    obtain rfl : a = 0 := by simpa using ha
    apply loop_done
    simp only [f_tones_entry.s1, f_tones_entry.s1c, ent]
    rw [if_neg (by simp)]; rfl
  | p + 1, a, b, n, ha, hb, hp, hn => by
    have hpow : 4 ^ (p + 1) ≤ 4 ^ 3 := Nat.pow_le_pow_right (by decide) hp
    have h64 : (4 : Nat) ^ 3 = 64 := rfl
    by_cases hc : 0 < a ∧ 0 < b
    · have h2 : (a % 4) * (b % 4) ≤ 3 * 3 := Nat.mul_le_mul (by omega) (by omega)
      have hs : f_tones_entry.s1 ((a : Int), (b : Int), (n : Int)) = some (.inl (((a / 4 : Nat) : Int), ((b / 4 : Nat) : Int), ((n + (a % 4) * (b % 4) : Nat) : Int))) := by
        simp only [f_tones_entry.s1, f_tones_entry.s1c]
        rw [if_pos (by simp only [Bool.and_eq_true, decide_eq_true_eq]; omega), ishr2, ishr2, iandn3 (by omega), iandn3 (by omega), ← Int.natCast_mul, w64 (x := (((a % 4) * (b % 4) : Nat) : Int)) (by omega) (by omega), w64 (by omega) (by omega), ← Int.natCast_add]
      rw [loop_step hs, entry_loop p (a / 4) (b / 4) _ (by rw [Nat.pow_succ] at ha; omega) (by rw [Nat.pow_succ] at hb; omega) (by omega) (by omega)]
      simp only [ent]
      rw [Nat.add_assoc]
    · have e : ent (p + 1) a b = 0 := by
        by_cases h0 : a = 0
        · subst h0; exact ent_zero _ _
        · have : b = 0 := by omega
          subst this
          rw [ent_comm]; exact ent_zero _ _
      rw [e]
      apply loop_done
      simp only [f_tones_entry.s1, f_tones_entry.s1c]
      rw [if_neg (by simp only [Bool.and_eq_true, decide_eq_true_eq]; omega)]; rfl
theorem entry_ok {p a b : Nat} (ha : a < 4 ^ p) (hb : b < 4 ^ p) (hp : p ≤ 3) : f_tones_entry (a : Int) (b : Int) = some ((ent p a b % 4 : Nat) : Int) := by
  unfold f_tones_entry
  have := entry_loop p a b 0 ha hb hp (by omega)
  have hl := ent_le p a b
  rw [show ((0 : Nat) : Int) = 0 from rfl] at this
  rw [this]
  simp only [Option.bind_some, Nat.zero_add]
  rw [iandn3 (by omega)]
theorem tones_ok {p : Nat} (hp : p = 1 ∨ p = 2 ∨ p = 3) : f_tones_tones (p : Int) = some ((4 ^ p : Nat) : Int) := by
  rcases hp with rfl | rfl | rfl <;> decide +kernel
/-! ### Rows -/
def rot (s : Bool) (e : Nat) : Nat := if s then e % 4 else (4 - e % 4) % 4
def accT (s : Bool) (p : Nat) (l : List (Fl × Fl)) (base a : Nat) : Nat → Fl × Fl
  | 0 => zc
  | k + 1 => cadd (accT s p l base a k) (tn (gt l ((base + k : Nat) : Int)) (rot s (ent p a k)))
def sc (p : Nat) : Fl := fquo (Fl.bits 4607182418800017408) (fofi (ishl .i64 1 (p : Int)))
def rowV (s : Bool) (p : Nat) (l : List (Fl × Fl)) (n : Nat) : Fl × Fl := (fmul (accT s p l (n / 4 ^ p * 4 ^ p) (n % 4 ^ p) (4 ^ p)).1 (sc p), fmul (accT s p l (n / 4 ^ p * 4 ^ p) (n % 4 ^ p) (4 ^ p)).2 (sc p))
def rowsV (s : Bool) (p : Nat) (l : List (Fl × Fl)) : List (Fl × Fl) := (List.range l.length).map (rowV s p l)
theorem rowsV_len (s : Bool) (p : Nat) (l : List (Fl × Fl)) : (rowsV s p l).length = l.length := by simp [rowsV]
theorem rowsV_get (s : Bool) (p : Nat) (l : List (Fl × Fl)) {n : Nat} (h : n < (rowsV s p l).length) : (rowsV s p l)[n] = rowV s p l n := by simp [rowsV]
theorem turn_there (z : Fl × Fl) (e : Nat) : f_plane_Turn z ((e % 4 : Nat) : Int) = some (tn z (rot true e)) := by
  rw [turn_ok]
  congr 2
  simp only [rot, if_true]; omega
theorem turn_back (z : Fl × Fl) (e : Nat) : f_tones_back_1 z ((e % 4 : Nat) : Int) = some (tn z (rot false e)) := by
  unfold f_tones_back_1
  rw [w64 (by omega) (by omega), turn_ok]
  simp only [Option.bind_some]
  congr 2
  simp only [rot, Bool.false_eq_true, if_false]; omega
theorem rows_there {p : Nat} (hp : p = 1 ∨ p = 2 ∨ p = 3) (l : List (Fl × Fl)) (hl : l.length ≤ 65536) (hm : l.length % 4 ^ p = 0) : f_tones_way_rows (p : Int) l = some (rowsV true p l, 0) := by
  have hm4 : 4 ≤ 4 ^ p ∧ 4 ^ p ≤ 64 := by rcases hp with rfl | rfl | rfl <;> decide
  have hp3 : p ≤ 3 := by omega
  unfold f_tones_way_rows
  rw [tones_ok hp]
  simp only [Option.bind_some]
  have hV := rowsV_len true p l
  have hlt : ∀ a b : Nat, a < 4 ^ p → b < 4 ^ p → f_tones_entry (a : Int) (b : Int) = some ((ent p a b % 4 : Nat) : Int) := fun a b ha hb => entry_ok ha hb hp3
  have hsc : fquo (Fl.bits 4607182418800017408) (fofi (ishl .i64 1 (p : Int))) = sc p := rfl
  have hvg : ∀ j a : Nat, a < 4 ^ p → rowV true p l (j * 4 ^ p + a) = (fmul (accT true p l (j * 4 ^ p) a (4 ^ p)).1 (sc p), fmul (accT true p l (j * 4 ^ p) a (4 ^ p)).2 (sc p)) := by
    intro j a ha
    unfold rowV
    have e1 : (j * 4 ^ p + a) / 4 ^ p = j := by rw [Nat.mul_comm, Nat.mul_add_div (by omega), Nat.div_eq_of_lt ha, Nat.add_zero]
    have e2 : (j * 4 ^ p + a) % 4 ^ p = a := by rw [Nat.mul_comm, Nat.mul_add_mod, Nat.mod_eq_of_lt ha]
    rw [e1, e2]
  generalize hM : 4 ^ p = m at *
  rw [if_neg (by simp only [Bool.or_eq_true, beq_iff_eq, decide_eq_true_eq]; omega), if_pos (by omega)]
  simp only [Option.bind_some]
  have hmod : ((l.length : Int)).tmod (m : Int) = 0 := by rw [Int.tmod_eq_emod_of_nonneg (by omega), ← Int.natCast_emod, hm]; rfl
  rw [hmod, if_neg (by decide), if_pos (by omega), if_pos (by omega), Int.toNat_natCast]
  have hdiv := Nat.div_add_mod l.length m
  rw [hm, Nat.add_zero] at hdiv
  generalize hJ : l.length / m = J at *
  -- one entry
  have inner : ∀ j a : Nat, j < J → a < m → loop (f_tones_way_rows.s3 l (m : Int) ((j * m : Nat) : Int) (a : Int)) (zc, 0) = some (accT true p l (j * m) a m) := by
    intro j a hj ha
    have hjm : j * m + m ≤ l.length := by
      have : (j + 1) * m ≤ J * m := Nat.mul_le_mul_right _ hj
      rw [Nat.succ_mul] at this
      rw [← hdiv, Nat.mul_comm m J]; exact this
    have hw : IntKind.i64.wrap (((j * m : Nat) : Int) + (m : Int)) = ((j * m + m : Nat) : Int) := by rw [w64 (by omega) (by omega)]; omega
    have hcut : (l.drop (j * m)).take (j * m + m - j * m) = (l.drop (j * m)).take m := by congr 1; omega
    have hcl : ((l.drop (j * m)).take m).length = m := by rw [List.length_take, List.length_drop]; omega
    have := lst (f := f_tones_way_rows.s3 l (m : Int) ((j * m : Nat) : Int) (a : Int)) m (fun b => (accT true p l (j * m) a b, (b : Int))) (accT true p l (j * m) a m) (fun b hb => ?_) ?_
    · exact this
    · simp only [f_tones_way_rows.s3, f_tones_way_rows.s3c]
      rw [hw, Int.toNat_natCast, Int.toNat_natCast, hcut, hcl, if_pos (by rw [decide_eq_true_eq]; omega), if_pos (by omega), hlt a b (by omega) (by omega)]
      simp only [Option.bind_some]
      rw [turn_there]
      simp only [Option.bind_some]
      have hg : gt ((l.drop (j * m)).take m) (b : Int) = gt l ((j * m + b : Nat) : Int) := by
        rw [gt_nat (by omega), gt_nat (by omega)]
        simp
      rw [hg, w64 (by omega) (by omega)]; rfl
    · simp only [f_tones_way_rows.s3, f_tones_way_rows.s3c]
      rw [hw, Int.toNat_natCast, Int.toNat_natCast, hcut, hcl, if_neg (by simp)]
  -- one row
  have row : ∀ j : Nat, j < J → loop (f_tones_way_rows.s2 (p : Int) l (m : Int) ((j * m : Nat) : Int)) ((rowsV true p l).take (j * m) ++ List.replicate ((rowsV true p l).length - j * m) zc, 0) = some ((rowsV true p l).take (j * m + m) ++ List.replicate ((rowsV true p l).length - (j * m + m)) zc) := by
    intro j hj
    have hjm : j * m + m ≤ l.length := by
      have : (j + 1) * m ≤ J * m := Nat.mul_le_mul_right _ hj
      rw [Nat.succ_mul] at this
      rw [← hdiv, Nat.mul_comm m J]; exact this
    have hw : IntKind.i64.wrap (((j * m : Nat) : Int) + (m : Int)) = ((j * m + m : Nat) : Int) := by rw [w64 (by omega) (by omega)]; omega
    have := lst (f := f_tones_way_rows.s2 (p : Int) l (m : Int) ((j * m : Nat) : Int)) m (fun a => ((rowsV true p l).take (j * m + a) ++ List.replicate ((rowsV true p l).length - (j * m + a)) zc, (a : Int))) ((rowsV true p l).take (j * m + m) ++ List.replicate ((rowsV true p l).length - (j * m + m)) zc) (fun a ha => ?_) ?_
    · exact this
    · simp only [f_tones_way_rows.s2, f_tones_way_rows.s2c]
      have hT : ((rowsV true p l).take (j * m + a) ++ List.replicate ((rowsV true p l).length - (j * m + a)) zc).length = l.length := by rw [List.length_append, List.length_take, List.length_replicate]; omega
      have hwa : IntKind.i64.wrap (((j * m : Nat) : Int) + (a : Int)) = ((j * m + a : Nat) : Int) := by rw [w64 (by omega) (by omega)]; omega
      rw [if_pos (by rw [decide_eq_true_eq]; omega), hw, if_pos (by omega), show ((Fl.bits 0, Fl.bits 0) : Fl × Fl) = zc from rfl, inner j a hj ha]
      simp only [Option.bind_some]
      rw [hwa, if_pos (by rw [hT]; omega), Int.toNat_natCast, hsc, ← hvg j a (by omega)]
      have fs := fill_step (D := rowsV true p l) (z := zc) (i := j * m + a) (by omega)
      rw [rowsV_get] at fs
      rw [fs, w64 (by omega) (by omega)]; rfl
    · simp only [f_tones_way_rows.s2, f_tones_way_rows.s2c]
      rw [if_neg (by simp)]
  have := lst (f := f_tones_way_rows.s1 (p : Int) l (m : Int)) J (fun j => ((rowsV true p l).take (j * m) ++ List.replicate ((rowsV true p l).length - j * m) zc, ((j * m : Nat) : Int))) (rowsV true p l) (fun j hj => ?_) ?_
  · rw [Nat.zero_mul, List.take_zero, List.nil_append, Nat.sub_zero, hV] at this
    rw [show ((Fl.bits 0, Fl.bits 0) : Fl × Fl) = zc from rfl, show (0 : Int) = ((0 : Nat) : Int) from rfl, this]; rfl
  · simp only [f_tones_way_rows.s1, f_tones_way_rows.s1c]
    have hjm : j * m + m ≤ l.length := by
      have : (j + 1) * m ≤ J * m := Nat.mul_le_mul_right _ hj
      rw [Nat.succ_mul] at this
      rw [← hdiv, Nat.mul_comm m J]; exact this
    rw [if_pos (by rw [decide_eq_true_eq]; omega), row j hj]
    simp only [Option.bind_some]
    have hw : IntKind.i64.wrap (((j * m : Nat) : Int) + (m : Int)) = ((j * m + m : Nat) : Int) := by rw [w64 (by omega) (by omega)]; omega
    rw [hw, Nat.succ_mul]
  · simp only [f_tones_way_rows.s1, f_tones_way_rows.s1c]
    have hJm : J * m = l.length := by rw [Nat.mul_comm]; exact hdiv
    rw [hJm, if_neg (by simp), ← hV, List.take_length, Nat.sub_self]; simp
theorem rows_back {p : Nat} (hp : p = 1 ∨ p = 2 ∨ p = 3) (l : List (Fl × Fl)) (hl : l.length ≤ 65536) (hm : l.length % 4 ^ p = 0) : f_tones_way_rows_21 (p : Int) l = some (rowsV false p l, 0) := by
  have hm4 : 4 ≤ 4 ^ p ∧ 4 ^ p ≤ 64 := by rcases hp with rfl | rfl | rfl <;> decide
  have hp3 : p ≤ 3 := by omega
  unfold f_tones_way_rows_21
  rw [tones_ok hp]
  simp only [Option.bind_some]
  have hV := rowsV_len false p l
  have hlt : ∀ a b : Nat, a < 4 ^ p → b < 4 ^ p → f_tones_entry (a : Int) (b : Int) = some ((ent p a b % 4 : Nat) : Int) := fun a b ha hb => entry_ok ha hb hp3
  have hsc : fquo (Fl.bits 4607182418800017408) (fofi (ishl .i64 1 (p : Int))) = sc p := rfl
  have hvg : ∀ j a : Nat, a < 4 ^ p → rowV false p l (j * 4 ^ p + a) = (fmul (accT false p l (j * 4 ^ p) a (4 ^ p)).1 (sc p), fmul (accT false p l (j * 4 ^ p) a (4 ^ p)).2 (sc p)) := by
    intro j a ha
    unfold rowV
    have e1 : (j * 4 ^ p + a) / 4 ^ p = j := by rw [Nat.mul_comm, Nat.mul_add_div (by omega), Nat.div_eq_of_lt ha, Nat.add_zero]
    have e2 : (j * 4 ^ p + a) % 4 ^ p = a := by rw [Nat.mul_comm, Nat.mul_add_mod, Nat.mod_eq_of_lt ha]
    rw [e1, e2]
  generalize hM : 4 ^ p = m at *
  rw [if_neg (by simp only [Bool.or_eq_true, beq_iff_eq, decide_eq_true_eq]; omega), if_pos (by omega)]
  simp only [Option.bind_some]
  have hmod : ((l.length : Int)).tmod (m : Int) = 0 := by rw [Int.tmod_eq_emod_of_nonneg (by omega), ← Int.natCast_emod, hm]; rfl
  rw [hmod, if_neg (by decide), if_pos (by omega), if_pos (by omega), Int.toNat_natCast]
  have hdiv := Nat.div_add_mod l.length m
  rw [hm, Nat.add_zero] at hdiv
  generalize hJ : l.length / m = J at *
  -- one entry
  have inner : ∀ j a : Nat, j < J → a < m → loop (f_tones_way_rows_21.s3 l (m : Int) ((j * m : Nat) : Int) (a : Int)) (zc, 0) = some (accT false p l (j * m) a m) := by
    intro j a hj ha
    have hjm : j * m + m ≤ l.length := by
      have : (j + 1) * m ≤ J * m := Nat.mul_le_mul_right _ hj
      rw [Nat.succ_mul] at this
      rw [← hdiv, Nat.mul_comm m J]; exact this
    have hw : IntKind.i64.wrap (((j * m : Nat) : Int) + (m : Int)) = ((j * m + m : Nat) : Int) := by rw [w64 (by omega) (by omega)]; omega
    have hcut : (l.drop (j * m)).take (j * m + m - j * m) = (l.drop (j * m)).take m := by congr 1; omega
    have hcl : ((l.drop (j * m)).take m).length = m := by rw [List.length_take, List.length_drop]; omega
    have := lst (f := f_tones_way_rows_21.s3 l (m : Int) ((j * m : Nat) : Int) (a : Int)) m (fun b => (accT false p l (j * m) a b, (b : Int))) (accT false p l (j * m) a m) (fun b hb => ?_) ?_
    · exact this
    · simp only [f_tones_way_rows_21.s3, f_tones_way_rows_21.s3c]
      rw [hw, Int.toNat_natCast, Int.toNat_natCast, hcut, hcl, if_pos (by rw [decide_eq_true_eq]; omega), if_pos (by omega), hlt a b (by omega) (by omega)]
      simp only [Option.bind_some]
      rw [turn_back]
      simp only [Option.bind_some]
      have hg : gt ((l.drop (j * m)).take m) (b : Int) = gt l ((j * m + b : Nat) : Int) := by
        rw [gt_nat (by omega), gt_nat (by omega)]
        simp
      rw [hg, w64 (by omega) (by omega)]; rfl
    · simp only [f_tones_way_rows_21.s3, f_tones_way_rows_21.s3c]
      rw [hw, Int.toNat_natCast, Int.toNat_natCast, hcut, hcl, if_neg (by simp)]
  -- one row
  have row : ∀ j : Nat, j < J → loop (f_tones_way_rows_21.s2 (p : Int) l (m : Int) ((j * m : Nat) : Int)) ((rowsV false p l).take (j * m) ++ List.replicate ((rowsV false p l).length - j * m) zc, 0) = some ((rowsV false p l).take (j * m + m) ++ List.replicate ((rowsV false p l).length - (j * m + m)) zc) := by
    intro j hj
    have hjm : j * m + m ≤ l.length := by
      have : (j + 1) * m ≤ J * m := Nat.mul_le_mul_right _ hj
      rw [Nat.succ_mul] at this
      rw [← hdiv, Nat.mul_comm m J]; exact this
    have hw : IntKind.i64.wrap (((j * m : Nat) : Int) + (m : Int)) = ((j * m + m : Nat) : Int) := by rw [w64 (by omega) (by omega)]; omega
    have := lst (f := f_tones_way_rows_21.s2 (p : Int) l (m : Int) ((j * m : Nat) : Int)) m (fun a => ((rowsV false p l).take (j * m + a) ++ List.replicate ((rowsV false p l).length - (j * m + a)) zc, (a : Int))) ((rowsV false p l).take (j * m + m) ++ List.replicate ((rowsV false p l).length - (j * m + m)) zc) (fun a ha => ?_) ?_
    · exact this
    · simp only [f_tones_way_rows_21.s2, f_tones_way_rows_21.s2c]
      have hT : ((rowsV false p l).take (j * m + a) ++ List.replicate ((rowsV false p l).length - (j * m + a)) zc).length = l.length := by rw [List.length_append, List.length_take, List.length_replicate]; omega
      have hwa : IntKind.i64.wrap (((j * m : Nat) : Int) + (a : Int)) = ((j * m + a : Nat) : Int) := by rw [w64 (by omega) (by omega)]; omega
      rw [if_pos (by rw [decide_eq_true_eq]; omega), hw, if_pos (by omega), show ((Fl.bits 0, Fl.bits 0) : Fl × Fl) = zc from rfl, inner j a hj ha]
      simp only [Option.bind_some]
      rw [hwa, if_pos (by rw [hT]; omega), Int.toNat_natCast, hsc, ← hvg j a (by omega)]
      have fs := fill_step (D := rowsV false p l) (z := zc) (i := j * m + a) (by omega)
      rw [rowsV_get] at fs
      rw [fs, w64 (by omega) (by omega)]; rfl
    · simp only [f_tones_way_rows_21.s2, f_tones_way_rows_21.s2c]
      rw [if_neg (by simp)]
  have := lst (f := f_tones_way_rows_21.s1 (p : Int) l (m : Int)) J (fun j => ((rowsV false p l).take (j * m) ++ List.replicate ((rowsV false p l).length - j * m) zc, ((j * m : Nat) : Int))) (rowsV false p l) (fun j hj => ?_) ?_
  · rw [Nat.zero_mul, List.take_zero, List.nil_append, Nat.sub_zero, hV] at this
    rw [show ((Fl.bits 0, Fl.bits 0) : Fl × Fl) = zc from rfl, show (0 : Int) = ((0 : Nat) : Int) from rfl, this]; rfl
  · simp only [f_tones_way_rows_21.s1, f_tones_way_rows_21.s1c]
    have hjm : j * m + m ≤ l.length := by
      have : (j + 1) * m ≤ J * m := Nat.mul_le_mul_right _ hj
      rw [Nat.succ_mul] at this
      rw [← hdiv, Nat.mul_comm m J]; exact this
    rw [if_pos (by rw [decide_eq_true_eq]; omega), row j hj]
    simp only [Option.bind_some]
    have hw : IntKind.i64.wrap (((j * m : Nat) : Int) + (m : Int)) = ((j * m + m : Nat) : Int) := by rw [w64 (by omega) (by omega)]; omega
    rw [hw, Nat.succ_mul]
  · simp only [f_tones_way_rows_21.s1, f_tones_way_rows_21.s1c]
    have hJm : J * m = l.length := by rw [Nat.mul_comm]; exact hdiv
    rw [hJm, if_neg (by simp), ← hV, List.take_length, Nat.sub_self]; simp
theorem send_ok {p : Nat} (hp : p = 1 ∨ p = 2 ∨ p = 3) (l : List (Fl × Fl)) (hl : l.length ≤ 65536) (hm : l.length % 4 ^ p = 0) : f_tones_Send (p : Int) l = some (rowsV true p l, 0) := by
  unfold f_tones_Send
  rw [rows_there hp l hl hm]; rfl
theorem back_ok {p : Nat} (hp : p = 1 ∨ p = 2 ∨ p = 3) (l : List (Fl × Fl)) (hl : l.length ≤ 65536) (hm : l.length % 4 ^ p = 0) : f_tones_Back (p : Int) l = some (rowsV false p l, 0) := by
  unfold f_tones_Back
  rw [rows_back hp l hl hm]; rfl
/-! ### One tone of four -/
theorem awake_true : f_foghornlaw09_awake = some true := by
  have e1 := send_ok (p := 1) (.inl rfl) [(Fl.bits 0, Fl.bits 0), (Fl.bits 4616189618054758400, Fl.bits 0), (Fl.bits 0, Fl.bits 0), (Fl.bits 0, Fl.bits 0)] (by decide) (by decide)
  have e2 := back_ok (p := 1) (.inl rfl) [(Fl.bits 4611686018427387904, Fl.bits 0), (Fl.bits 0, Fl.bits 4611686018427387904), (Fl.bits 13835058055282163712, Fl.bits 0), (Fl.bits 0, Fl.bits 13835058055282163712)] (by decide) (by decide)
  rw [show ((1 : Nat) : Int) = 1 from rfl] at e1 e2
  have r1 : rowsV true 1 [(Fl.bits 0, Fl.bits 0), (Fl.bits 4616189618054758400, Fl.bits 0), (Fl.bits 0, Fl.bits 0), (Fl.bits 0, Fl.bits 0)] = [(Fl.bits 4611686018427387904, Fl.bits 0), (Fl.bits 0, Fl.bits 4611686018427387904), (Fl.bits 13835058055282163712, Fl.bits 0), (Fl.bits 0, Fl.bits 13835058055282163712)] := by decide +kernel
  have r2 : rowsV false 1 [(Fl.bits 4611686018427387904, Fl.bits 0), (Fl.bits 0, Fl.bits 4611686018427387904), (Fl.bits 13835058055282163712, Fl.bits 0), (Fl.bits 0, Fl.bits 13835058055282163712)] = [(Fl.bits 0, Fl.bits 0), (Fl.bits 4616189618054758400, Fl.bits 0), (Fl.bits 0, Fl.bits 0), (Fl.bits 0, Fl.bits 0)] := by decide +kernel
  have s1 : loop (f_foghornref03_SameRow.s1 [(Fl.bits 4611686018427387904, Fl.bits 0), (Fl.bits 0, Fl.bits 4611686018427387904), (Fl.bits 13835058055282163712, Fl.bits 0), (Fl.bits 0, Fl.bits 13835058055282163712)] [(Fl.bits 4611686018427387904, Fl.bits 0), (Fl.bits 0, Fl.bits 4611686018427387904), (Fl.bits 13835058055282163712, Fl.bits 0), (Fl.bits 0, Fl.bits 13835058055282163712)]) 0 = some (.inl ()) := loop_iff.2 ⟨5, by decide +kernel⟩
  have s2 : loop (f_foghornref03_SameRow.s1 [(Fl.bits 0, Fl.bits 0), (Fl.bits 4616189618054758400, Fl.bits 0), (Fl.bits 0, Fl.bits 0), (Fl.bits 0, Fl.bits 0)] [(Fl.bits 0, Fl.bits 0), (Fl.bits 4616189618054758400, Fl.bits 0), (Fl.bits 0, Fl.bits 0), (Fl.bits 0, Fl.bits 0)]) 0 = some (.inl ()) := loop_iff.2 ⟨5, by decide +kernel⟩
  unfold f_foghornlaw09_awake
  rw [e1]
  simp only [Option.bind_some]
  rw [e2]
  simp only [Option.bind_some, beq_self_eq_true, Bool.and_self, if_true]
  unfold f_foghornref03_SameRow
  rw [r1, r2, if_neg (by decide), s1]
  simp only [Option.bind_some, sm, if_true]
  rw [if_neg (by decide), s2]; rfl
/-! ### What a float stands for -/
theorem log2_mul_pow {m : Nat} (hm : m ≠ 0) (a : Nat) : (m * 2 ^ a).log2 = m.log2 + a := by
  have h0 : m * 2 ^ a ≠ 0 := Nat.mul_ne_zero hm (Nat.ne_of_gt (Nat.two_pow_pos a))
  rw [Nat.log2_eq_iff h0]
  have l1 := Nat.log2_self_le hm
  have l2 : m < 2 ^ (m.log2 + 1) := Nat.lt_log2_self
  constructor
  · rw [Nat.pow_add]; exact Nat.mul_le_mul_right _ l1
  · rw [show m.log2 + a + 1 = m.log2 + 1 + a by omega, Nat.pow_add _ _ a]; exact Nat.mul_lt_mul_of_pos_right l2 (Nat.two_pow_pos a)
theorem cut_exact (neg : Bool) {m : Nat} (hm : m ≠ 0) (d : Nat) : Ieee.Toward.even.cut neg (m * 2 ^ d) d = m := by
  unfold Ieee.Toward.cut
  rw [log2_mul_pow hm, Nat.min_eq_left (by omega)]
  have hp := Nat.two_pow_pos d
  simp only [Nat.one_shiftLeft, Nat.mul_div_cancel _ hp, Nat.mul_mod_left]
  have e1 : decide (2 ^ d < 2 * 0) = false := by rw [decide_eq_false_iff_not]; omega
  have e2 : (2 ^ d == 2 * 0) = false := by rw [beq_eq_false_iff_ne]; omega
  rw [e1, e2]; simp
theorem nearest_eq (neg : Bool) {mag : Nat} (place : Int) (h : mag ≠ 0) : Ieee.double.nearest neg mag place = Ieee.double.word neg (min ((max (place + mag.log2 - 52) (-1074) - (-1074)).toNat * 4503599627370496 + Ieee.Toward.even.cut neg (mag <<< (place - max (place + mag.log2 - 52) (-1074)).toNat) (max (place + mag.log2 - 52) (-1074) - place).toNat) 9218868437227405312) := by
  unfold Ieee.Format.nearest
  rw [if_neg h]
  have e1 : (Ieee.double.fractionBits : Nat) = 52 := rfl
  have e2 : Ieee.double.leastPlace = -1074 := by decide
  have e3 : Ieee.double.binade = 4503599627370496 := by decide
  have e4 : Ieee.double.infRung = 9218868437227405312 := by decide
  simp only [e1, e2, e3, e4]
  rfl
theorem read_eq (w : Nat) : Ieee.double.read w = (if w % 9223372036854775808 < 4503599627370496 then .number (w / 9223372036854775808 % 2 == 1) (w % 9223372036854775808) (-1074)
    else if w % 9223372036854775808 < 9218868437227405312 then .number (w / 9223372036854775808 % 2 == 1) (4503599627370496 + w % 9223372036854775808 % 4503599627370496) (-1074 + ((w % 9223372036854775808 / 4503599627370496 - 1 : Nat) : Int))
    else if w % 9223372036854775808 = 9218868437227405312 then .infinity (w / 9223372036854775808 % 2 == 1) else .nan (w / 9223372036854775808 % 2 == 1) (w % 9223372036854775808 - 9218868437227405312)) := by
  have e1 : Ieee.double.signWeight = 9223372036854775808 := by decide
  have e2 : Ieee.double.leastPlace = -1074 := by decide
  have e3 : Ieee.double.binade = 4503599627370496 := by decide
  have e4 : Ieee.double.infRung = 9218868437227405312 := by decide
  simp only [Ieee.Format.read, e1, e2, e3, e4]
theorem word_eq (neg : Bool) (r : Nat) : Ieee.double.word neg r = if neg then 9223372036854775808 + r else r := by
  have e1 : Ieee.double.signWeight = 9223372036854775808 := by decide
  simp only [Ieee.Format.word, e1]
theorem read_word (neg : Bool) {t kept : Nat} (h : kept < 9007199254740992) (h2 : t = 0 ∨ 4503599627370496 ≤ kept) (ht : t < 2000) :
    ∃ m e, Ieee.double.read (Ieee.double.word neg (min (t * 4503599627370496 + kept) 9218868437227405312)) = .number neg m e ∧ -1074 ≤ e ∧ m * 2 ^ (e + 1074).toNat = kept * 2 ^ t := by
  rw [Nat.min_eq_left (by omega), word_eq, read_eq]
  generalize hr : t * 4503599627370496 + kept = r
  have hlt : r < 9218868437227405312 := by omega
  generalize hw : (if neg then 9223372036854775808 + r else r) = w
  have w1 : w % 9223372036854775808 = r := by
    cases neg
    · simp at hw; omega
    · simp at hw; omega
  have w2 : (w / 9223372036854775808 % 2 == 1) = neg := by
    cases neg
    · simp only [Bool.false_eq_true, if_false] at hw
      rw [beq_eq_false_iff_ne]; omega
    · simp only [if_true] at hw
      rw [beq_iff_eq]; omega
  rw [w1, w2]
  by_cases hc : r < 4503599627370496
  · rw [if_pos hc]
    have : t = 0 := by omega
    subst this
    refine ⟨_, _, rfl, by omega, ?_⟩
    have : r = kept := by omega
    subst this
    rfl
  · rw [if_neg hc, if_pos hlt]
    refine ⟨_, _, rfl, by omega, ?_⟩
    have e1 : 4503599627370496 + r % 4503599627370496 = kept := by omega
    have e2 : (-1074 + ((r / 4503599627370496 - 1 : Nat) : Int) + 1074).toNat = t := by omega
    rw [e1, e2]
/-- a number that the format has is written as it is -/
theorem near (neg : Bool) {z p K mag : Nat} {place : Int} (hm : mag ≠ 0) (hK : K < 9007199254740992) (hp : p ≤ 800) (hz : p ≤ z) (hpl : 0 ≤ place + z) (h : mag * 2 ^ (place + z).toNat = K * 2 ^ (z - p)) :
    ∃ m e, Ieee.double.read (Ieee.double.nearest neg mag place) = .number neg m e ∧ -1074 ≤ e ∧ m * 2 ^ (e + 1074).toNat = K * 2 ^ (1074 - p) := by
  have hK0 : K ≠ 0 := by
    intro e
    subst e
    rw [Nat.zero_mul] at h
    exact Nat.mul_ne_zero hm (Nat.ne_of_gt (Nat.two_pow_pos _)) h
  have hL : K.log2 ≤ 52 := by
    have := (Nat.log2_lt hK0 (k := 53)).2 (by simpa using hK)
    omega
  have hlog : place + (mag.log2 : Int) = K.log2 - p := by
    have a1 := log2_mul_pow hm (place + z).toNat
    have a2 := log2_mul_pow hK0 (z - p)
    rw [h] at a1
    omega
  rw [nearest_eq neg place hm]
  have hlast : max (place + mag.log2 - 52) (-1074) = max ((K.log2 : Int) - p - 52) (-1074) := by rw [hlog]
  rw [hlast]
  generalize hl : max ((K.log2 : Int) - p - 52) (-1074) = last
  -- the digits that are kept
  have hlp : last ≤ -p := by omega
  have key : mag * 2 ^ (place - last).toNat = (K * 2 ^ (-p - last).toNat) * 2 ^ (last - place).toNat := by
    have hP := Nat.two_pow_pos (place + z).toNat
    apply Nat.eq_of_mul_eq_mul_right hP
    have s1 : mag * 2 ^ (place - last).toNat * 2 ^ (place + z).toNat = (mag * 2 ^ (place + z).toNat) * 2 ^ (place - last).toNat := by
      rw [Nat.mul_assoc, Nat.mul_comm (2 ^ (place - last).toNat), ← Nat.mul_assoc]
    rw [s1, h, Nat.mul_assoc, ← Nat.pow_add, Nat.mul_assoc K, ← Nat.pow_add, Nat.mul_assoc K, ← Nat.pow_add]
    congr 2
    omega
  have hk0 : K * 2 ^ (-p - last).toNat ≠ 0 := Nat.mul_ne_zero hK0 (Nat.ne_of_gt (Nat.two_pow_pos _))
  rw [Nat.shiftLeft_eq, key, cut_exact neg hk0]
  have hkl := log2_mul_pow hK0 (-p - last).toNat
  have hk53 : K * 2 ^ (-p - last).toNat < 9007199254740992 := by
    have l2 : K * 2 ^ (-p - last).toNat < 2 ^ ((K * 2 ^ (-p - last).toNat).log2 + 1) := Nat.lt_log2_self
    have l3 : 2 ^ ((K * 2 ^ (-p - last).toNat).log2 + 1) ≤ 2 ^ 53 := Nat.pow_le_pow_right (by decide) (by omega)
    have l4 : (2 : Nat) ^ 53 = 9007199254740992 := by decide
    omega
  have hk52 : (last - (-1074)).toNat = 0 ∨ 4503599627370496 ≤ K * 2 ^ (-p - last).toNat := by
    by_cases hc : last = -1074
    · left; omega
    · right
      have l1 := Nat.log2_self_le hk0
      have l3 : 2 ^ 52 ≤ 2 ^ (K * 2 ^ (-p - last).toNat).log2 := Nat.pow_le_pow_right (by decide) (by omega)
      have l4 : (2 : Nat) ^ 52 = 4503599627370496 := by decide
      omega
  obtain ⟨m, e, r1, r2, r3⟩ := read_word neg hk53 hk52 (by omega)
  refine ⟨m, e, r1, r2, r3.trans ?_⟩
  rw [Nat.mul_assoc, ← Nat.pow_add]
  congr 2
  omega
def sg (s : Bool) (m : Nat) : Int := if s then -(m : Int) else (m : Int)
theorem sg_mul (s : Bool) (m n : Nat) : sg s (m * n) = sg s m * (n : Int) := by
  cases s <;> simp [sg, Int.neg_mul]
theorem signed_eq (s : Bool) (m u : Nat) : Ieee.signed s m u = sg s (m * 2 ^ u) := by
  unfold Ieee.signed sg
  rw [Nat.shiftLeft_eq]
/-- 'x' stands for 'k / 2 ^ p' -/
def Val (p : Nat) (x : Fl) (k : Int) : Prop := ∃ b s m e, x = .bits b ∧ Ieee.double.read b = .number s m e ∧ -1074 ≤ e ∧ sg s (m * 2 ^ (e + 1074).toNat) = k * ((2 ^ (1074 - p) : Nat) : Int)
theorem pow_pos_i (a : Nat) : (0 : Int) < ((2 ^ a : Nat) : Int) := by have := Nat.two_pow_pos a; omega
theorem val_near (neg : Bool) {z p : Nat} {k total : Int} {place : Int} (hp : p ≤ 800) (hz : p ≤ z) (hpl : 0 ≤ place + z) (hk : k.natAbs < 9007199254740992)
    (h : total * ((2 ^ (place + z).toNat : Nat) : Int) = k * ((2 ^ (z - p) : Nat) : Int)) (hs : total ≠ 0 → neg = decide (total < 0)) : Val p (.bits (Ieee.double.nearest neg total.natAbs place)) k := by
  have p1 := pow_pos_i (place + z).toNat
  have p2 := pow_pos_i (z - p)
  by_cases h0 : total = 0
  · subst h0
    rw [Int.zero_mul] at h
    have hk0 : k = 0 := by
      rcases Int.mul_eq_zero.1 h.symm with h | h
      · exact h
      · omega
    subst hk0
    refine ⟨_, neg, 0, -1074, rfl, ?_, by decide, ?_⟩
    · have : Ieee.double.nearest neg (0 : Int).natAbs place = Ieee.double.word neg 0 := rfl
      rw [this]
      cases neg <;> decide
    · rw [Nat.zero_mul, Int.zero_mul]; cases neg <;> rfl
  · obtain ⟨m, e, r1, r2, r3⟩ := near neg (mag := total.natAbs) (K := k.natAbs) (place := place) (z := z) (p := p) (by omega) hk hp hz hpl (by
      have := congrArg Int.natAbs h
      rw [Int.natAbs_mul, Int.natAbs_mul, Int.natAbs_natCast, Int.natAbs_natCast] at this
      exact this)
    refine ⟨_, neg, m, e, rfl, r1, r2, ?_⟩
    rw [r3, sg_mul, hs h0]
    congr 1
    by_cases ht : total < 0
    · have : k < 0 := by
        apply Int.not_le.mp
        intro hk
        have a1 : 0 ≤ k * ((2 ^ (z - p) : Nat) : Int) := Int.mul_nonneg hk (by omega)
        have a2 : total * ((2 ^ (place + z).toNat : Nat) : Int) < 0 := Int.mul_neg_of_neg_of_pos ht p1
        omega
      rw [decide_eq_true ht]; simp only [sg, if_true]; omega
    · have : 0 ≤ k := by
        apply Int.not_lt.mp
        intro hk
        have a1 : k * ((2 ^ (z - p) : Nat) : Int) < 0 := Int.mul_neg_of_neg_of_pos hk p2
        have a2 : 0 ≤ total * ((2 ^ (place + z).toNat : Nat) : Int) := Int.mul_nonneg (by omega) (by omega)
        omega
      rw [decide_eq_false ht]; simp only [sg, Bool.false_eq_true, if_false]; omega
theorem fofi_val {k : Int} (hk : k.natAbs < 9007199254740992) : Val 0 (fofi k) k := by
  have := val_near (decide (k < 0)) (z := 0) (p := 0) (k := k) (total := k) (place := 0) (by decide) (by decide) (by decide) hk rfl (fun _ => rfl)
  exact this
theorem zero_val (p : Nat) : Val p (.bits 0) 0 := by
  refine ⟨0, false, 0, -1074, rfl, by decide, by decide, ?_⟩
  rw [Nat.zero_mul, Int.zero_mul]; rfl
theorem sum_read {a b : Nat} {s t : Bool} {m n : Nat} {i j : Int} {p : Nat} {k l : Int} (hp : p ≤ 800) (hi : -1074 ≤ i) (hj : -1074 ≤ j)
    (h1 : sg s (m * 2 ^ (i + 1074).toNat) = k * ((2 ^ (1074 - p) : Nat) : Int)) (h2 : sg t (n * 2 ^ (j + 1074).toNat) = l * ((2 ^ (1074 - p) : Nat) : Int)) (hk : (k + l).natAbs < 9007199254740992) :
    ∃ d, (Ieee.Datum.number s m i).sum (.number t n j) = some d ∧ Val p (.bits (Ieee.double.write d)) (k + l) := by
  refine ⟨_, rfl, ?_⟩
  refine val_near (z := 1074) (p := p) (k := k + l) _ hp (by omega) (by omega) hk ?_ (fun h => by rw [if_neg h])
  rw [signed_eq, signed_eq, Int.add_mul, Int.add_mul, ← h1, ← h2, ← sg_mul, ← sg_mul, Nat.mul_assoc, ← Nat.pow_add, Nat.mul_assoc, ← Nat.pow_add]
  congr 4 <;> omega
theorem fadd_val {p : Nat} {x y : Fl} {k l : Int} (h1 : Val p x k) (h2 : Val p y l) (hp : p ≤ 800) (hk : (k + l).natAbs < 9007199254740992) : Val p (fadd x y) (k + l) := by
  obtain ⟨a, s, m, i, rfl, r1, hi, v1⟩ := h1
  obtain ⟨b, t, n, j, rfl, r2, hj, v2⟩ := h2
  obtain ⟨d, e1, e2⟩ := sum_read (a := a) (b := b) hp hi hj v1 v2 hk
  have : fadd (.bits a) (.bits b) = .bits (Ieee.double.write d) := by
    show farith .add _ _ = _
    have : floatBits .add .f64 a b = some (Ieee.double.write d) := by
      show Ieee.double.add a b = _
      unfold Ieee.Format.add
      rw [r1, r2, e1]; rfl
    simp only [farith, this]
  rw [this]; exact e2
theorem sg_not (s : Bool) (m : Nat) : sg (!s) m = - sg s m := by cases s <;> simp [sg]
theorem fsub_val {p : Nat} {x y : Fl} {k l : Int} (h1 : Val p x k) (h2 : Val p y l) (hp : p ≤ 800) (hk : (k - l).natAbs < 9007199254740992) : Val p (fsub x y) (k - l) := by
  obtain ⟨a, s, m, i, rfl, r1, hi, v1⟩ := h1
  obtain ⟨b, t, n, j, rfl, r2, hj, v2⟩ := h2
  obtain ⟨d, e1, e2⟩ := sum_read (a := a) (b := b) (t := !t) (n := n) (l := -l) hp hi hj v1 (by rw [sg_not, v2, Int.neg_mul]) (by rw [← Int.sub_eq_add_neg]; exact hk)
  have : fsub (.bits a) (.bits b) = .bits (Ieee.double.write d) := by
    show farith .sub _ _ = _
    have : floatBits .sub .f64 a b = some (Ieee.double.write d) := by
      show Ieee.double.sub a b = _
      unfold Ieee.Format.sub
      rw [r1, r2]
      show (Ieee.Datum.sum _ (Ieee.Datum.number (!t) n j)).map _ = _
      rw [e1]; rfl
    simp only [farith, this]
  rw [this, Int.sub_eq_add_neg]; exact e2
theorem sg_prod (s t : Bool) (m n : Nat) : sg (s ^^ t) (m * n) = sg s m * sg t n := by
  cases s <;> cases t <;> simp [sg, Int.neg_mul, Int.mul_neg]
theorem fmul_val {p q : Nat} {x y : Fl} {k l : Int} (h1 : Val p x k) (h2 : Val q y l) (hp : p + q ≤ 800) (hk : (k * l).natAbs < 9007199254740992) : Val (p + q) (fmul x y) (k * l) := by
  obtain ⟨a, s, m, i, rfl, r1, hi, v1⟩ := h1
  obtain ⟨b, t, n, j, rfl, r2, hj, v2⟩ := h2
  have hw : floatBits .mul .f64 a b = some (Ieee.double.nearest (s ^^ t) (m * n) (i + j)) := by
    show Ieee.double.mul a b = _
    unfold Ieee.Format.mul
    rw [r1, r2]; rfl
  have hf : fmul (.bits a) (.bits b) = .bits (Ieee.double.nearest (s ^^ t) (m * n) (i + j)) := by
    show farith .mul _ _ = _
    simp only [farith, hw]
  rw [hf]
  have hab : (sg (s ^^ t) (m * n)).natAbs = m * n := by unfold sg; split <;> omega
  rw [← hab]
  refine val_near (z := 2148) (p := p + q) (k := k * l) (total := sg (s ^^ t) (m * n)) _ hp (by omega) (by omega) hk ?_ (fun h => ?_)
  · rw [← sg_mul]
    have e : m * n * 2 ^ (i + j + ((2148 : Nat) : Int)).toNat = (m * 2 ^ (i + 1074).toNat) * (n * 2 ^ (j + 1074).toNat) := by
      rw [show (i + j + ((2148 : Nat) : Int)).toNat = (i + 1074).toNat + (j + 1074).toNat by omega, Nat.pow_add]
      rw [Nat.mul_assoc, Nat.mul_assoc]
      congr 1
      rw [← Nat.mul_assoc, ← Nat.mul_assoc, Nat.mul_comm n]
    rw [e, sg_prod, v1, v2, show 2148 - (p + q) = (1074 - p) + (1074 - q) by omega, Nat.pow_add, Int.natCast_mul]
    generalize ((2 ^ (1074 - p) : Nat) : Int) = P
    generalize ((2 ^ (1074 - q) : Nat) : Int) = Q
    grind
  · unfold sg at h ⊢
    cases hst : (s ^^ t)
    · rw [hst] at h
      simp only [Bool.false_eq_true, if_false] at h ⊢
      symm; rw [decide_eq_false_iff_not]; omega
    · rw [hst] at h
      simp only [if_true] at h ⊢
      symm; rw [decide_eq_true_eq]; omega
theorem feq_val {p : Nat} {x y : Fl} {k : Int} (h1 : Val p x k) (h2 : Val p y k) : feq x y = true := by
  obtain ⟨a, s, m, i, rfl, r1, hi, v1⟩ := h1
  obtain ⟨b, t, n, j, rfl, r2, hj, v2⟩ := h2
  have : fcmp (.bits a) (.bits b) = some .eq := by
    show (Ieee.double.read a).order (Ieee.double.read b) = _
    rw [r1, r2]
    unfold Ieee.Datum.order
    simp only [signed_eq]
    have hP := pow_pos_i (min i j + 1074).toNat
    have e : sg s (m * 2 ^ (i - min i j).toNat) = sg t (n * 2 ^ (j - min i j).toNat) := by
      apply Int.eq_of_mul_eq_mul_right (a := ((2 ^ (min i j + 1074).toNat : Nat) : Int)) (by omega)
      rw [← sg_mul, ← sg_mul, Nat.mul_assoc, ← Nat.pow_add, Nat.mul_assoc, ← Nat.pow_add, show (i - min i j).toNat + (min i j + 1074).toNat = (i + 1074).toNat by omega, show (j - min i j).toNat + (min i j + 1074).toNat = (j + 1074).toNat by omega, v1, v2]
    rw [e]
    congr 1
    simp
  unfold feq
  rw [this]; rfl
theorem fneg_val {p : Nat} {x : Fl} {k : Int} (h : Val p x k) : Val p (fneg x) (-k) := by
  obtain ⟨a, s, m, i, rfl, r1, hi, v1⟩ := h
  have hr := rung_neg a
  have hs : ((a ^^^ 2 ^ 63) / 9223372036854775808 % 2 == 1) = !(a / 9223372036854775808 % 2 == 1) := by
    have t1 : (a ^^^ 2 ^ 63).testBit 63 = !a.testBit 63 := by rw [Nat.testBit_xor, Nat.testBit_two_pow]; simp
    rw [Nat.testBit_eq_decide_div_mod_eq, Nat.testBit_eq_decide_div_mod_eq] at t1
    exact t1
  rw [show (2 : Nat) ^ 63 = 9223372036854775808 from rfl] at hr hs
  have rd : Ieee.double.read (a ^^^ 9223372036854775808) = (Ieee.double.read a).opposite := by
    rw [read_eq, read_eq, hr, hs]
    split
    · rfl
    · split
      · rfl
      · split <;> rfl
  refine ⟨a ^^^ 9223372036854775808, !s, m, i, rfl, by rw [rd, r1]; rfl, hi, ?_⟩
  rw [sg_not, v1, Int.neg_mul]
/-! ### Order, scale, quotients by 4096 -/
theorem fcmp_val {p : Nat} {x y : Fl} {k l : Int} (h1 : Val p x k) (h2 : Val p y l) : fcmp x y = some (compare k l) := by
  obtain ⟨a, s, m, i, rfl, r1, hi, v1⟩ := h1
  obtain ⟨b, t, n, j, rfl, r2, hj, v2⟩ := h2
  show (Ieee.double.read a).order (Ieee.double.read b) = _
  rw [r1, r2]
  unfold Ieee.Datum.order
  simp only [signed_eq]
  have hP := pow_pos_i (min i j + 1074).toNat
  have hQ := pow_pos_i (1074 - p)
  have e1 : sg s (m * 2 ^ (i - min i j).toNat) * ((2 ^ (min i j + 1074).toNat : Nat) : Int) = k * ((2 ^ (1074 - p) : Nat) : Int) := by
    rw [← sg_mul, Nat.mul_assoc, ← Nat.pow_add, show (i - min i j).toNat + (min i j + 1074).toNat = (i + 1074).toNat by omega, v1]
  have e2 : sg t (n * 2 ^ (j - min i j).toNat) * ((2 ^ (min i j + 1074).toNat : Nat) : Int) = l * ((2 ^ (1074 - p) : Nat) : Int) := by
    rw [← sg_mul, Nat.mul_assoc, ← Nat.pow_add, show (j - min i j).toNat + (min i j + 1074).toNat = (j + 1074).toNat by omega, v2]
  generalize sg s (m * 2 ^ (i - min i j).toNat) = A at *
  generalize sg t (n * 2 ^ (j - min i j).toNat) = B at *
  generalize ((2 ^ (min i j + 1074).toNat : Nat) : Int) = P at *
  generalize ((2 ^ (1074 - p) : Nat) : Int) = K at *
  congr 1
  have lt1 : A < B ↔ k < l := by
    rw [← Int.mul_lt_mul_right hP, e1, e2, Int.mul_lt_mul_right hQ]
  have eq1 : A = B ↔ k = l := by
    constructor
    · intro h
      subst h
      exact Int.eq_of_mul_eq_mul_right (by omega) (e1.symm.trans e2)
    · intro h
      subst h
      exact Int.eq_of_mul_eq_mul_right (by omega) (e1.trans e2.symm)
  show compareOfLessAndEq A B = compareOfLessAndEq k l
  unfold compareOfLessAndEq
  simp only [lt1, eq1]
theorem fgt_val {p : Nat} {x y : Fl} {k l : Int} (h1 : Val p x k) (h2 : Val p y l) : fgt x y = decide (l < k) := by
  unfold fgt
  rw [fcmp_val h1 h2]
  show (some (compareOfLessAndEq k l) == some Ordering.gt) = _
  unfold compareOfLessAndEq
  by_cases h : k < l
  · rw [if_pos h, decide_eq_false (by omega)]; rfl
  · rw [if_neg h]
    by_cases h' : k = l
    · rw [if_pos h', decide_eq_false (by omega)]; rfl
    · rw [if_neg h', decide_eq_true (by omega)]; rfl
theorem feq_ne {p : Nat} {x y : Fl} {k l : Int} (h1 : Val p x k) (h2 : Val p y l) (h : k ≠ l) : feq x y = false := by
  unfold feq
  rw [fcmp_val h1 h2]
  show (some (compareOfLessAndEq k l) == some Ordering.eq) = _
  unfold compareOfLessAndEq
  by_cases h' : k < l
  · rw [if_pos h']; rfl
  · rw [if_neg h', if_neg h]; rfl
theorem val_scale {p d : Nat} {x : Fl} {k : Int} (h : Val p x k) (hd : p + d ≤ 1074) : Val (p + d) x (k * ((2 ^ d : Nat) : Int)) := by
  obtain ⟨b, s, m, e, rfl, r, he, v⟩ := h
  refine ⟨b, s, m, e, rfl, r, he, v.trans ?_⟩
  rw [Int.mul_assoc, ← Int.natCast_mul, ← Nat.pow_add]
  congr 4
  omega
theorem read_lt {b : Nat} {s : Bool} {m : Nat} {e : Int} (h : Ieee.double.read b = .number s m e) : m < 9007199254740992 := by
  rw [read_eq] at h
  split at h
  · cases h; omega
  · split at h
    · cases h; omega
    · split at h <;> cases h
theorem fadd_s {p : Nat} {x y : Fl} {k l : Int} (h1 : Val p x k) (h2 : Val p y l) (hp : p ≤ 800) (hk : (k + l).natAbs < 9007199254740992) : ∃ r, farithS .add x y = some r ∧ Val p r (k + l) := by
  obtain ⟨a, s, m, i, rfl, r1, hi, v1⟩ := h1
  obtain ⟨b, t, n, j, rfl, r2, hj, v2⟩ := h2
  obtain ⟨d, e1, e2⟩ := sum_read (a := a) (b := b) hp hi hj v1 v2 hk
  refine ⟨_, ?_, e2⟩
  have : floatBits .add .f64 a b = some (Ieee.double.write d) := by
    show Ieee.double.add a b = _
    unfold Ieee.Format.add
    rw [r1, r2, e1]; rfl
  simp only [farithS, this]; rfl
theorem quo_s {x : Fl} {k : Int} (h : Val 0 x k) (hk : k.natAbs < 9007199254740992) : ∃ r, farithS .quo x (Fl.bits 4661225614328463360) = some r ∧ Val 12 r k := by
  obtain ⟨a, s, m, i, rfl, r1, hi, v1⟩ := h
  have hm := read_lt r1
  have r2 : Ieee.double.read 4661225614328463360 = .number false 4503599627370496 (-40) := by decide
  have hl : m.log2 ≤ 52 := by
    by_cases h0 : m = 0
    · subst h0; decide
    · have := (Nat.log2_lt h0 (k := 53)).2 (by simpa using hm); omega
  have l52 : (4503599627370496 : Nat).log2 = 52 := by decide
  generalize hmo : 106 - m.log2 = more
  have hq : (m <<< more) / 4503599627370496 = m * 2 ^ (more - 52) := by
    rw [Nat.shiftLeft_eq, show more = (more - 52) + 52 by omega, Nat.pow_add, ← Nat.mul_assoc, show (4503599627370496 : Nat) = 2 ^ 52 by decide, Nat.mul_div_cancel _ (by decide)]
    congr 1
  have hr : (m <<< more) % 4503599627370496 = 0 := by
    rw [Nat.shiftLeft_eq, show more = (more - 52) + 52 by omega, Nat.pow_add, ← Nat.mul_assoc, show (4503599627370496 : Nat) = 2 ^ 52 by decide, Nat.mul_mod_left]
  have hw : floatBits .quo .f64 a 4661225614328463360 = some (Ieee.double.nearest s (2 * (m * 2 ^ (more - 52))) (i + 40 - more - 1)) := by
    show Ieee.double.div a 4661225614328463360 = _
    unfold Ieee.Format.div
    rw [r1, r2]
    unfold Ieee.Datum.quotient
    simp only [l52]
    rw [if_neg (by decide)]
    have e54 : Ieee.double.fractionBits + 2 + 52 - m.log2 = more := by
      show 52 + 2 + 52 - m.log2 = more
      omega
    rw [e54, hq, hr]
    show some (Ieee.double.nearest (s ^^ false) (2 * (m * 2 ^ (more - 52)) + 0) (i - -40 - more - 1)) = _
    rw [Bool.xor_false, Nat.add_zero, Int.sub_neg]
  refine ⟨_, by simp only [farithS, hw]; rfl, ?_⟩
  have hab : (sg s (2 * (m * 2 ^ (more - 52)))).natAbs = 2 * (m * 2 ^ (more - 52)) := by unfold sg; split <;> omega
  rw [← hab]
  refine val_near (z := 1374) (p := 12) (k := k) (total := sg s (2 * (m * 2 ^ (more - 52)))) s (by decide) (by decide) (by omega) hk ?_ (fun h => ?_)
  · rw [← sg_mul]
    have e : 2 * (m * 2 ^ (more - 52)) * 2 ^ (i + 40 - more - 1 + ((1374 : Nat) : Int)).toNat = m * 2 ^ (i + 1074).toNat * 2 ^ (1374 - 12 - 1074) := by
      rw [show 2 * (m * 2 ^ (more - 52)) = m * 2 ^ (more - 51) by rw [show more - 51 = more - 52 + 1 by omega, Nat.pow_succ]; generalize 2 ^ (more - 52) = X; rw [Nat.mul_comm X 2, ← Nat.mul_assoc, ← Nat.mul_assoc, Nat.mul_comm 2 m]]
      rw [Nat.mul_assoc, ← Nat.pow_add, Nat.mul_assoc, ← Nat.pow_add]
      congr 2
      omega
    rw [e, sg_mul, v1, Int.mul_assoc, ← Int.natCast_mul, ← Nat.pow_add]
  · unfold sg at h ⊢
    cases s
    · simp only [Bool.false_eq_true, if_false] at h ⊢
      symm; rw [decide_eq_false_iff_not]; omega
    · simp only [if_true] at h ⊢
      symm; rw [decide_eq_true_eq]; omega
theorem quo64 {x : Fl} {k : Int} (h : Val 0 x k) (hk : k.natAbs < 9007199254740992) : ∃ r, farithS .quo x (Fl.bits 4634204016564240384) = some r ∧ Val 6 r k := by
  obtain ⟨a, s, m, i, rfl, r1, hi, v1⟩ := h
  have hm := read_lt r1
  have r2 : Ieee.double.read 4634204016564240384 = .number false 4503599627370496 (-46) := by decide
  have hl : m.log2 ≤ 52 := by
    by_cases h0 : m = 0
    · subst h0; decide
    · have := (Nat.log2_lt h0 (k := 53)).2 (by simpa using hm); omega
  have l52 : (4503599627370496 : Nat).log2 = 52 := by decide
  generalize hmo : 106 - m.log2 = more
  have hq : (m <<< more) / 4503599627370496 = m * 2 ^ (more - 52) := by
    rw [Nat.shiftLeft_eq, show more = (more - 52) + 52 by omega, Nat.pow_add, ← Nat.mul_assoc, show (4503599627370496 : Nat) = 2 ^ 52 by decide, Nat.mul_div_cancel _ (by decide)]
    congr 1
  have hr : (m <<< more) % 4503599627370496 = 0 := by
    rw [Nat.shiftLeft_eq, show more = (more - 52) + 52 by omega, Nat.pow_add, ← Nat.mul_assoc, show (4503599627370496 : Nat) = 2 ^ 52 by decide, Nat.mul_mod_left]
  have hw : floatBits .quo .f64 a 4634204016564240384 = some (Ieee.double.nearest s (2 * (m * 2 ^ (more - 52))) (i + 46 - more - 1)) := by
    show Ieee.double.div a 4634204016564240384 = _
    unfold Ieee.Format.div
    rw [r1, r2]
    unfold Ieee.Datum.quotient
    simp only [l52]
    rw [if_neg (by decide)]
    have e54 : Ieee.double.fractionBits + 2 + 52 - m.log2 = more := by
      show 52 + 2 + 52 - m.log2 = more
      omega
    rw [e54, hq, hr]
    show some (Ieee.double.nearest (s ^^ false) (2 * (m * 2 ^ (more - 52)) + 0) (i - -46 - more - 1)) = _
    rw [Bool.xor_false, Nat.add_zero, Int.sub_neg]
  refine ⟨_, by simp only [farithS, hw]; rfl, ?_⟩
  have hab : (sg s (2 * (m * 2 ^ (more - 52)))).natAbs = 2 * (m * 2 ^ (more - 52)) := by unfold sg; split <;> omega
  rw [← hab]
  refine val_near (z := 1374) (p := 6) (k := k) (total := sg s (2 * (m * 2 ^ (more - 52)))) s (by decide) (by decide) (by omega) hk ?_ (fun h => ?_)
  · rw [← sg_mul]
    have e : 2 * (m * 2 ^ (more - 52)) * 2 ^ (i + 46 - more - 1 + ((1374 : Nat) : Int)).toNat = m * 2 ^ (i + 1074).toNat * 2 ^ (1374 - 6 - 1074) := by
      rw [show 2 * (m * 2 ^ (more - 52)) = m * 2 ^ (more - 51) by rw [show more - 51 = more - 52 + 1 by omega, Nat.pow_succ]; generalize 2 ^ (more - 52) = X; rw [Nat.mul_comm X 2, ← Nat.mul_assoc, ← Nat.mul_assoc, Nat.mul_comm 2 m]]
      rw [Nat.mul_assoc, ← Nat.pow_add, Nat.mul_assoc, ← Nat.pow_add]
      congr 2
      omega
    rw [e, sg_mul, v1, Int.mul_assoc, ← Int.natCast_mul, ← Nat.pow_add]
  · unfold sg at h ⊢
    cases s
    · simp only [Bool.false_eq_true, if_false] at h ⊢
      symm; rw [decide_eq_false_iff_not]; omega
    · simp only [if_true] at h ⊢
      symm; rw [decide_eq_true_eq]; omega
theorem sq_nn (x : Int) : 0 ≤ x * x := by
  by_cases h0 : 0 ≤ x
  · exact Int.mul_nonneg h0 h0
  · exact Int.mul_nonneg_of_nonpos_of_nonpos (by omega) (by omega)
theorem mul_bd2 {g o C D : Int} (hC : 0 ≤ C) (hD : 0 ≤ D) (h : -C ≤ g ∧ g ≤ C) (k : -D ≤ o ∧ o ≤ D) : g * o ≤ C * D ∧ -(C * D) ≤ g * o := by
  have a1 : 0 ≤ (C - g) * (D + o) := Int.mul_nonneg (by omega) (by omega)
  have a2 : 0 ≤ (C + g) * (D - o) := Int.mul_nonneg (by omega) (by omega)
  have a3 : 0 ≤ (C - g) * (D - o) := Int.mul_nonneg (by omega) (by omega)
  have a4 : 0 ≤ (C + g) * (D + o) := Int.mul_nonneg (by omega) (by omega)
  have e1 : (C - g) * (D + o) = C * D + C * o - g * D - g * o := by grind
  have e2 : (C + g) * (D - o) = C * D - C * o + g * D - g * o := by grind
  have e3 : (C - g) * (D - o) = C * D - C * o - g * D + g * o := by grind
  have e4 : (C + g) * (D + o) = C * D + C * o + g * D + g * o := by grind
  omega
/-! ### Pairs of whole numbers -/
abbrev Z2 := Int × Int
def cm (a b : Z2) : Z2 := (a.1 * b.1 - a.2 * b.2, a.1 * b.2 + a.2 * b.1)
def ca (a b : Z2) : Z2 := (a.1 + b.1, a.2 + b.2)
def zs (f : Nat → Z2) : Nat → Z2
  | 0 => (0, 0)
  | k + 1 => ca (zs f k) (f k)
theorem z_ext {a b : Z2} (h1 : a.1 = b.1) (h2 : a.2 = b.2) : a = b := Prod.ext h1 h2
theorem ca_zero (a : Z2) : ca a (0, 0) = a := z_ext (Int.add_zero _) (Int.add_zero _)
theorem zero_ca (a : Z2) : ca (0, 0) a = a := z_ext (Int.zero_add _) (Int.zero_add _)
theorem ca_four (a b c d : Z2) : ca (ca a b) (ca c d) = ca (ca a c) (ca b d) := z_ext (by simp only [ca]; omega) (by simp only [ca]; omega)
theorem cm_ca (c a b : Z2) : cm c (ca a b) = ca (cm c a) (cm c b) := z_ext (by simp only [ca, cm]; grind) (by simp only [ca, cm]; grind)
theorem cm_zero (c : Z2) : cm c (0, 0) = (0, 0) := z_ext (by simp only [cm]; grind) (by simp only [cm]; grind)
theorem cm_comm (a b : Z2) : cm a b = cm b a := z_ext (by simp only [cm]; grind) (by simp only [cm]; grind)
theorem cm_comm3 (a b c : Z2) : cm a (cm b c) = cm b (cm a c) := z_ext (by simp only [cm]; grind) (by simp only [cm]; grind)
theorem cm_assoc (a b c : Z2) : cm (cm a b) c = cm a (cm b c) := z_ext (by simp only [cm]; grind) (by simp only [cm]; grind)
theorem one_cm (a : Z2) : cm (1, 0) a = a := z_ext (by simp only [cm]; grind) (by simp only [cm]; grind)
theorem zs_congr {f g : Nat → Z2} : ∀ {k}, (∀ i, i < k → f i = g i) → zs f k = zs g k
  | 0, _ => rfl
  | k + 1, h => by simp only [zs]; rw [zs_congr fun i hi => h i (by omega), h k (by omega)]
theorem zs_zero : ∀ k, zs (fun _ => (0, 0)) k = (0, 0)
  | 0 => rfl
  | k + 1 => by simp only [zs]; rw [zs_zero k]; rfl
theorem zs_ca (f g : Nat → Z2) : ∀ k, zs (fun i => ca (f i) (g i)) k = ca (zs f k) (zs g k)
  | 0 => rfl
  | k + 1 => by simp only [zs]; rw [zs_ca f g k, ca_four]
theorem zs_cm (c : Z2) (f : Nat → Z2) : ∀ k, zs (fun i => cm c (f i)) k = cm c (zs f k)
  | 0 => (cm_zero c).symm
  | k + 1 => by simp only [zs]; rw [zs_cm c f k, cm_ca]
theorem zs_swap (f : Nat → Nat → Z2) (L : Nat) : ∀ M, zs (fun j => zs (fun i => f i j) L) M = zs (fun i => zs (fun j => f i j) M) L
  | 0 => (zs_zero L).symm
  | M + 1 => by simp only [zs]; rw [zs_swap f L M, ← zs_ca]
theorem zs_single {M c : Nat} (X : Z2) (hc : c < M) : zs (fun b => if b = c then X else (0, 0)) M = X := by
  have h0 : ∀ k, k ≤ c → zs (fun b => if b = c then X else (0, 0)) k = (0, 0) := by
    intro k
    induction k with
    | zero => intro _; rfl
    | succ k ih => intro hk; simp only [zs]; rw [ih (by omega), if_neg (by omega)]; rfl
  induction M with
  | zero => omega
  | succ M ih =>
    simp only [zs]
    by_cases e : M = c
    · subst e; rw [h0 M (Nat.le_refl _), if_pos rfl, zero_ca]
    · rw [ih (by omega), if_neg e, ca_zero]
theorem zs_four (f : Nat → Z2) : ∀ n, zs f (4 * n) = zs (fun a => zs (fun j => f (4 * a + j)) 4) n
  | 0 => rfl
  | n + 1 => by
    rw [show 4 * (n + 1) = 4 * n + 1 + 1 + 1 + 1 by omega]
    show ca (ca (ca (ca (zs f (4 * n)) (f (4 * n))) (f (4 * n + 1))) (f (4 * n + 1 + 1))) (f (4 * n + 1 + 1 + 1)) = ca (zs (fun a => zs (fun j => f (4 * a + j)) 4) n) (zs (fun j => f (4 * n + j)) 4)
    rw [zs_four f n]
    generalize zs (fun a => zs (fun j => f (4 * a + j)) 4) n = X
    exact z_ext (by simp only [zs, ca, Nat.add_zero, Nat.add_assoc, Nat.reduceAdd]; omega) (by simp only [zs, ca, Nat.add_zero, Nat.add_assoc, Nat.reduceAdd]; omega)
/-! ### Quarters of a circle -/
def ru (u v : Int) : Nat → Int × Int
  | 0 => (u, v)
  | i + 1 => (-(ru u v i).2, (ru u v i).1)
def un (r : Nat) : Z2 := ru 1 0 r
theorem un_succ (r : Nat) : un (r + 1) = cm (0, 1) (un r) := z_ext (by simp only [un, ru, cm]; omega) (by simp only [un, ru, cm]; omega)
theorem un_add (r : Nat) : ∀ t, cm (un r) (un t) = un (r + t)
  | 0 => by rw [cm_comm]; exact one_cm _
  | t + 1 => by rw [un_succ, cm_comm3, un_add r t, ← un_succ]; rfl
theorem ru_un (z : Z2) : ∀ r, ru z.1 z.2 r = cm (un r) z
  | 0 => (one_cm z).symm
  | r + 1 => by
    rw [un_succ, cm_assoc, ← ru_un z r]
    exact z_ext (by simp only [ru, cm]; omega) (by simp only [ru, cm]; omega)
theorem un_four : ∀ k, un (4 * k) = (1, 0)
  | 0 => rfl
  | k + 1 => by rw [show 4 * (k + 1) = 4 * k + 4 by omega, ← un_add, un_four k]; rfl
theorem un_mod (r : Nat) : un (r % 4) = un r := by
  have h : un r = un (4 * (r / 4) + r % 4) := by congr 1; omega
  rw [h, ← un_add, un_four, one_cm]
theorem un_eq {r t : Nat} (h : r % 4 = t % 4) : un r = un t := by rw [← un_mod r, ← un_mod t, h]
theorem sum4 (k : Nat) : zs (fun j => un (j * k)) 4 = if k % 4 = 0 then (4, 0) else (0, 0) := by
  have e : zs (fun j => un (j * k)) 4 = zs (fun j => un (j * (k % 4))) 4 := zs_congr fun j _ => un_eq (by rw [Nat.mul_mod, Nat.mul_mod j (k % 4), Nat.mod_mod])
  rw [e]
  have : k % 4 = 0 ∨ k % 4 = 1 ∨ k % 4 = 2 ∨ k % 4 = 3 := by omega
  rcases this with h | h | h | h <;> rw [h] <;> decide
def cj (z : Z2) : Z2 := (z.1, -z.2)
theorem cj_cm (a b : Z2) : cj (cm a b) = cm (cj a) (cj b) := z_ext (by simp only [cj, cm]; grind) (by simp only [cj, cm]; grind)
theorem cj_zs (f : Nat → Z2) : ∀ k, cj (zs f k) = zs (fun i => cj (f i)) k
  | 0 => rfl
  | k + 1 => by simp only [zs]; rw [← cj_zs f k]; exact z_ext rfl (by simp only [cj, ca]; omega)
theorem cj_un (r : Nat) : cj (un r) = un (3 * r) := by
  rw [← un_mod r, ← un_mod (3 * r)]
  have : r % 4 = 0 ∨ r % 4 = 1 ∨ r % 4 = 2 ∨ r % 4 = 3 := by omega
  rcases this with h | h | h | h
  · rw [h, show 3 * r % 4 = 0 by omega]; decide
  · rw [h, show 3 * r % 4 = 3 by omega]; decide
  · rw [h, show 3 * r % 4 = 2 by omega]; decide
  · rw [h, show 3 * r % 4 = 1 by omega]; decide
/-! ### The matrix -/
theorem orth : ∀ (p b c : Nat), b < 4 ^ p → c < 4 ^ p → zs (fun a => cm (un (ent p a b)) (un (3 * ent p a c))) (4 ^ p) = if b = c then (((4 ^ p : Nat) : Int), 0) else (0, 0)
  | 0, b, c, hb, hc => by
    obtain rfl : b = 0 := by simpa using hb
    obtain rfl : c = 0 := by simpa using hc
    decide
  | p + 1, b, c, hb, hc => by
    rw [Nat.pow_succ] at hb hc
    have ih := orth p (b / 4) (c / 4) (by omega) (by omega)
    rw [Nat.pow_succ, Nat.mul_comm, zs_four]
    have key : ∀ a, zs (fun j => cm (un (ent (p + 1) (4 * a + j) b)) (un (3 * ent (p + 1) (4 * a + j) c))) 4 = cm (zs (fun j => un (j * (b % 4 + 3 * (c % 4)))) 4) (cm (un (ent p a (b / 4))) (un (3 * ent p a (c / 4)))) := by
      intro a
      rw [cm_comm, ← zs_cm]
      apply zs_congr
      intro j hj
      simp only [ent]
      rw [show (4 * a + j) % 4 = j by omega, show (4 * a + j) / 4 = a by omega, un_add, un_add, un_add]
      congr 1
      rw [Nat.mul_add, Nat.mul_add j, Nat.mul_left_comm j 3]
      omega
    rw [zs_congr fun a _ => key a, zs_cm, ih, sum4]
    have hk : (b % 4 + 3 * (c % 4)) % 4 = 0 ↔ b % 4 = c % 4 := by omega
    by_cases h1 : b % 4 = c % 4
    · rw [if_pos (hk.2 h1)]
      by_cases h2 : b / 4 = c / 4
      · rw [if_pos h2, if_pos (by omega)]
        exact z_ext (by simp only [cm]; omega) (by simp only [cm]; omega)
      · rw [if_neg h2, if_neg (by omega), cm_zero]
    · rw [if_neg (fun h => h1 (hk.1 h)), cm_comm, cm_zero, if_neg (fun h => h1 (by rw [h]))]
def ch (s : Bool) (e : Nat) : Z2 := un (if s then e else 3 * e)
theorem ru_rot (s : Bool) (e : Nat) (z : Z2) : ru z.1 z.2 (rot s e) = cm (ch s e) z := by
  rw [ru_un]
  congr 1
  cases s
  · exact un_eq (by simp only [rot, Bool.false_eq_true, if_false]; omega)
  · exact un_eq (by simp only [rot, if_true]; omega)
theorem cj_ch (s : Bool) (e : Nat) : cj (ch s e) = ch (!s) e := by
  unfold ch
  rw [cj_un]
  cases s
  · exact un_eq (by simp only [Bool.not_false, Bool.false_eq_true, if_false, if_true]; omega)
  · rfl
theorem orth2 (s : Bool) {p b c : Nat} (hb : b < 4 ^ p) (hc : c < 4 ^ p) : zs (fun a => cm (ch s (ent p a b)) (ch (!s) (ent p a c))) (4 ^ p) = if b = c then (((4 ^ p : Nat) : Int), 0) else (0, 0) := by
  cases s
  · have := orth p c b hc hb
    rw [zs_congr (g := fun a => cm (un (ent p a c)) (un (3 * ent p a b))) fun a _ => by rw [cm_comm]; rfl, this]
    by_cases h : b = c
    · rw [if_pos h, if_pos h.symm]
    · rw [if_neg h, if_neg (fun e => h e.symm)]
  · exact orth p b c hb hc
/-- tones of a row -/
def DF (s : Bool) (p : Nat) (R : Nat → Z2) (a : Nat) : Z2 := zs (fun b => cm (ch s (ent p a b)) (R b)) (4 ^ p)
theorem DF_congr {s : Bool} {p : Nat} {R S : Nat → Z2} (h : ∀ b, b < 4 ^ p → R b = S b) (a : Nat) : DF s p R a = DF s p S a := zs_congr fun b hb => by rw [h b hb]
theorem DF_ca (s : Bool) (p : Nat) (R S : Nat → Z2) (a : Nat) : DF s p (fun i => ca (R i) (S i)) a = ca (DF s p R a) (DF s p S a) := by
  unfold DF
  rw [← zs_ca]
  exact zs_congr fun b _ => cm_ca _ _ _
theorem DF_cm (s : Bool) (p : Nat) (R : Nat → Z2) (t : Z2) (a : Nat) : DF s p (fun i => cm t (R i)) a = cm t (DF s p R a) := by
  unfold DF
  rw [← zs_cm]
  exact zs_congr fun b _ => cm_comm3 _ _ _
theorem DF_inv (s : Bool) {p c : Nat} (R : Nat → Z2) (hc : c < 4 ^ p) : DF (!s) p (DF s p R) c = cm (((4 ^ p : Nat) : Int), 0) (R c) := by
  have e1 : DF (!s) p (DF s p R) c = zs (fun a => zs (fun b => cm (ch (!s) (ent p c a)) (cm (ch s (ent p a b)) (R b))) (4 ^ p)) (4 ^ p) := zs_congr fun a _ => by
    unfold DF; rw [zs_cm]
  rw [e1, zs_swap]
  have e2 : ∀ b, b < 4 ^ p → zs (fun a => cm (ch (!s) (ent p c a)) (cm (ch s (ent p a b)) (R b))) (4 ^ p) = if b = c then cm (((4 ^ p : Nat) : Int), 0) (R c) else (0, 0) := by
    intro b hb
    have e3 : zs (fun a => cm (ch (!s) (ent p c a)) (cm (ch s (ent p a b)) (R b))) (4 ^ p) = cm (R b) (zs (fun a => cm (ch s (ent p a b)) (ch (!s) (ent p a c))) (4 ^ p)) := by
      rw [← zs_cm]
      exact zs_congr fun a _ => by rw [ent_comm p c a, cm_comm3, cm_comm _ (R b), cm_comm3]
    rw [e3, orth2 s hb hc]
    by_cases h : b = c
    · rw [if_pos h, if_pos h, cm_comm, h]
    · rw [if_neg h, if_neg h, cm_zero]
  rw [zs_congr e2, zs_single _ hc]
theorem DF_energy (s : Bool) (p : Nat) (R : Nat → Z2) : zs (fun a => cm (DF s p R a) (cj (DF s p R a))) (4 ^ p) = cm (((4 ^ p : Nat) : Int), 0) (zs (fun b => cm (R b) (cj (R b))) (4 ^ p)) := by
  have e1 : ∀ a, cm (DF s p R a) (cj (DF s p R a)) = zs (fun c => cm (cj (R c)) (cm (ch (!s) (ent p c a)) (DF s p R a))) (4 ^ p) := by
    intro a
    have : cj (DF s p R a) = zs (fun c => cm (ch (!s) (ent p a c)) (cj (R c))) (4 ^ p) := by
      unfold DF
      rw [cj_zs]
      exact zs_congr fun c _ => by rw [cj_cm, cj_ch]
    rw [this, ← zs_cm]
    exact zs_congr fun c _ => by rw [ent_comm p c a, cm_comm3, cm_comm _ (cj (R c)), cm_comm3]
  rw [zs_congr fun a _ => e1 a, zs_swap, ← zs_cm]
  apply zs_congr
  intro c hc
  have e2 : zs (fun a => cm (cj (R c)) (cm (ch (!s) (ent p c a)) (DF s p R a))) (4 ^ p) = cm (cj (R c)) (DF (!s) p (DF s p R) c) := by
    rw [zs_cm]; rfl
  rw [e2, DF_inv s R hc, cm_comm3, cm_comm (cj (R c))]
/-- the rows of a list, tone by tone -/
def DD (s : Bool) (p : Nat) (R : Nat → Z2) (n : Nat) : Z2 := DF s p (fun b => R (n / 4 ^ p * 4 ^ p + b)) (n % 4 ^ p)
theorem at_row {p n b : Nat} (hb : b < 4 ^ p) : (n / 4 ^ p * 4 ^ p + b) / 4 ^ p = n / 4 ^ p ∧ (n / 4 ^ p * 4 ^ p + b) % 4 ^ p = b := by
  have h0 := Nat.two_pow_pos p
  have hp : 0 < 4 ^ p := by omega
  constructor
  · rw [Nat.mul_comm, Nat.mul_add_div hp, Nat.div_eq_of_lt hb, Nat.add_zero]
  · rw [Nat.mul_comm, Nat.mul_add_mod, Nat.mod_eq_of_lt hb]
theorem DD_row {s : Bool} {p n b : Nat} (R : Nat → Z2) (hb : b < 4 ^ p) : DD s p R (n / 4 ^ p * 4 ^ p + b) = DF s p (fun b => R (n / 4 ^ p * 4 ^ p + b)) b := by
  unfold DD
  rw [(at_row hb).1, (at_row hb).2]
theorem DD_inv (s : Bool) (p : Nat) (R : Nat → Z2) (n : Nat) : DD (!s) p (DD s p R) n = cm (((4 ^ p : Nat) : Int), 0) (R n) := by
  have hp : n % 4 ^ p < 4 ^ p := Nat.mod_lt _ (Nat.pow_pos (by decide))
  have e : DD (!s) p (DD s p R) n = DF (!s) p (DF s p (fun b => R (n / 4 ^ p * 4 ^ p + b))) (n % 4 ^ p) := DF_congr (fun b hb => DD_row R hb) _
  rw [e, DF_inv s _ hp]
  congr 2
  rw [Nat.mul_comm]; exact Nat.div_add_mod n (4 ^ p)
theorem DD_ca (s : Bool) (p : Nat) (R S : Nat → Z2) (n : Nat) : DD s p (fun i => ca (R i) (S i)) n = ca (DD s p R n) (DD s p S n) := DF_ca s p _ _ _
theorem DD_cm (s : Bool) (p : Nat) (R : Nat → Z2) (t : Z2) (n : Nat) : DD s p (fun i => cm t (R i)) n = cm t (DD s p R n) := DF_cm s p _ _ _
/-! ### What the floats stand for -/
def Bn (C u : Int) : Prop := -C ≤ u ∧ u ≤ C
def B2 (C : Int) (R : Z2) : Prop := Bn C R.1 ∧ Bn C R.2
def CV (p : Nat) (z : Fl × Fl) (R : Z2) : Prop := Val p z.1 R.1 ∧ Val p z.2 R.2
theorem B2.mono {C D : Int} {R : Z2} (h : B2 C R) (hCD : C ≤ D) : B2 D R := by
  unfold B2 Bn at *; omega
theorem cv_add {p : Nat} {x y : Fl × Fl} {R S : Z2} (hp : p ≤ 800) (hx : CV p x R) (hy : CV p y S) (h : B2 9007199254740991 (ca R S)) : CV p (cadd x y) (ca R S) := by
  unfold B2 Bn at h
  exact ⟨fadd_val hx.1 hy.1 hp (by simp only [ca] at h; omega), fadd_val hx.2 hy.2 hp (by simp only [ca] at h; omega)⟩
theorem cv_zero (p : Nat) : CV p zc (0, 0) := ⟨zero_val p, zero_val p⟩
theorem cv_eq {p : Nat} {x y : Fl × Fl} {R S : Z2} (hx : CV p x R) (hy : CV p y S) (h : R = S) : ceq x y = true := by
  subst h
  unfold ceq
  rw [feq_val hx.1 hy.1, feq_val hx.2 hy.2]; rfl
theorem cv_tn {p : Nat} {z : Fl × Fl} {R : Z2} (h : CV p z R) : ∀ r, CV p (tn z r) (ru R.1 R.2 r)
  | 0 => h
  | i + 1 => ⟨fneg_val (cv_tn h i).2, (cv_tn h i).1⟩
theorem ru_bn {C : Int} {R : Z2} (h : B2 C R) : ∀ r, B2 C (ru R.1 R.2 r)
  | 0 => h
  | i + 1 => by
    have := ru_bn h i
    unfold B2 Bn at *
    simp only [ru]
    omega
theorem cv_scale {p d : Nat} {z : Fl × Fl} {R : Z2} (h : CV p z R) (hd : p + d ≤ 1074) : CV (p + d) z (cm (((2 ^ d : Nat) : Int), 0) R) := by
  have h1 := val_scale h.1 hd
  have h2 := val_scale h.2 hd
  refine ⟨?_, ?_⟩
  · have e : (cm (((2 ^ d : Nat) : Int), 0) R).1 = R.1 * ((2 ^ d : Nat) : Int) := by simp only [cm, Int.zero_mul, Int.sub_zero]; exact Int.mul_comm ..
    rw [e]; exact h1
  · have e : (cm (((2 ^ d : Nat) : Int), 0) R).2 = R.2 * ((2 ^ d : Nat) : Int) := by simp only [cm, Int.zero_mul, Int.add_zero]; exact Int.mul_comm ..
    rw [e]; exact h2
def LV (q : Nat) (C : Int) (l : List (Fl × Fl)) (R : Nat → Z2) : Prop := ∀ i, i < l.length → CV q (gt l (i : Int)) (R i) ∧ B2 C (R i)
theorem sc_val {p : Nat} (hp : p = 1 ∨ p = 2 ∨ p = 3) : Val p (sc p) 1 := by
  rcases hp with rfl | rfl | rfl
  · exact ⟨4602678819172646912, false, 4503599627370496, -53, by decide +kernel, by decide, by decide, by decide +kernel⟩
  · exact ⟨4598175219545276416, false, 4503599627370496, -54, by decide +kernel, by decide, by decide, by decide +kernel⟩
  · exact ⟨4593671619917905920, false, 4503599627370496, -55, by decide +kernel, by decide, by decide, by decide +kernel⟩
theorem accT_val {s : Bool} {p q : Nat} {C : Int} {l : List (Fl × Fl)} {base a : Nat} {R : Nat → Z2} (hq : q ≤ 700) (hC : 0 ≤ C) (hb : 64 * C ≤ 9007199254740991) (hm : 4 ^ p ≤ 64)
    (h : ∀ b, b < 4 ^ p → CV q (gt l ((base + b : Nat) : Int)) (R b) ∧ B2 C (R b)) :
    ∀ k, k ≤ 4 ^ p → CV q (accT s p l base a k) (zs (fun b => cm (ch s (ent p a b)) (R b)) k) ∧ B2 ((k : Int) * C) (zs (fun b => cm (ch s (ent p a b)) (R b)) k)
  | 0, _ => ⟨cv_zero q, by simp only [zs]; unfold B2 Bn; simp⟩
  | k + 1, hk => by
    obtain ⟨i1, i2⟩ := accT_val (s := s) (a := a) hq hC hb hm h k (by omega)
    obtain ⟨h1, h2⟩ := h k (by omega)
    have t1 := cv_tn h1 (rot s (ent p a k))
    have t2 := ru_bn h2 (rot s (ent p a k))
    rw [ru_rot] at t1 t2
    have e1 : ((k + 1 : Nat) : Int) * C = (k : Int) * C + C := by rw [Int.natCast_add, Int.add_mul]; omega
    have hkC : (k : Int) * C ≤ 63 * C := Int.mul_le_mul_of_nonneg_right (by omega) hC
    have hB : B2 (((k + 1 : Nat) : Int) * C) (ca (zs (fun b => cm (ch s (ent p a b)) (R b)) k) (cm (ch s (ent p a k)) (R k))) := by
      rw [e1]
      unfold B2 Bn at *
      simp only [ca]
      omega
    exact ⟨cv_add (by omega) i1 t1 (hB.mono (by omega)), hB⟩
theorem row_in {L n m b : Nat} (hm : 0 < m) (hL : L % m = 0) (hn : n < L) (hb : b < m) : n / m * m + b < L := by
  have h1 := Nat.div_add_mod L m
  have h2 := Nat.div_add_mod n m
  rw [hL, Nat.add_zero] at h1
  have h3 : n / m < L / m := by
    apply Nat.lt_of_mul_lt_mul_left (a := m)
    omega
  have h4 : m * (n / m + 1) ≤ m * (L / m) := Nat.mul_le_mul_left _ h3
  rw [Nat.mul_add, Nat.mul_one, h1] at h4
  rw [Nat.mul_comm]
  omega
theorem p4 {p : Nat} (hp : p = 1 ∨ p = 2 ∨ p = 3) : 4 ≤ 4 ^ p ∧ 4 ^ p ≤ 64 := by rcases hp with rfl | rfl | rfl <;> decide
theorem rows_LV {s : Bool} {p q : Nat} (hp : p = 1 ∨ p = 2 ∨ p = 3) {C : Int} {l : List (Fl × Fl)} {R : Nat → Z2} (hq : q ≤ 700) (hC : 0 ≤ C) (hb : 64 * C ≤ 9007199254740991) (hl : l.length % 4 ^ p = 0) (h : LV q C l R) :
    LV (q + p) (64 * C) (rowsV s p l) (DD s p R) := by
  intro n hn
  have hm := p4 hp
  rw [gt_nat hn, rowsV_get]
  rw [rowsV_len] at hn
  obtain ⟨h1, h2⟩ := accT_val (s := s) (p := p) (q := q) (C := C) (l := l) (base := n / 4 ^ p * 4 ^ p) (a := n % 4 ^ p) (R := fun b => R (n / 4 ^ p * 4 ^ p + b)) hq hC hb hm.2 (fun b hb => h _ (row_in (by omega) hl hn hb)) (4 ^ p) (Nat.le_refl _)
  have h3 : B2 (64 * C) (DD s p R n) := h2.mono (Int.mul_le_mul_of_nonneg_right (by omega) hC)
  refine ⟨?_, h3⟩
  have hv := sc_val hp
  unfold rowV
  have h3' := h3
  unfold B2 Bn at h3'
  have e1 := fmul_val h1.1 hv (by omega) (by show ((DD s p R n).1 * 1).natAbs < _; omega)
  have e2 := fmul_val h1.2 hv (by omega) (by show ((DD s p R n).2 * 1).natAbs < _; omega)
  rw [Int.mul_one] at e1 e2
  exact ⟨e1, e2⟩
/-! ### Two lists -/
theorem same_ok {a b : List (Fl × Fl)} (hl : b.length = a.length) (ha : a.length ≤ 65536) (h : ∀ i, i < a.length → ceq (gt a (i : Int)) (gt b (i : Int)) = true) : f_foghornlaw09_same a b = some true := by
  unfold f_foghornlaw09_same
  rw [if_neg (by rw [hl]; simp)]
  have : loop (f_foghornlaw09_same.s1 a b) 0 = some (.inl ()) := by
    refine loop_for1 a.length (Sum.inl ()) (fun i hi => ?_) ?_
    · simp only [f_foghornlaw09_same.s1, f_foghornlaw09_same.s1c]
      rw [if_pos (by rw [decide_eq_true_eq]; omega), if_pos (by omega), if_pos (by omega), h i hi, if_neg (by decide), w64 (by omega) (by omega)]; rfl
    · simp only [f_foghornlaw09_same.s1, f_foghornlaw09_same.s1c]
      rw [if_neg (by simp)]
  rw [this]; rfl
theorem range_gt {α : Type} [Inhabited α] (f : Nat → α) {L i : Nat} (h : i < L) : gt ((List.range L).map f) (i : Int) = f i := by
  rw [gt_nat (by simpa using h)]; simp
/-! ### Lists of sixty-fourths -/
theorem t4097 (x : Int) : -4096 ≤ x.tmod 4097 ∧ x.tmod 4097 ≤ 4096 := by
  have m1 : x.tmod 4097 < 4097 := Int.tmod_lt_of_pos x (by decide)
  by_cases h0 : 0 ≤ x
  · have := Int.tmod_nonneg 4097 h0; omega
  · have h3 := Int.neg_tmod (a := -x) (b := 4097)
    have h4 := Int.tmod_lt_of_pos (-x) (show (0 : Int) < 4097 by decide)
    rw [Int.neg_neg] at h3
    omega
theorem q_ok (x : Int) : ∃ r, farithS .quo (fofi (x.tmod 4097)) (Fl.bits 4634204016564240384) = some r ∧ Val 6 r (x.tmod 4097) := by
  have := t4097 x
  exact quo64 (fofi_val (by omega)) (by omega)
def qel (l : List (Int × Int)) (j : Nat) : Fl × Fl := ((farithS .quo (fofi ((gt l (j : Int)).1.tmod 4097)) (Fl.bits 4634204016564240384)).getD .nan, (farithS .quo (fofi ((gt l (j : Int)).2.tmod 4097)) (Fl.bits 4634204016564240384)).getD .nan)
def nv (l : List (Int × Int)) (k i : Nat) : Z2 := if i < k then ((gt l (i : Int)).1.tmod 4097, (gt l (i : Int)).2.tmod 4097) else (0, 0)
theorem nv_bn (l : List (Int × Int)) (k i : Nat) : B2 4096 (nv l k i) := by
  unfold nv B2 Bn
  have h1 := t4097 (gt l (i : Int)).1
  have h2 := t4097 (gt l (i : Int)).2
  split
  · simp only; omega
  · simp
theorem shl_p {p : Nat} (hp : p = 1 ∨ p = 2 ∨ p = 3) : ishl .i64 1 (IntKind.i64.wrap (2 * (p : Int))) = ((4 ^ p : Nat) : Int) := by
  rcases hp with rfl | rfl | rfl <;> decide +kernel
/-! ### A tone alone -/
theorem fq_ok (x : Int) : Val 6 (fquo (fofi (x.tmod 4097)) (Fl.bits 4634204016564240384)) (x.tmod 4097) := by
  obtain ⟨r, h1, h2⟩ := q_ok x
  have : fquo (fofi (x.tmod 4097)) (Fl.bits 4634204016564240384) = r := farithS_eq h1
  rw [this]; exact h2
def one1 (t : Nat) (Z : Z2) (i : Nat) : Z2 := if i = t then Z else (0, 0)
theorem one_gt {m t i : Nat} (z : Fl × Fl) (hi : i < m) : gt ((List.replicate m zc).set t z) (i : Int) = if i = t then z else zc := by
  rw [gt_nat (by simpa using hi), List.getElem_set]
  by_cases h : i = t
  · rw [if_pos h, if_pos h.symm]
  · rw [if_neg h, if_neg (fun e => h e.symm)]; simp
theorem one_LV {q m t : Nat} {C : Int} (hC : 0 ≤ C) {z : Fl × Fl} {Z : Z2} (h : CV q z Z) (hb : B2 C Z) : LV q C ((List.replicate m zc).set t z) (one1 t Z) := by
  intro i hi
  rw [one_gt _ (by simpa using hi)]
  unfold one1
  by_cases h' : i = t
  · rw [if_pos h', if_pos h']; exact ⟨h, hb⟩
  · rw [if_neg h', if_neg h']; exact ⟨cv_zero q, by unfold B2 Bn; simp; exact hC⟩
theorem one_DD {p i t : Nat} (s : Bool) (Z : Z2) (hi : i < 4 ^ p) (ht : t < 4 ^ p) : DD s p (one1 t Z) i = cm (ch s (ent p i t)) Z := by
  have e : DD s p (one1 t Z) i = zs (fun b => if b = t then cm (ch s (ent p i t)) Z else (0, 0)) (4 ^ p) := by
    unfold DD DF
    rw [Nat.div_eq_of_lt hi, Nat.mod_eq_of_lt hi]
    apply zs_congr
    intro b _
    simp only [Nat.zero_mul, Nat.zero_add, one1]
    by_cases h : b = t
    · rw [if_pos h, if_pos h, h]
    · rw [if_neg h, if_neg h, cm_zero]
  rw [e, zs_single _ ht]
theorem ch_bn (s : Bool) (e : Nat) : B2 1 (ch s e) := by
  unfold ch
  rw [← un_mod]
  generalize (if s = true then e else 3 * e) = k
  have : k % 4 = 0 ∨ k % 4 = 1 ∨ k % 4 = 2 ∨ k % 4 = 3 := by omega
  rcases this with h | h | h | h <;> rw [h] <;> unfold B2 Bn <;> decide
theorem cv_mul {p q : Nat} {x y : Fl × Fl} {R S : Z2} {C D : Int} (hp : p + q ≤ 800) (hx : CV p x R) (hy : CV q y S) (hC : 0 ≤ C) (hD : 0 ≤ D) (bx : B2 C R) (by' : B2 D S) (hCD : C * D ≤ 2251799813685248) :
    CV (p + q) (fsub (fmul x.1 y.1) (fmul x.2 y.2), fadd (fmul x.1 y.2) (fmul x.2 y.1)) (cm R S) := by
  have m1 := mul_bd2 hC hD bx.1 by'.1
  have m2 := mul_bd2 hC hD bx.2 by'.2
  have m3 := mul_bd2 hC hD bx.1 by'.2
  have m4 := mul_bd2 hC hD bx.2 by'.1
  exact ⟨fsub_val (fmul_val hx.1 hy.1 hp (by omega)) (fmul_val hx.2 hy.2 hp (by omega)) hp (by omega), fadd_val (fmul_val hx.1 hy.2 hp (by omega)) (fmul_val hx.2 hy.1 hp (by omega)) hp (by omega)⟩
theorem entryE {p a b : Nat} (hp : p = 1 ∨ p = 2 ∨ p = 3) (ha : a < 4 ^ p) (hb : b < 4 ^ p) : f_tones_Entry (p : Int) (a : Int) (b : Int) = some (((ent p a b % 4 : Nat) : Int), 0) := by
  unfold f_tones_Entry
  rw [tones_ok hp]
  simp only [Option.bind_some]
  rw [if_neg (by simp only [Bool.or_eq_true, decide_eq_true_eq]; omega), entry_ok ha hb (by omega)]; rfl
theorem four_two (p : Nat) : (4 : Nat) ^ p = 2 ^ (p + p) := by rw [Nat.pow_add, ← Nat.mul_pow]
/-! ### Two tones together -/
def bs (t o : Nat) : Nat → Nat
  | 0 => 0
  | j + 1 => bs t o j + 4 ^ j * ((t / 4 ^ j % 4 + o / 4 ^ j % 4) % 4)
theorem bs_front (t o : Nat) : ∀ j, bs t o (j + 1) = (t % 4 + o % 4) % 4 + 4 * bs (t / 4) (o / 4) j
  | 0 => by simp [bs]
  | j + 1 => by
    have ih := bs_front t o j
    show bs t o (j + 1) + 4 ^ (j + 1) * ((t / 4 ^ (j + 1) % 4 + o / 4 ^ (j + 1) % 4) % 4) = _
    rw [ih]
    simp only [bs]
    rw [Nat.pow_succ, Nat.mul_comm (4 ^ j) 4, ← Nat.div_div_eq_div_mul, ← Nat.div_div_eq_div_mul, Nat.mul_add, Nat.mul_assoc, Nat.add_assoc]
theorem bs_lt (t o : Nat) : ∀ j, bs t o j < 4 ^ j
  | 0 => by simp [bs]
  | j + 1 => by
    have := bs_lt t o j
    simp only [bs]
    rw [Nat.pow_succ]
    have h3 : 4 ^ j * ((t / 4 ^ j % 4 + o / 4 ^ j % 4) % 4) ≤ 4 ^ j * 3 := Nat.mul_le_mul_left _ (by omega)
    omega
theorem ent_bs : ∀ p i t o, ent p i (bs t o p) % 4 = (ent p i t + ent p i o) % 4
  | 0, _, _, _ => rfl
  | p + 1, i, t, o => by
    have ih := ent_bs p (i / 4) (t / 4) (o / 4)
    rw [bs_front]
    simp only [ent]
    rw [show ((t % 4 + o % 4) % 4 + 4 * bs (t / 4) (o / 4) p) % 4 = (t % 4 + o % 4) % 4 by omega, show ((t % 4 + o % 4) % 4 + 4 * bs (t / 4) (o / 4) p) / 4 = bs (t / 4) (o / 4) p by omega]
    have e : ((i % 4) * ((t % 4 + o % 4) % 4)) % 4 = ((i % 4) * (t % 4) + (i % 4) * (o % 4)) % 4 := by
      rw [Nat.mul_mod_mod, Nat.mul_add]
    generalize (i % 4) * ((t % 4 + o % 4) % 4) = A at *
    generalize (i % 4) * (t % 4) = B at *
    generalize (i % 4) * (o % 4) = C at *
    omega
/-! ### Four tones, shifted round -/
theorem wrap4 (x : Int) : (IntKind.i64.wrap x) % 4 = x % 4 := by
  simp [IntKind.wrap, IntKind.bits, IntKind.signed, IntKind.min, IntKind.max]
  omega
theorem round4 (s0 s1 s2 s3 : Fl × Fl) (n : Int) {k : Nat} (hk : k < 4) (hn : n % 4 = (k : Int)) :
    f_tones_Round 1 [s0, s1, s2, s3] n = some ([([s0, s1, s2, s3].getD ((0 + (4 - k)) % 4) zc), ([s0, s1, s2, s3].getD ((1 + (4 - k)) % 4) zc), ([s0, s1, s2, s3].getD ((2 + (4 - k)) % 4) zc), ([s0, s1, s2, s3].getD ((3 + (4 - k)) % 4) zc)], 0) := by
  have t1 : f_tones_tones 1 = some 4 := by decide +kernel
  unfold f_tones_Round
  rw [t1]
  simp only [Option.bind_some]
  have hl : ([s0, s1, s2, s3].length : Int) = 4 := rfl
  rw [hl, if_neg (by decide), if_pos (by decide)]
  simp only [Option.bind_some]
  rw [if_neg (by decide), if_pos (by decide), show (List.replicate ((4 : Int)).toNat (Fl.bits 0, Fl.bits 0)) = [zc, zc, zc, zc] from rfl]
  have st : ∀ (i : Nat) (T : List (Fl × Fl)), i < 4 → T.length = 4 → f_tones_Round.s1 [s0, s1, s2, s3] n 4 (T, (i : Int)) = some (.inl (T.set ((i + k) % 4) (gt [s0, s1, s2, s3] (i : Int)), ((i + 1 : Nat) : Int))) := by
    intro i T hi hT
    simp only [f_tones_Round.s1, f_tones_Round.s1c]
    have e1 : IntKind.i64.wrap ((4 : Int) - 1) = 3 := by decide +kernel
    have e2 : iandn .i64 (i : Int) 3 = 0 := by
      have : i = 0 ∨ i = 1 ∨ i = 2 ∨ i = 3 := by omega
      rcases this with rfl | rfl | rfl | rfl <;> decide +kernel
    have e3 : iand .i64 (IntKind.i64.wrap ((i : Int) + n)) 3 = (((i + k) % 4 : Nat) : Int) := by rw [iand3, wrap4]; omega
    have e4 : ior .i64 0 (((i + k) % 4 : Nat) : Int) = (((i + k) % 4 : Nat) : Int) := by
      have : (i + k) % 4 = 0 ∨ (i + k) % 4 = 1 ∨ (i + k) % 4 = 2 ∨ (i + k) % 4 = 3 := by omega
      rcases this with h | h | h | h <;> rw [h] <;> decide +kernel
    rw [e1, e2, e3, e4, if_pos (by rw [decide_eq_true_eq]; simp only [List.length_cons, List.length_nil]; omega), if_pos (by simp only [List.length_cons, List.length_nil]; omega), if_pos (by omega), Int.toNat_natCast, w64 (by omega) (by omega)]; rfl
  have hk' : k = 0 ∨ k = 1 ∨ k = 2 ∨ k = 3 := by omega
  have fin : ∀ T : List (Fl × Fl), f_tones_Round.s1 [s0, s1, s2, s3] n 4 (T, ((4 : Nat) : Int)) = some (.inr T) := by
    intro T
    simp only [f_tones_Round.s1, f_tones_Round.s1c]
    rw [if_neg (by simp)]
  have a0 := st 0 [zc, zc, zc, zc] (by decide) rfl
  rw [show ((0 : Nat) : Int) = 0 from rfl] at a0
  rw [loop_step a0, loop_step (st 1 _ (by decide) (by simp)), loop_step (st 2 _ (by decide) (by simp)), loop_step (st 3 _ (by decide) (by simp)), loop_done (fin _)]
  rcases hk' with rfl | rfl | rfl | rfl <;> rfl
theorem turn4 (R : Nat → Z2) {t k : Nat} (ht : t < 4) (hk : k < 4) : DF false 1 (fun i => DF true 1 R ((i + (4 - k)) % 4)) t = cm (4, 0) (cm (un (3 * t * k)) (R t)) := by
  have ht' : t = 0 ∨ t = 1 ∨ t = 2 ∨ t = 3 := by omega
  have hk' : k = 0 ∨ k = 1 ∨ k = 2 ∨ k = 3 := by omega
  rcases ht' with rfl | rfl | rfl | rfl <;> rcases hk' with rfl | rfl | rfl | rfl <;>
    exact z_ext (by simp [DF, zs, ch, un, ru, ent, cm, ca]; omega) (by simp [DF, zs, ch, un, ru, ent, cm, ca]; omega)

theorem apart_shift (re im n : Int) : f_foghornlaw09_shifted re im n = some true := by
  obtain ⟨k, hk, hn⟩ : ∃ k : Nat, k < 4 ∧ n % 4 = (k : Int) := ⟨(n % 4).toNat, by omega, by omega⟩
  have b4 : ∀ (x : Int) (d : Nat), 0 < d → d ≤ 64 → -64 < x.tmod (d : Int) ∧ x.tmod (d : Int) < 64 := by
    intro x d h0 h1
    have m1 : x.tmod (d : Int) < (d : Int) := Int.tmod_lt_of_pos x (by omega)
    by_cases hx : 0 ≤ x
    · have := Int.tmod_nonneg (d : Int) hx; omega
    · have h3 := Int.neg_tmod (a := -x) (b := (d : Int))
      have h4 := Int.tmod_lt_of_pos (-x) (show (0 : Int) < (d : Int) by omega)
      rw [Int.neg_neg] at h3
      omega
  have r1 := b4 re 64 (by decide) (by decide)
  have r2 := b4 im 64 (by decide) (by decide)
  have r3 := b4 im 9 (by decide) (by decide)
  have r4 := b4 re 7 (by decide) (by decide)
  rw [show ((64 : Nat) : Int) = 64 from rfl] at r1 r2
  rw [show ((9 : Nat) : Int) = 9 from rfl] at r3
  rw [show ((7 : Nat) : Int) = 7 from rfl] at r4
  have c1 : Fl.bits 4607182418800017408 = fofi 1 := by decide +kernel
  have c2 : Fl.bits 4611686018427387904 = fofi 2 := by decide +kernel
  have c3 : Fl.bits 13837309855095848960 = fofi (-3) := by decide +kernel
  have c4 : Fl.bits 4617315517961601024 = fofi 5 := by decide +kernel
  unfold f_foghornlaw09_shifted
  have hs1 : ∀ (q : List (Fl × Fl) × Int) (t : Int), f_foghornlaw09_shifted.s1 re im n q t = (if (decide (t < (4 : Int))) = true then (if 0 ≤ t ∧ t < (q.1.length : Int) then (if 0 ≤ t ∧ t < (([((fofi ((re).tmod (64 : Int))), fofi 1), (fofi 2, (fofi ((im).tmod (64 : Int)))), ((fofi ((im).tmod (9 : Int))), fofi (-3)), (fofi 5, (fofi ((re).tmod (7 : Int))))]).length : Int) then ((f_plane_Turn (gt ([((fofi ((re).tmod (64 : Int))), fofi 1), (fofi 2, (fofi ((im).tmod (64 : Int)))), ((fofi ((im).tmod (9 : Int))), fofi (-3)), (fofi 5, (fofi ((re).tmod (7 : Int))))]) t) (IntKind.i64.wrap ((IntKind.i64.wrap (0 - t)) * ((n).tmod (4 : Int))))).bind fun q60 => (if (!ceq (gt q.1 t) q60) = true then (some (Sum.inr (Sum.inr false))) else (some (Sum.inl (IntKind.i64.wrap (t + (1 : Int))))))) else none) else none) else (some (Sum.inr (Sum.inl ())))) := by
    intro q t
    rw [← c1, ← c2, ← c3, ← c4]; rfl
  rw [c1, c2, c3, c4]
  let R : Nat → Z2 := fun i => if i = 0 then (re.tmod 64, 1) else if i = 1 then (2, im.tmod 64) else if i = 2 then (im.tmod 9, -3) else (5, re.tmod 7)
  have hR : ∀ i, i < 4 → B2 64 (R i) := by
    intro i hi
    have : i = 0 ∨ i = 1 ∨ i = 2 ∨ i = 3 := by omega
    unfold B2 Bn
    rcases this with rfl | rfl | rfl | rfl
    · show (-64 ≤ re.tmod 64 ∧ re.tmod 64 ≤ 64) ∧ (-64 ≤ (1 : Int) ∧ (1 : Int) ≤ 64); omega
    · show (-64 ≤ (2 : Int) ∧ (2 : Int) ≤ 64) ∧ (-64 ≤ im.tmod 64 ∧ im.tmod 64 ≤ 64); omega
    · show (-64 ≤ im.tmod 9 ∧ im.tmod 9 ≤ 64) ∧ (-64 ≤ (-3 : Int) ∧ (-3 : Int) ≤ 64); omega
    · show (-64 ≤ (5 : Int) ∧ (5 : Int) ≤ 64) ∧ (-64 ≤ re.tmod 7 ∧ re.tmod 7 ≤ 64); omega
  have vl : LV 0 64 [((fofi ((re).tmod (64 : Int))), fofi 1), (fofi 2, (fofi ((im).tmod (64 : Int)))), ((fofi ((im).tmod (9 : Int))), fofi (-3)), (fofi 5, (fofi ((re).tmod (7 : Int))))] R := by
    intro i hi
    have hi4 : i < 4 := hi
    refine ⟨?_, hR i hi4⟩
    have : i = 0 ∨ i = 1 ∨ i = 2 ∨ i = 3 := by omega
    rcases this with rfl | rfl | rfl | rfl
    · exact ⟨fofi_val (by omega), fofi_val (by decide)⟩
    · exact ⟨fofi_val (by decide), fofi_val (by omega)⟩
    · exact ⟨fofi_val (by omega), fofi_val (by decide)⟩
    · exact ⟨fofi_val (by decide), fofi_val (by omega)⟩
  generalize hl : [((fofi ((re).tmod (64 : Int))), fofi 1), (fofi 2, (fofi ((im).tmod (64 : Int)))), ((fofi ((im).tmod (9 : Int))), fofi (-3)), (fofi 5, (fofi ((re).tmod (7 : Int))))] = l at *
  have ll : l.length = 4 := by rw [← hl]; rfl
  have h1 : (1 = 1 ∨ 1 = 2 ∨ 1 = 3) := .inl rfl
  have e1 := send_ok (p := 1) h1 l (by omega) (by rw [ll])
  rw [show ((1 : Nat) : Int) = 1 from rfl] at e1
  rw [e1]
  simp only [Option.bind_some]
  have v1 := rows_LV (s := true) (p := 1) h1 (by decide) (by decide) (by decide) (by rw [ll]) vl
  have ls := rowsV_len true 1 l
  generalize rowsV true 1 l = s at *
  rw [ll] at ls
  obtain ⟨s0, s1, s2, s3, rfl⟩ : ∃ s0 s1 s2 s3, s = [s0, s1, s2, s3] := by
    match s, ls with
    | [a, b, c, d], _ => exact ⟨a, b, c, d, rfl⟩
  rw [round4 s0 s1 s2 s3 n hk hn]
  simp only [Option.bind_some]
  have vr : LV 1 (64 * 64) [([s0, s1, s2, s3].getD ((0 + (4 - k)) % 4) zc), ([s0, s1, s2, s3].getD ((1 + (4 - k)) % 4) zc), ([s0, s1, s2, s3].getD ((2 + (4 - k)) % 4) zc), ([s0, s1, s2, s3].getD ((3 + (4 - k)) % 4) zc)] (fun i => DF true 1 R ((i + (4 - k)) % 4)) := by
    have hg : ∀ j : Nat, j < 4 → CV 1 ([s0, s1, s2, s3].getD j zc) (DF true 1 R j) ∧ B2 (64 * 64) (DF true 1 R j) := by
      intro j hj
      have := v1 j (by simpa using hj)
      have e : DD true 1 R j = DF true 1 R j := by
        unfold DD
        rw [Nat.div_eq_of_lt (by simpa using hj), Nat.mod_eq_of_lt (by simpa using hj)]
        simp only [Nat.zero_mul, Nat.zero_add]
      rw [e] at this
      have hj' : j = 0 ∨ j = 1 ∨ j = 2 ∨ j = 3 := by omega
      rcases hj' with rfl | rfl | rfl | rfl <;> exact this
    intro i hi
    have hi4 : i < 4 := hi
    have hi' : i = 0 ∨ i = 1 ∨ i = 2 ∨ i = 3 := by omega
    rcases hi' with rfl | rfl | rfl | rfl <;> exact hg _ (Nat.mod_lt _ (by decide))
  generalize hr : [([s0, s1, s2, s3].getD ((0 + (4 - k)) % 4) zc), ([s0, s1, s2, s3].getD ((1 + (4 - k)) % 4) zc), ([s0, s1, s2, s3].getD ((2 + (4 - k)) % 4) zc), ([s0, s1, s2, s3].getD ((3 + (4 - k)) % 4) zc)] = r at *
  have lr : r.length = 4 := by rw [← hr]; rfl
  have e2 := back_ok (p := 1) h1 r (by omega) (by rw [lr])
  rw [show ((1 : Nat) : Int) = 1 from rfl] at e2
  rw [e2]
  simp only [Option.bind_some]
  have v2 := rows_LV (s := false) (p := 1) h1 (by decide) (by decide) (by decide) (by rw [lr]) vr
  have lb := rowsV_len false 1 r
  generalize rowsV false 1 r = b at *
  rw [lr] at lb
  rw [if_neg (by rw [lb]; simp)]
  have e3 : loop (f_foghornlaw09_shifted.s1 re im n (b, 0)) 0 = some (.inl ()) := by
    refine loop_for1 4 (Sum.inl ()) (fun i hi => ?_) ?_
    · rw [hs1]
      simp only
      rw [if_pos (by rw [decide_eq_true_eq]; omega), if_pos (by omega), if_pos (by omega)]
      have m4 : n.tmod 4 = (k : Int) ∨ n.tmod 4 = (k : Int) - 4 := by
        by_cases h0 : 0 ≤ n
        · rw [Int.tmod_eq_emod_of_nonneg h0]; omega
        · have h3 := Int.neg_tmod (a := -n) (b := 4)
          rw [Int.neg_neg, Int.tmod_eq_emod_of_nonneg (a := -n) (by omega)] at h3
          omega
      have hi' : i = 0 ∨ i = 1 ∨ i = 2 ∨ i = 3 := by omega
      have et : f_plane_Turn (gt l (i : Int)) (IntKind.i64.wrap (IntKind.i64.wrap (0 - (i : Int)) * n.tmod 4)) = some (tn (gt l (i : Int)) (3 * i * k % 4)) := by
        rw [turn_ok, wrap4, w64 (x := 0 - (i : Int)) (by omega) (by omega)]
        congr 2
        have hk' : k = 0 ∨ k = 1 ∨ k = 2 ∨ k = 3 := by omega
        rcases m4 with h | h <;> rw [h] <;> rcases hi' with rfl | rfl | rfl | rfl <;> rcases hk' with rfl | rfl | rfl | rfl <;> rfl
      rw [et]
      simp only [Option.bind_some]
      have w1 := (v2 i (by omega)).1
      have eD : DD false 1 (fun i => DF true 1 R ((i + (4 - k)) % 4)) i = DF false 1 (fun i => DF true 1 R ((i + (4 - k)) % 4)) i := by
        unfold DD
        rw [Nat.div_eq_of_lt (by simpa using hi), Nat.mod_eq_of_lt (by simpa using hi)]
        simp only [Nat.zero_mul, Nat.zero_add]
      rw [eD, turn4 R hi hk] at w1
      have w2 := cv_scale (d := 2) (cv_tn (vl i (by omega)).1 (3 * i * k % 4)) (by decide)
      rw [ru_un, un_mod] at w2
      have := cv_eq w1 w2 rfl
      rw [this, if_neg (by decide), w64 (by omega) (by omega)]; rfl
    · rw [hs1]; rfl
  rw [e3]; rfl
set_option maxHeartbeats 2000000 in
theorem apart_true (P : Int) (u0 : (Lit.int .i64 P).wf = true) (place : Int) (u1 : (Lit.int .i64 place).wf = true) (tone : Int) (u2 : (Lit.int .i64 tone).wf = true) (n : Int) (u3 : (Lit.int .i64 n).wf = true)
    (re : Int) (u4 : (Lit.int .i16 re).wf = true) (im : Int) (u5 : (Lit.int .i16 im).wf = true) : f_foghornlaw09_TonesApart P place tone n re im = some true := by
  have hpw : ∃ p : Nat, (p = 1 ∨ p = 2 ∨ p = 3) ∧ f_foghornlaw09_power P = some (p : Int) := by
    have m1 : P.tmod 3 < 3 := Int.tmod_lt_of_pos P (by decide)
    have m2 : -3 < P.tmod 3 := by
      by_cases h0 : 0 ≤ P
      · have := Int.tmod_nonneg 3 h0; omega
      · have h3 := Int.neg_tmod (a := -P) (b := 3)
        have h4 := Int.tmod_lt_of_pos (-P) (show (0 : Int) < 3 by decide)
        rw [Int.neg_neg] at h3
        omega
    unfold f_foghornlaw09_power
    rw [w64 (x := P.tmod 3 + 3) (by omega) (by omega), Int.tmod_eq_emod_of_nonneg (by omega), w64 (by omega) (by omega)]
    exact ⟨((P.tmod 3 + 3) % 3 + 1).toNat, by omega, by congr 1; omega⟩
  obtain ⟨p, hp, e0⟩ := hpw
  have hm := p4 hp
  have hs := shl_p hp
  have four := four_two p
  have hmod : ∀ x : Int, ∃ t : Nat, t < 4 ^ p ∧ (IntKind.i64.wrap (x.tmod ((4 ^ p : Nat) : Int) + ((4 ^ p : Nat) : Int))).tmod ((4 ^ p : Nat) : Int) = (t : Int) := by
    intro x
    generalize 4 ^ p = m at *
    have m1 : x.tmod (m : Int) < (m : Int) := Int.tmod_lt_of_pos x (by omega)
    have m2 : -(m : Int) < x.tmod (m : Int) := by
      by_cases h0 : 0 ≤ x
      · have := Int.tmod_nonneg (m : Int) h0; omega
      · have h3 := Int.neg_tmod (a := -x) (b := (m : Int))
        have h4 := Int.tmod_lt_of_pos (-x) (show (0 : Int) < (m : Int) by omega)
        rw [Int.neg_neg] at h3
        omega
    rw [w64 (by omega) (by omega)]
    have h5 : 0 ≤ (x.tmod (m : Int) + (m : Int)).tmod (m : Int) := Int.tmod_nonneg _ (by omega)
    have h6 : (x.tmod (m : Int) + (m : Int)).tmod (m : Int) < (m : Int) := Int.tmod_lt_of_pos _ (by omega)
    exact ⟨((x.tmod (m : Int) + (m : Int)).tmod (m : Int)).toNat, by omega, by omega⟩
  obtain ⟨t, ht, et⟩ := hmod tone
  obtain ⟨o, ho, eo⟩ := hmod place
  unfold f_foghornlaw09_TonesApart
  rw [e0]
  simp only [Option.bind_some]
  have h2p : 0 ≤ IntKind.i64.wrap (2 * (p : Int)) := by rw [w64 (by omega) (by omega)]; omega
  have hne : ((4 ^ p : Nat) : Int) ≠ 0 := by omega
  have hs1 : f_foghornlaw09_TonesApart.s1 place tone (p : Int) = fun s : Int × Int => (if (decide (s.2 < ((4 ^ p : Nat) : Int))) = true then (if s.2 ≠ 0 then (if s.2 ≠ 0 then (some (Sum.inl ((IntKind.i64.wrap (s.1 + (IntKind.i64.wrap (s.2 * (((IntKind.i64.wrap (((IntKind.i64.wrap (((t : Int)).tdiv s.2))).tmod (4 : Int) + ((IntKind.i64.wrap (((o : Int)).tdiv s.2))).tmod (4 : Int)))).tmod (4 : Int)))))), (IntKind.i64.wrap ((4 : Int) * s.2))))) else none) else none) else (some (Sum.inr s.1))) := by
    funext s
    simp only [f_foghornlaw09_TonesApart.s1, f_foghornlaw09_TonesApart.s1c, hs, et, eo]
  have hs2 : ∀ (q18 q27 : List (Fl × Fl) × Int) (q65 i : Int), f_foghornlaw09_TonesApart.s2 place tone re im (p : Int) q18 q27 q65 i = (if (decide (i < ((4 ^ p : Nat) : Int))) = true then ((f_tones_Entry (p : Int) i (t : Int)).bind fun q66 => ((f_tones_Entry (p : Int) (t : Int) i).bind fun q68 => ((f_tones_Entry (p : Int) i (o : Int)).bind fun q70 => ((f_tones_Entry (p : Int) i q65).bind fun q72 => ((if ((((((q66.2 != (0 : Int)) || (q68.2 != (0 : Int))) || (q70.2 != (0 : Int))) || (q72.2 != (0 : Int))) || (q66.1 != q68.1)) || ((((IntKind.i64.wrap (q66.1 + q70.1))).tmod (4 : Int)) != q72.1)) = true then (some true) else (if 0 ≤ i ∧ i < (q18.1.length : Int) then (if 0 ≤ i ∧ i < (q27.1.length : Int) then ((f_plane_Mul (gt q27.1 i) ((fquo (fofi ((re).tmod (4097 : Int))) (Fl.bits 4634204016564240384)), (fquo (fofi ((im).tmod (4097 : Int))) (Fl.bits 4634204016564240384)))).bind fun q110 => (some (!ceq (gt q18.1 i) q110))) else none) else none)).bind fun z116 => ((if z116 = true then (some true) else (if 0 ≤ i ∧ i < (q27.1.length : Int) then (if 0 ≤ (0 : Int) ∧ (0 : Int) < (q27.1.length : Int) then ((f_plane_Turn (gt q27.1 (0 : Int)) q66.1).bind fun q131 => (some (!ceq (gt q27.1 i) q131))) else none) else none)).bind fun z137 => (if z137 = true then (some (Sum.inr (Sum.inr false))) else (some (Sum.inl (IntKind.i64.wrap (i + (1 : Int)))))))))))) else (some (Sum.inr (Sum.inl ())))) := by
    intro q18 q27 q65 i
    simp only [f_foghornlaw09_TonesApart.s2, f_foghornlaw09_TonesApart.s2c, hs, et, eo]
  rw [if_pos h2p, hs, if_pos hne, if_pos hne, if_pos hne, if_pos hne, if_pos (by omega), et, Int.toNat_natCast, Int.toNat_natCast, if_pos (by rw [List.length_replicate]; omega)]
  have vz : CV 6 (fquo (fofi ((re).tmod (4097 : Int))) (Fl.bits 4634204016564240384), fquo (fofi ((im).tmod (4097 : Int))) (Fl.bits 4634204016564240384)) (re.tmod 4097, im.tmod 4097) := ⟨fq_ok re, fq_ok im⟩
  have bz : B2 4096 (re.tmod 4097, im.tmod 4097) := by
    have h1 := t4097 re
    have h2 := t4097 im
    unfold B2 Bn; simp only; omega
  generalize hz : (fquo (fofi ((re).tmod (4097 : Int))) (Fl.bits 4634204016564240384), fquo (fofi ((im).tmod (4097 : Int))) (Fl.bits 4634204016564240384)) = z at *
  generalize hZ : ((re.tmod 4097, im.tmod 4097) : Z2) = Z at *
  rw [show ((Fl.bits 0, Fl.bits 0) : Fl × Fl) = zc from rfl]
  have vA : LV 6 4096 ((List.replicate (4 ^ p) zc).set t z) (one1 t Z) := one_LV (by decide) vz bz
  have lA : ((List.replicate (4 ^ p) zc).set t z).length = 4 ^ p := by simp
  have v1z : CV 0 (Fl.bits 4607182418800017408, Fl.bits 0) (1, 0) := ⟨⟨_, false, 4503599627370496, -52, rfl, by decide, by decide, by decide +kernel⟩, zero_val 0⟩
  have vB : LV 0 1 ((List.replicate (4 ^ p) zc).set t (Fl.bits 4607182418800017408, Fl.bits 0)) (one1 t (1, 0)) := one_LV (by decide) v1z (by unfold B2 Bn; decide)
  have lB : ((List.replicate (4 ^ p) zc).set t (Fl.bits 4607182418800017408, Fl.bits 0)).length = 4 ^ p := by simp
  have ePure : f_tones_Pure (p : Int) (t : Int) = some (rowsV true p ((List.replicate (4 ^ p) zc).set t (Fl.bits 4607182418800017408, Fl.bits 0)), 0) := by
    unfold f_tones_Pure
    rw [tones_ok hp]
    simp only [Option.bind_some]
    rw [if_neg (by simp only [Bool.or_eq_true, decide_eq_true_eq]; omega), if_pos (by omega), Int.toNat_natCast, Int.toNat_natCast, if_pos (by rw [List.length_replicate]; omega), show ((Fl.bits 0, Fl.bits 0) : Fl × Fl) = zc from rfl, send_ok hp _ (by rw [lB]; omega) (by rw [lB]; exact Nat.mod_self _)]; rfl
  rw [send_ok hp _ (by rw [lA]; omega) (by rw [lA]; exact Nat.mod_self _)]
  simp only [Option.bind_some]
  rw [ePure]
  simp only [Option.bind_some]
  have v1 := rows_LV (s := true) hp (by decide) (by decide) (by decide) (by rw [lA]; exact Nat.mod_self _) vA
  have v2 := rows_LV (s := true) hp (by decide) (by decide) (by decide) (by rw [lB]; exact Nat.mod_self _) vB
  have l1 := rowsV_len true p ((List.replicate (4 ^ p) zc).set t z)
  have l2 := rowsV_len true p ((List.replicate (4 ^ p) zc).set t (Fl.bits 4607182418800017408, Fl.bits 0))
  rw [lA] at l1
  rw [lB] at l2
  generalize hA : (List.replicate (4 ^ p) zc).set t z = A at *
  generalize rowsV true p A = s1 at *
  generalize rowsV true p ((List.replicate (4 ^ p) zc).set t (Fl.bits 4607182418800017408, Fl.bits 0)) = pu at *
  rw [back_ok hp s1 (by omega) (by rw [l1]; exact Nat.mod_self _)]
  simp only [Option.bind_some]
  have v3 := rows_LV (s := false) hp (by omega) (by decide) (by decide) (by rw [l1]; exact Nat.mod_self _) v1
  have l3 := rowsV_len false p s1
  generalize rowsV false p s1 = k3 at *
  rw [if_neg (by rw [l1, l2]; simp)]
  have hsame : f_foghornlaw09_same k3 A = some true := same_ok (by omega) (by omega) fun i hi => by
    have h1 := (v3 i hi).1
    have h2 := DD_inv true p (one1 t Z) i
    rw [Bool.not_true] at h2
    rw [h2, Nat.add_assoc] at h1
    have h3 := cv_scale (d := p + p) (vA i (by omega)).1 (by omega)
    rw [← four] at h3
    exact cv_eq h1 h3 rfl
  rw [hsame]
  simp only [Option.bind_some, Bool.not_true, Bool.false_eq_true, if_false]
  have eb : loop (f_foghornlaw09_TonesApart.s1 place tone (p : Int)) (0, 1) = some ((bs t o p : Nat) : Int) := by
    rw [hs1]
    have := lst (f := fun s : Int × Int => (if (decide (s.2 < ((4 ^ p : Nat) : Int))) = true then (if s.2 ≠ 0 then (if s.2 ≠ 0 then (some (Sum.inl ((IntKind.i64.wrap (s.1 + (IntKind.i64.wrap (s.2 * (((IntKind.i64.wrap (((IntKind.i64.wrap (((t : Int)).tdiv s.2))).tmod (4 : Int) + ((IntKind.i64.wrap (((o : Int)).tdiv s.2))).tmod (4 : Int)))).tmod (4 : Int)))))), (IntKind.i64.wrap ((4 : Int) * s.2))))) else none) else none) else (some (Sum.inr s.1)))) p (fun j => (((bs t o j : Nat) : Int), ((4 ^ j : Nat) : Int))) ((bs t o p : Nat) : Int) (fun j hj => by
      have hlt : 4 ^ j < 4 ^ p := Nat.pow_lt_pow_right (by decide) hj
      have hpos : 0 < 4 ^ j := Nat.pow_pos (by decide)
      have hb := bs_lt t o j
      have d1 : t / 4 ^ j ≤ t := Nat.div_le_self _ _
      have d2 : o / 4 ^ j ≤ o := Nat.div_le_self _ _
      have hx : 4 ^ j * ((t / 4 ^ j % 4 + o / 4 ^ j % 4) % 4) ≤ 4 ^ j * 3 := Nat.mul_le_mul_left _ (by omega)
      have ex : IntKind.i64.wrap (((4 ^ j : Nat) : Int) * (IntKind.i64.wrap ((IntKind.i64.wrap (((t : Int)).tdiv ((4 ^ j : Nat) : Int))).tmod 4 + (IntKind.i64.wrap (((o : Int)).tdiv ((4 ^ j : Nat) : Int))).tmod 4)).tmod 4) = ((4 ^ j * ((t / 4 ^ j % 4 + o / 4 ^ j % 4) % 4) : Nat) : Int) := by
        rw [tdiv_nat, tdiv_nat]
        generalize t / 4 ^ j = X at *
        generalize o / 4 ^ j = Y at *
        rw [w64 (x := (X : Int)) (by omega) (by omega), w64 (x := (Y : Int)) (by omega) (by omega), show (4 : Int) = ((4 : Nat) : Int) from rfl, tmod_nat, tmod_nat, ← Int.natCast_add, w64 (x := ((X % 4 + Y % 4 : Nat) : Int)) (by omega) (by omega), tmod_nat, ← Int.natCast_mul, w64 (by omega) (by omega)]
      simp only
      rw [if_pos (by rw [decide_eq_true_eq]; omega), if_pos (by omega), if_pos (by omega), ex, ← Int.natCast_add, w64 (x := ((bs t o j + 4 ^ j * ((t / 4 ^ j % 4 + o / 4 ^ j % 4) % 4) : Nat) : Int)) (by omega) (by omega), w64 (x := 4 * ((4 ^ j : Nat) : Int)) (by omega) (by omega)]
      have e4 : 4 * ((4 ^ j : Nat) : Int) = ((4 ^ (j + 1) : Nat) : Int) := by rw [Nat.pow_succ]; omega
      rw [e4]; rfl) (by
      simp only
      rw [if_neg (by simp)])
    exact this
  rw [eb]
  simp only [Option.bind_some]
  have hbs := bs_lt t o p
  have e2 : loop (f_foghornlaw09_TonesApart.s2 place tone re im (p : Int) (s1, 0) (pu, 0) ((bs t o p : Nat) : Int)) 0 = some (.inl ()) := by
    refine loop_for1 (4 ^ p) (Sum.inl ()) (fun i hi => ?_) ?_
    · rw [hs2, if_pos (by rw [decide_eq_true_eq]; omega), entryE hp hi ht, entryE hp ht hi, entryE hp hi ho, entryE hp hi hbs]
      simp only [Option.bind_some]
      have hE : (IntKind.i64.wrap (((ent p i t % 4 : Nat) : Int) + ((ent p i o % 4 : Nat) : Int))).tmod 4 = ((ent p i (bs t o p) % 4 : Nat) : Int) := by
        rw [w64 (by omega) (by omega), ← Int.natCast_add, show (4 : Int) = ((4 : Nat) : Int) from rfl, tmod_nat, ent_bs]
        congr 1
        omega
      rw [hE, ent_comm p t i, if_neg (by simp), if_pos (by omega), if_pos (by omega)]
      unfold f_plane_Mul
      simp only [Option.bind_some]
      have a1 := (v1 i (by omega)).1
      have a2 := (v2 i (by omega)).1
      have a0 := (v2 0 (by omega)).1
      rw [one_DD true Z hi ht] at a1
      rw [one_DD true (1, 0) hi ht, cm_comm, one_cm, Nat.zero_add] at a2
      rw [one_DD true (1, 0) (by omega) ht, cm_comm, one_cm, Nat.zero_add] at a0
      have hmul := cv_mul (p := p) (q := 6) (by omega) a2 vz (by decide) (by decide) (ch_bn true _) bz (by decide)
      rw [Nat.add_comm] at hmul
      rw [cv_eq a1 hmul rfl]
      simp only [Bool.not_true, Option.bind_some, Bool.false_eq_true, if_false]
      rw [if_pos (by omega), if_pos (by omega), turn_ok]
      simp only [Option.bind_some]
      have hch : ch true (ent p i t) = ru (ch true (ent p 0 t)).1 (ch true (ent p 0 t)).2 ((((ent p i t % 4 : Nat) : Int)) % 4).toNat := by
        rw [ru_un, ent_zero]
        show un (ent p i t) = cm _ (un 0)
        rw [un_add]
        exact un_eq (by omega)
      have := cv_tn a0 ((((ent p i t % 4 : Nat) : Int)) % 4).toNat
      rw [← hch] at this
      rw [show ((0 : Nat) : Int) = 0 from rfl] at this
      rw [cv_eq a2 this rfl]
      simp only [Bool.not_true, Option.bind_some, Bool.false_eq_true, if_false]
      rw [w64 (by omega) (by omega)]; rfl
    · rw [hs2, if_neg (by simp)]
  rw [e2]
  simp only [Option.bind_some, sm]
  rw [apart_shift]
  simp only [Option.bind_some, if_true]
  rw [awake_true]; rfl

end Go.Proofs.Ythmobhgjojgipaa
