/- WeaveSpread: the plain law. -/
import Derived.Test.YthoigfonjpmibaaG7
import Derived.Test.YthoigfonjpmibaaGlK
set_option linter.unusedVariables false
set_option maxRecDepth 4000
namespace Go.Proofs.Ythoigfonjpmibaa
open GL

theorem seq_self (s : ByteArray) : seq s s = true := by simp [seq]
theorem sbytes_get (s : ByteArray) (i : Nat) (h : i < s.size) : (sbytes s)[i]'(by rw [sbytes_len]; exact h) = bt s i := by
  simp [sbytes, bt, h]
/-- row at of the woven bytes -/
def rowT (words : List ByteArray) (at' : Nat) (i : Nat) : List Int := (List.range i).map fun (w : Nat) => bt (gt words (w : Int)) at'
def wov (words : List ByteArray) (m : Nat) : List Int := (List.range m).flatMap fun (a : Nat) => rowT words a words.length
theorem wov_len (words : List ByteArray) (m : Nat) : (wov words m).length = m * words.length := by
  induction m with
  | zero => simp [wov]
  | succ m ih =>
    have : wov words (m + 1) = wov words m ++ rowT words m words.length := by simp [wov, List.range_succ]
    rw [this, List.length_append, ih]; simp [rowT, Nat.succ_mul]
def rows (words : List ByteArray) (i : Nat) : List Int := (List.range i).flatMap fun (w : Nat) => sbytes (gt words (w : Int))
theorem rows_len (words : List ByteArray) (m : Nat) (i : Nat) (hm : ∀ j : Nat, j < i → (gt words (j : Int)).size = m) : (rows words i).length = i * m := by
  induction i with
  | zero => simp [rows]
  | succ i ih =>
    have : rows words (i + 1) = rows words i ++ sbytes (gt words (i : Int)) := by simp [rows, List.range_succ]
    rw [this, List.length_append, ih fun j hj => hm j (by omega), sbytes_len, hm i (by omega), Nat.succ_mul]
theorem rows_get (words : List ByteArray) (m : Nat) (a : Nat) (ha : a < m) : ∀ (n : Nat) (hm : ∀ j : Nat, j < n → (gt words (j : Int)).size = m) (i : Nat) (hi : i < n), gt (rows words n) ((i * m + a : Nat) : Int) = bt (gt words (i : Int)) a := by
  intro n
  induction n with
  | zero => intro _ i hi; omega
  | succ n ih =>
    intro hm i hi
    have e : rows words (n + 1) = rows words n ++ sbytes (gt words (n : Int)) := by simp [rows, List.range_succ]
    have hl := rows_len words m n fun j hj => hm j (by omega)
    have hl2 := rows_len words m (n + 1) hm
    have hlt : i * m + a < (n + 1) * m := by
      have := Nat.mul_le_mul_right m (show i + 1 ≤ n + 1 by omega)
      rw [Nat.succ_mul] at this; omega
    by_cases hin : i < n
    · have := ih (fun j hj => hm j (by omega)) i hin
      rw [← this]
      have hlt2 : i * m + a < n * m := by
        have := Nat.mul_le_mul_right m (show i + 1 ≤ n by omega)
        rw [Nat.succ_mul] at this; omega
      rw [gt_nat (by rw [hl2]; exact hlt), gt_nat (by rw [hl]; exact hlt2)]
      simp only [e]
      rw [List.getElem_append_left (by rw [hl]; exact hlt2)]
    · obtain rfl : i = n := by omega
      rw [gt_nat (by rw [hl2]; exact hlt)]
      simp only [e]
      rw [List.getElem_append_right (by omega)]
      simp only [hl, Nat.add_sub_cancel_left]
      exact sbytes_get _ _ (by rw [hm i (by omega)]; exact ha)
theorem own_s1 (words : List ByteArray) (m : Nat) (h0 : 0 < words.length) (hl : words.length ≤ 255) (hm255 : m ≤ 255) (h00 : (gt words (0 : Int)).size = m) :
    ∃ r, loop (f_weave_In.s1 words) (List.replicate (m * words.length) (0 : Int), (0 : Int)) = some r ∧ match r with
      | .inl q => q = rows words words.length ∧ ∀ i : Nat, i < words.length → (gt words (i : Int)).size = m
      | .inr q => q = (ByteArray.mk #[], 1) ∧ ∃ i : Nat, i < words.length ∧ (gt words (i : Int)).size ≠ m := by
  refine loop_inv (f := f_weave_In.s1 words) (fun s : List Int × Int => ∃ j : Nat, s.2 = (j : Int) ∧ j ≤ words.length ∧ (∀ i : Nat, i < j → (gt words (i : Int)).size = m) ∧ s.1 = rows words j ++ List.replicate ((words.length - j) * m) 0)
    (fun s => words.length - s.2.toNat)
    (fun r : List Int ⊕ (ByteArray × Int) => match r with
      | .inl q => q = rows words words.length ∧ ∀ i : Nat, i < words.length → (gt words (i : Int)).size = m
      | .inr q => q = (ByteArray.mk #[], 1) ∧ ∃ i : Nat, i < words.length ∧ (gt words (i : Int)).size ≠ m) ?_ _ ⟨0, rfl, by omega, fun i hi => by omega, by simp [rows, Nat.mul_comm]⟩
  rintro ⟨row, t⟩ ⟨j, hj, h1, h2, h3⟩
  simp only at hj h3
  subst hj
  have hrl := rows_len words m j h2
  simp only [f_weave_In.s1, f_weave_In.s1c, h00]
  by_cases ht : j < words.length
  · rw [if_pos (by simpa using ht), if_pos (by omega)]
    have hjm : j * m ≤ 65025 := Nat.mul_le_mul (show j ≤ 255 by omega) hm255
    have hsplit : (words.length - j) * m = m + (words.length - (j + 1)) * m := by
      rw [show words.length - j = (words.length - (j + 1)) + 1 by omega, Nat.succ_mul]; omega
    have hrow : row.length = j * m + (m + (words.length - (j + 1)) * m) := by rw [h3, List.length_append, hrl, List.length_replicate, hsplit]
    by_cases hs : (gt words (j : Int)).size = m
    · rw [if_neg (by simp [hs])]
      have hc : IntKind.i64.wrap ((j : Int) * (m : Int)) = ((j * m : Nat) : Int) := by rw [← Int.natCast_mul]; exact w64 (by omega) (by omega)
      rw [hc, if_pos (by omega), Int.toNat_natCast, hs, if_pos (by omega), w64 (x := (j : Int) + 1) (by omega) (by omega)]
      refine .inl ⟨_, rfl, ⟨j + 1, by simp, by omega, fun i hi => ?_, ?_⟩, by simp; omega⟩
      · by_cases hij : i = j
        · rw [hij, hs]
        · exact h2 i (by omega)
      · have e : rows words (j + 1) = rows words j ++ sbytes (gt words (j : Int)) := by simp [rows, List.range_succ]
        simp only
        rw [h3, e, List.take_append_of_le_length (by omega), List.take_of_length_le (by omega), List.drop_append, hrl]
        simp only [hsplit]
        rw [List.drop_eq_nil_of_le (by omega), List.nil_append, List.drop_replicate]
        congr 2; omega
    · rw [if_pos (by simp; omega)]
      exact .inr ⟨_, rfl, rfl, j, ht, hs⟩
  · obtain rfl : j = words.length := by omega
    rw [if_neg (by simp)]
    exact .inr ⟨_, rfl, by simpa using h3, h2⟩
theorem own_s3 (words : List ByteArray) (a m : Nat) (b : List Int) (hl : words.length ≤ 255) (hm255 : m ≤ 255) (h0 : 0 < words.length) (hm : ∀ i : Nat, i < words.length → (gt words (i : Int)).size = m) (ha : a < m) (hb : b.length ≤ 65025) :
    loop (f_weave_In.s3 words (rows words words.length) (a : Int)) (b, (0 : Int)) = some (b ++ rowT words a words.length) := by
  have h00 : (gt words (0 : Int)).size = m := hm 0 h0
  have := loop_for (f := f_weave_In.s3 words (rows words words.length) (a : Int)) words.length (fun i => b ++ rowT words a i) (b ++ rowT words a words.length) (fun i hi => ?_) ?_
  · simpa [rowT] using this
  · simp only [f_weave_In.s3, f_weave_In.s3c, h00]
    have hjm : i * m ≤ 65025 := Nat.mul_le_mul (show i ≤ 255 by omega) hm255
    have hc : IntKind.i64.wrap ((i : Int) * (m : Int)) = ((i * m : Nat) : Int) := by rw [← Int.natCast_mul]; exact w64 (by omega) (by omega)
    have hc2 : IntKind.i64.wrap (((i * m : Nat) : Int) + (a : Int)) = ((i * m + a : Nat) : Int) := by rw [← Int.natCast_add]; exact w64 (by omega) (by omega)
    have hlt : i * m + a < words.length * m := by
      have := Nat.mul_le_mul_right m (show i + 1 ≤ words.length by omega)
      rw [Nat.succ_mul] at this; omega
    rw [if_pos (by simpa using hi), hc, hc2, rows_get words m a ha words.length hm i hi, if_pos (by rw [rows_len words m words.length hm]; omega), if_pos (by simp [rowT]; omega), w64 (by omega) (by omega)]
    simp [rowT, List.range_succ]
  · simp only [f_weave_In.s3, f_weave_In.s3c]
    rw [if_neg (by simp)]
theorem own_s2 (words : List ByteArray) (m : Nat) (h0 : 0 < words.length) (hl : words.length ≤ 255) (hm255 : m ≤ 255) (hm : ∀ i : Nat, i < words.length → (gt words (i : Int)).size = m) :
    loop (f_weave_In.s2 words (rows words words.length)) ([], (0 : Int)) = some (wov words m) := by
  have h00 : (gt words (0 : Int)).size = m := hm 0 h0
  have := loop_for (f := f_weave_In.s2 words (rows words words.length)) m (fun i => wov words i) (wov words m) (fun i hi => ?_) ?_
  · simpa [wov] using this
  · simp only [f_weave_In.s2, f_weave_In.s2c]
    have hle : i * words.length ≤ 65025 := Nat.mul_le_mul (show i ≤ 255 by omega) hl
    rw [h00, if_pos (by simpa using hi), own_s3 words i m _ hl hm255 h0 hm hi (by rw [wov_len]; exact hle)]
    simp only [Option.bind_some]
    rw [w64 (by omega) (by omega)]
    simp [wov, List.range_succ]
  · simp only [f_weave_In.s2, f_weave_In.s2c]
    rw [h00, if_neg (by simp)]
/-- how many numbers below p leave k: up to a constant -/
def cd (c p k : Int) : Int := (p + c - 1 - k) / c
theorem cd_eq {c d m k : Int} (hm : 0 ≤ m) (hc : m < c) (hk : 0 ≤ k) (hkc : k < c) : cd c (c * d + m) k = if k < m then d + 1 else d := by
  unfold cd
  have hc0 : 0 < c := by omega
  rw [show c * d + m + c - 1 - k = (m + c - 1 - k) + c * d by omega, Int.add_mul_ediv_left _ _ (by omega)]
  split
  · rw [show m + c - 1 - k = (m - 1 - k) + c * 1 by omega, Int.add_mul_ediv_left _ _ (by omega), Int.ediv_eq_zero_of_lt (by omega) (by omega)]; omega
  · rw [Int.ediv_eq_zero_of_lt (by omega) (by omega)]; omega
theorem cd_step {c p k : Int} (hp : 0 ≤ p) (hk : 0 ≤ k) (hkc : k < c) : cd c (p + 1) k = cd c p k + (if k = p % c then 1 else 0) := by
  have hc0 : 0 < c := by omega
  have h1 := Int.emod_nonneg p (show c ≠ 0 by omega)
  have h2 := Int.emod_lt_of_pos p hc0
  have h3 := Int.mul_ediv_add_emod p c
  generalize p % c = m at *
  generalize p / c = d at *
  subst h3
  rw [cd_eq h1 h2 hk hkc]
  by_cases hm : m + 1 < c
  · rw [show c * d + m + 1 = c * d + (m + 1) by omega, cd_eq (by omega) hm hk hkc]
    split <;> split <;> split <;> omega
  · have : c * d + m + 1 = c * (d + 1) + 0 := by rw [Int.mul_add]; omega
    rw [this, cd_eq (by omega) hc0 hk hkc]
    split <;> split <;> split <;> omega
theorem cd_bd {c p k : Int} (hp : 0 ≤ p) (hk : 0 ≤ k) (hkc : k < c) : 0 ≤ cd c p k ∧ cd c p k ≤ p := by
  have hc0 : 0 < c := by omega
  unfold cd
  refine ⟨Int.ediv_nonneg (by omega) (by omega), ?_⟩
  apply Int.le_of_lt_add_one
  apply Int.ediv_lt_of_lt_mul hc0
  have : c * (p + 1) = c * p + c := by rw [Int.mul_add]; omega
  have h2 : p ≤ c * p := by
    have := Int.mul_le_mul_of_nonneg_right (show (1 : Int) ≤ c by omega) hp
    omega
  rw [Int.mul_comm]; omega
def burst (c from' p : Int) : List Int := (List.range c.toNat).map fun (k : Nat) => cd c p (k : Int) - cd c from' (k : Int)
theorem burst_len (c f p : Int) : (burst c f p).length = c.toNat := by simp [burst]
theorem burst_gt {c f p : Int} {k : Nat} (hk : k < c.toNat) : gt (burst c f p) (k : Int) = cd c p k - cd c f k := by
  rw [gt_nat (by rw [burst_len]; exact hk)]; simp [burst]
theorem hit_one {p k c : Int} (hk : 0 ≤ k) (hkc : k < c) (hc : c ≤ 255) (hp : 0 ≤ p) (hp2 : p ≤ 65025) : f_weave_Hit_1 p k c = some (cd c p k) := by
  unfold f_weave_Hit_1
  rw [if_pos (by omega)]
  rw [w64 (x := p + c) (by omega) (by omega), w64 (x := p + c - 1) (by omega) (by omega), w64 (x := p + c - 1 - k) (by omega) (by omega),
    Int.tdiv_eq_ediv_of_nonneg (by omega)]
  have := cd_bd (c := c) (p := p) (k := k) hp hk hkc
  have e : (p + c - 1 - k) / c = cd c p k := rfl
  rw [e, w64 (by omega) (by omega)]
theorem hit_own {from' to c : Int} (hc : 1 ≤ c) (hc2 : c ≤ 255) (hf : 0 ≤ from') (ht : from' ≤ to) (ht2 : to ≤ 65025) :
    loop (f_weave_Hit.s1 from' to c) (List.replicate c.toNat (0 : Int), 0) = some (burst c from' to) := by
  have := loop_for (f := f_weave_Hit.s1 from' to c) c.toNat (fun i => (burst c from' to).take i ++ List.replicate (c.toNat - i) 0) (burst c from' to) (fun i hi => ?_) ?_
  · simpa using this
  · simp only [f_weave_Hit.s1, f_weave_Hit.s1c, List.length_replicate]
    have hl : ((burst c from' to).take i ++ List.replicate (c.toNat - i) (0 : Int)).length = c.toNat := by simp [burst_len]; omega
    rw [if_pos (by rw [decide_eq_true_eq]; omega), hit_one (by omega) (by omega) (by omega) (by omega) (by omega), hit_one (by omega) (by omega) (by omega) (by omega) (by omega)]
    simp only [Option.bind_some]
    have h1 := cd_bd (c := c) (p := to) (k := i) (by omega) (by omega) (by omega)
    have h2 := cd_bd (c := c) (p := from') (k := i) (by omega) (by omega) (by omega)
    rw [if_pos (by rw [hl]; omega), w64 (x := (i : Int) + 1) (by omega) (by omega), w64 (x := cd c to i - cd c from' i) (by omega) (by omega)]
    congr 3
    apply List.ext_getElem
    · simp [burst_len]; omega
    · intro j h1 h2
      simp only [List.length_set, hl] at h1
      rw [List.getElem_set]
      simp only [Int.toNat_natCast, List.getElem_append, List.length_take, burst_len, List.getElem_take, List.getElem_replicate]
      split
      · rename_i h; subst h
        rw [dif_pos (by omega)]; simp [burst]
      · split
        · rw [dif_pos (by omega)]
        · rw [dif_neg (by omega)]
  · simp only [f_weave_Hit.s1, f_weave_Hit.s1c, List.length_replicate]
    rw [if_neg (by simp)]
    simp [burst_len, List.take_of_length_le]
/-! ### Rings and looms -/
abbrev Rg := List Int × Int
def qu (r : Rg) : List Int := r.1.drop r.2.toNat ++ r.1.take r.2.toNat
def okR (r : Rg) : Prop := 0 ≤ r.2 ∧ (r.1 = [] ∨ r.2 < (r.1.length : Int))
theorem gt_set_self {α : Type} [Inhabited α] {xs : List α} {i : Int} {y : α} (h0 : 0 ≤ i) (h1 : i < xs.length) : gt (xs.set i.toNat y) i = y := by
  rw [gt_get h0 (by simpa using h1)]; simp
theorem gt_set_ne {α : Type} [Inhabited α] {xs : List α} {i j : Int} {y : α} (h0 : 0 ≤ i) (h1 : 0 ≤ j) (h : i ≠ j) : gt (xs.set i.toNat y) j = gt xs j := by
  unfold gt
  rw [List.getD_eq_getElem?_getD, List.getD_eq_getElem?_getD, List.getElem?_set_ne (by omega)]
theorem set_gt {α : Type} [Inhabited α] {xs : List α} {i : Int} (h0 : 0 ≤ i) (h1 : i < xs.length) : xs.set i.toNat (gt xs i) = xs := by
  apply List.ext_getElem?
  intro j
  by_cases hj : i.toNat = j
  · subst hj; rw [List.getElem?_set_self (by omega), gt_of h0 h1]
  · rw [List.getElem?_set_ne hj]
theorem qu_len (r : Rg) : (qu r).length = r.1.length := by simp [qu]; omega

theorem ring_push {s : LoomS} {i x : Int} (hs : s.1.length = 64) (h0 : 0 ≤ i) (h1 : i < 64) (ok : okR (gt s.1 i)) (hl : (gt s.1 i).1.length ≤ 65536) :
    ∃ r' : Rg, f_weave_ring_push s i x = some (gt (qu (gt s.1 i) ++ [x]) 0, (s.1.set i.toNat r', s.2)) ∧ okR r' ∧ qu r' = (qu (gt s.1 i) ++ [x]).drop 1 ∧ r'.1.length = (gt s.1 i).1.length := by
  have hil : i < (s.1.length : Int) := by omega
  unfold f_weave_ring_push
  by_cases he : (gt s.1 i).1.length = 0
  · have hnil : (gt s.1 i).1 = [] := List.eq_nil_of_length_eq_zero he
    rw [if_pos (by simp [he])]
    have hq : qu (gt s.1 i) = [] := List.eq_nil_of_length_eq_zero (by rw [qu_len]; exact he)
    refine ⟨gt s.1 i, ?_, ok, by rw [hq]; rfl, rfl⟩
    rw [hq, set_gt h0 hil]; rfl
  · have hp := ok.2.resolve_left (fun h => he (by rw [h]; rfl))
    have hp0 := ok.1
    rw [if_neg (fun h => by have := beq_iff_eq.1 h; omega), if_pos ⟨hp0, hp⟩, if_pos ⟨hp0, hp⟩]
    have e1 : gt (s.1.set i.toNat ((gt s.1 i).1.set (gt s.1 i).2.toNat x, (gt s.1 i).2), s.2).1 i = ((gt s.1 i).1.set (gt s.1 i).2.toNat x, (gt s.1 i).2) := gt_set_self h0 hil
    rw [e1]
    simp only [List.length_set]
    rw [if_pos (by omega)]
    generalize gt s.1 i = r at *
    obtain ⟨xs, p⟩ := r
    simp only at hp hp0 he hl ⊢
    obtain ⟨p, rfl⟩ : ∃ n : Nat, p = (n : Int) := ⟨p.toNat, by omega⟩
    have hpl : p < xs.length := by omega
    rw [w64 (x := (p : Int) + 1) (by omega) (by omega)]
    have hm : ((p : Int) + 1).tmod (xs.length : Int) = (if p + 1 = xs.length then 0 else (p : Int) + 1) := by
      rw [Int.tmod_eq_emod_of_nonneg (by omega)]
      split
      · rename_i h
        rw [← h]; simp
      · exact Int.emod_eq_of_lt (by omega) (by omega)
    rw [hm]
    refine ⟨(xs.set p x, if p + 1 = xs.length then 0 else (p : Int) + 1), ?_, ⟨by simp only; split <;> omega, .inr (by simp only [List.length_set]; split <;> omega)⟩, ?_, by simp⟩
    · rw [List.set_set]
      congr 2
      simp only [qu, Int.toNat_natCast]
      rw [List.drop_eq_getElem_cons hpl, gt_nat hpl]
      rfl
    · simp only [qu, Int.toNat_natCast]
      have hd : xs.drop p = xs[p] :: xs.drop (p + 1) := List.drop_eq_getElem_cons hpl
      have hset : xs.set p x = xs.take p ++ x :: xs.drop (p + 1) := by rw [List.set_eq_take_append_cons_drop, if_pos hpl]
      have htl : (xs.take p).length = p := by rw [List.length_take]; omega
      split
      · rename_i h
        rw [hd, hset, List.drop_eq_nil_of_le (show xs.length ≤ p + 1 by omega)]
        simp
      · rename_i h
        have ht : ((p : Int) + 1).toNat = p + 1 := by omega
        rw [ht, hd, hset]
        have e2 : (xs.take p ++ x :: xs.drop (p + 1)).drop (p + 1) = xs.drop (p + 1) := by
          rw [List.drop_append, htl, List.drop_eq_nil_of_le (by omega), show p + 1 - p = 1 by omega]; rfl
        have e3 : (xs.take p ++ x :: xs.drop (p + 1)).take (p + 1) = xs.take p ++ [x] := by
          rw [List.take_append, htl, List.take_of_length_le (by omega), show p + 1 - p = 1 by omega]; rfl
        rw [e2, e3, List.cons_append, List.cons_append, List.drop_succ_cons, List.drop_zero, List.append_assoc]

/-- how many bytes branch i had, behind t pushes -/
def cn (b t i : Nat) : Nat := (t + b - 1 - i) / b
theorem cn_val {b d m i : Nat} (hm : m < b) (hi : i < b) : cn b (b * d + m) i = if i < m then d + 1 else d := by
  unfold cn
  split
  · rw [show b * d + m + b - 1 - i = (m - 1 - i) + b * (d + 1) by rw [Nat.mul_succ]; omega, Nat.add_mul_div_left _ _ (by omega), Nat.div_eq_of_lt (by omega)]; omega
  · rw [show b * d + m + b - 1 - i = (m + b - 1 - i) + b * d by omega, Nat.add_mul_div_left _ _ (by omega), Nat.div_eq_of_lt (by omega)]; omega
theorem cn_at {b t : Nat} (hb : 0 < b) : cn b t (t % b) = t / b := by
  have h := Nat.div_add_mod t b
  have := cn_val (d := t / b) (Nat.mod_lt t hb) (Nat.mod_lt t hb)
  rw [h, if_neg (by omega)] at this
  exact this
theorem cn_next {b t i : Nat} (hb : 0 < b) (hi : i < b) : cn b (t + 1) i = if i = t % b then cn b t i + 1 else cn b t i := by
  have h := Nat.div_add_mod t b
  have hm := Nat.mod_lt t hb
  have k1 := cn_val (d := t / b) hm hi
  rw [h] at k1
  generalize t / b = d at *
  generalize t % b = m at *
  by_cases h1 : m + 1 < b
  · have k2 := cn_val (d := d) h1 hi
    rw [show b * d + (m + 1) = t + 1 by omega] at k2
    rw [k1, k2]
    split <;> split <;> split <;> omega
  · have k2 := cn_val (d := d + 1) (show 0 < b by omega) hi
    rw [show b * (d + 1) + 0 = t + 1 by rw [Nat.mul_succ]; omega] at k2
    rw [k1, k2]
    split <;> split <;> split <;> omega

def hist (L : Nat → Nat) (b : Nat) (inp : Nat → Int) (i c : Nat) : List Int := List.replicate (L i) 0 ++ (List.range c).map fun c => inp (c * b + i)
theorem hist_len (L : Nat → Nat) (b : Nat) (inp : Nat → Int) (i c : Nat) : (hist L b inp i c).length = L i + c := by simp [hist]
theorem hist_next (L : Nat → Nat) (b : Nat) (inp : Nat → Int) (i c : Nat) : hist L b inp i c ++ [inp (c * b + i)] = hist L b inp i (c + 1) := by simp [hist, List.range_succ]

structure LInv (L : Nat → Nat) (b n : Nat) (inp : Nat → Int) (t : Nat) (s : LoomS) : Prop where
  len : s.1.length = 64
  br : s.2.1 = (b : Int)
  st : s.2.2.1 = (n : Int)
  tu : s.2.2.2 = ((t % b : Nat) : Int)
  ok : ∀ i : Nat, i < b → okR (gt s.1 (i : Int)) ∧ (gt s.1 (i : Int)).1.length = L i ∧ qu (gt s.1 (i : Int)) = (hist L b inp i (cn b t i)).drop (cn b t i)

def outp (L : Nat → Nat) (b : Nat) (inp : Nat → Int) (t : Nat) : Int := if t / b < L (t % b) then 0 else inp (t - L (t % b) * b)

theorem push_inv {L : Nat → Nat} {b n t : Nat} {inp : Nat → Int} {s : LoomS} (h : LInv L b n inp t s) (hb : 1 ≤ b) (hb2 : b ≤ 64) (hL : ∀ i, i < b → L i ≤ 65536) :
    ∃ s', f_weave_Loom_Push (some s) (inp t) = some (outp L b inp t, 0, some s') ∧ LInv L b n inp (t + 1) s' := by
  have hm := Nat.mod_lt t (show 0 < b by omega)
  have hdm := Nat.div_add_mod t b
  obtain ⟨o1, o2, o3⟩ := h.ok _ hm
  have hLm := hL _ hm
  obtain ⟨r', e1, e2, e3, e4⟩ := ring_push (x := inp t) h.len (i := ((t % b : Nat) : Int)) (by omega) (by omega) o1 (by omega)
  have hc := cn_at (t := t) (show 0 < b by omega)
  have hx : inp t = inp (t / b * b + t % b) := by rw [Nat.mul_comm, hdm]
  have hqx : qu (gt s.1 ((t % b : Nat) : Int)) ++ [inp t] = (hist L b inp (t % b) (t / b + 1)).drop (t / b) := by
    rw [o3, hc, ← hist_next, hx, List.drop_append_of_le_length (by rw [hist_len]; omega)]
  refine ⟨(s.1.set (t % b) r', s.2.1, s.2.2.1, (((t + 1) % b : Nat) : Int)), ?_, ?_⟩
  · unfold f_weave_Loom_Push
    simp only [Option.isNone_some, Bool.false_eq_true, if_false, Option.bind_some]
    rw [h.tu, if_pos (by omega), e1]
    simp only [Option.bind_some]
    rw [h.br, if_pos (by omega), h.tu, w64 (by omega) (by omega), Int.toNat_natCast]
    have hmod : (((t % b : Nat) : Int) + 1).tmod (b : Int) = (((t + 1) % b : Nat) : Int) := by
      rw [Int.tmod_eq_emod_of_nonneg (by omega), show ((t % b : Nat) : Int) + 1 = ((t % b + 1 : Nat) : Int) by omega]
      rw [show ((t % b + 1 : Nat) : Int) % (b : Int) = (((t % b + 1) % b : Nat) : Int) from rfl, Nat.mod_add_mod]
    rw [hmod]
    congr 2
    rw [hqx]
    have hlt : 0 < ((hist L b inp (t % b) (t / b + 1)).drop (t / b)).length := by rw [List.length_drop, hist_len]; omega
    rw [show (0 : Int) = ((0 : Nat) : Int) from rfl, gt_nat hlt]
    simp only [List.getElem_drop, Nat.add_zero]
    unfold outp hist
    split
    · rename_i hlt2
      rw [List.getElem_append_left (by simpa using hlt2)]; simp
    · rename_i hge
      rw [List.getElem_append_right (by simpa using hge)]
      simp only [List.length_replicate, List.getElem_map, List.getElem_range]
      congr 1
      have hq : t = t / b * b + t % b := by rw [Nat.mul_comm]; omega
      rw [Nat.sub_mul]
      have := Nat.mul_le_mul_right b (show L (t % b) ≤ t / b by omega)
      omega
  · refine ⟨by simpa using h.len, h.br, h.st, rfl, fun i hi => ?_⟩
    rw [cn_next (by omega) hi]
    by_cases hie : i = t % b
    · subst hie
      have hself : gt (s.1.set (t % b) r') ((t % b : Nat) : Int) = r' := by
        have := gt_set_self (xs := s.1) (i := ((t % b : Nat) : Int)) (y := r') (by omega) (by rw [h.len]; omega)
        rwa [Int.toNat_natCast] at this
      simp only [if_true]
      rw [hself]
      refine ⟨e2, by rw [e4, o2], ?_⟩
      rw [e3, hqx, hc, List.drop_drop]
    · have hne : gt (s.1.set (t % b) r') (i : Int) = gt s.1 (i : Int) := by
        have := gt_set_ne (xs := s.1) (i := ((t % b : Nat) : Int)) (j := (i : Int)) (y := r') (by omega) (by omega) (by omega)
        rwa [Int.toNat_natCast] at this
      simp only [hie, if_false]
      rw [hne]
      exact h.ok i hi

theorem start_inv {L : Nat → Nat} {b n : Nat} (inp : Nat → Int) (hb : 1 ≤ b) (hb2 : b ≤ 64) :
    LInv L b n inp 0 ((List.range 64).map fun i => if i < b then (List.replicate (L i) 0, 0) else ([], 0), (b : Int), (n : Int), 0) := by
  refine ⟨by simp, rfl, rfl, by simp, fun i hi => ?_⟩
  have hg : gt ((List.range 64).map fun i => if i < b then ((List.replicate (L i) 0, 0) : Rg) else ([], 0)) (i : Int) = (List.replicate (L i) 0, 0) := by
    rw [gt_nat (by simp; omega)]; simp [hi]
  simp only
  rw [hg]
  have hc : cn b 0 i = 0 := by unfold cn; exact Nat.div_eq_of_lt (by omega)
  refine ⟨⟨by simp, ?_⟩, by simp, by rw [hc]; simp [qu, hist]⟩
  rcases Nat.eq_zero_or_pos (L i) with h | h
  · left; simp [h]
  · right; simp; omega

theorem new_some (b n : Nat) (hb : 1 ≤ b) (hb2 : b ≤ 64) (hn : 1 ≤ n) (hn2 : n ≤ 64) :
    f_weave_New (b : Int) (n : Int) = some (some ((List.range 64).map fun i => if i < b then (List.replicate (i * n) 0, 0) else ([], 0), (b : Int), (n : Int), 0), 0) := by
  unfold f_weave_New f_weave_made
  rw [if_neg (by simp; omega)]
  have key := loop_for (f := f_weave_made.s1 (b : Int) (n : Int)) b (fun k => (((List.range 64).map fun i => if i < k then ((List.replicate (i * n) 0, 0) : Rg) else ([], 0), (b : Int), (n : Int), (0 : Int)) : LoomS))
    ((List.range 64).map fun i => if i < b then (List.replicate (i * n) 0, 0) else ([], 0), (b : Int), (n : Int), (0 : Int)) (fun k hk => ?_) ?_
  · have e0 : ((List.range 64).map fun i => if i < 0 then ((List.replicate (i * n) 0, 0) : Rg) else ([], 0)) = List.replicate 64 ([], 0) := by rfl
    rw [e0] at key
    rw [key]; rfl
  · simp only [f_weave_made.s1, f_weave_made.s1c, f_weave_New_1, Option.bind_some]
    have hkn : k * n ≤ 4096 := Nat.mul_le_mul (show k ≤ 64 by omega) hn2
    have hp : (k : Int) * (n : Int) = ((k * n : Nat) : Int) := (Int.natCast_mul k n).symm
    rw [if_pos (by simpa using hk), hp, w64 (by omega) (by omega), if_pos (by omega), if_pos (by omega), w64 (x := (k : Int) + 1) (by omega) (by omega), Int.toNat_natCast, Int.toNat_natCast]
    have hg : (gt ((List.range 64).map fun i => if i < k then ((List.replicate (i * n) 0, 0) : Rg) else ([], 0)) (k : Int)).2 = 0 := by
      rw [gt_nat (by simp; omega)]; simp
    rw [hg]
    refine congrArg (fun r : List Rg => some (Sum.inl ((r, (b : Int), (n : Int), (0 : Int)), (k : Int) + 1))) ?_
    apply List.ext_getElem
    · simp
    · intro i h1 h2
      simp only [List.length_set, List.length_map, List.length_range] at h1
      rw [List.getElem_set]
      simp only [List.getElem_map, List.getElem_range]
      split
      · rename_i h; subst h; simp
      · rename_i h
        by_cases h3 : i < k
        · rw [if_pos h3, if_pos (by omega)]
        · rw [if_neg h3, if_neg (by omega)]
  · simp only [f_weave_made.s1, f_weave_made.s1c]
    rw [if_neg (by simp)]

theorem run_inv {L : Nat → Nat} {b n t : Nat} {inp : Nat → Int} {s : LoomS} (h : LInv L b n inp t s) (hb : 1 ≤ b) (hb2 : b ≤ 64) (hL : ∀ i, i < b → L i ≤ 65536) (str : ByteArray) (hs : str.size ≤ 32768)
    (hin : ∀ j : Nat, j < str.size → inp (t + j) = gt (sbytes str) (j : Int)) :
    ∃ s', f_weave_Loom_Run (some s) str = some (bstr ((List.range str.size).map fun j => outp L b inp (t + j)), 0, some s') ∧ LInv L b n inp (t + str.size) s' := by
  have hsl := sbytes_len str
  have key : ∀ (k j : Nat) (s : LoomS) (out : List Int), j + k = str.size → LInv L b n inp (t + j) s → out = (List.range j).map (fun j => outp L b inp (t + j)) →
      ∃ s', loop (f_weave_Loom_Run.s1 str) (some s, out, (j : Int)) = some (some s', (List.range str.size).map fun j => outp L b inp (t + j)) ∧ LInv L b n inp (t + str.size) s' := by
    intro k
    induction k with
    | zero =>
      intro j s out hj hi ho
      refine ⟨s, loop_done ?_, by rw [show str.size = j by omega]; exact hi⟩
      simp only [f_weave_Loom_Run.s1, f_weave_Loom_Run.s1c]
      rw [if_neg (by simp; omega), ho, show str.size = j by omega]
    | succ k ih =>
      intro j s out hj hi ho
      obtain ⟨s', e1, e2⟩ := push_inv hi hb hb2 hL
      rw [hin j (by omega)] at e1
      obtain ⟨s'', e3, e4⟩ := ih (j + 1) s' (out ++ [outp L b inp (t + j)]) (by omega) e2 (by rw [ho, List.range_succ, List.map_append]; rfl)
      refine ⟨s'', ?_, e4⟩
      rw [loop_step (s' := (some s', out ++ [outp L b inp (t + j)], ((j + 1 : Nat) : Int)))]
      · exact e3
      · simp only [f_weave_Loom_Run.s1, f_weave_Loom_Run.s1c]
        have hol : out.length = j := by rw [ho]; simp
        rw [if_pos (by simp; omega), if_pos (by omega), e1]
        simp only [Option.bind_some]
        rw [if_pos (by simp; omega), w64 (by omega) (by omega)]; rfl
  obtain ⟨s', e1, e2⟩ := key str.size 0 s [] (by omega) h rfl
  refine ⟨s', ?_, e2⟩
  unfold f_weave_Loom_Run
  simp only [Option.isNone_some, Bool.false_eq_true, if_false, Option.bind_some]
  rw [if_neg (by simp; omega), if_pos (by omega), if_pos (by omega)]
  have e0 : List.replicate ((0 : Int)).toNat (0 : Int) = [] := rfl
  rw [e0, show (0 : Int) = ((0 : Nat) : Int) from rfl, e1]
  rfl
/-! ### awake -/
theorem in_some (words : List ByteArray) (m : Nat) (h0 : 0 < words.length) (hl : words.length ≤ 255) (hm0 : 1 ≤ m) (hm255 : m ≤ 255) (hm : ∀ i : Nat, i < words.length → (gt words (i : Int)).size = m) :
    f_weave_In words = some (bstr (wov words m), 0) := by
  have h00 := hm 0 h0
  have hmn : m * words.length ≤ 65025 := Nat.mul_le_mul hm255 hl
  have hp : (m : Int) * (words.length : Int) = ((m * words.length : Nat) : Int) := (Int.natCast_mul m words.length).symm
  obtain ⟨r, e1, e2⟩ := own_s1 words m h0 hl hm255 h00
  cases r with
  | inr q => obtain ⟨_, i, hi, hne⟩ := e2; exact absurd (hm i hi) hne
  | inl q =>
    obtain ⟨rfl, _⟩ := e2
    have hrl := rows_len words m words.length hm
    unfold f_weave_In f_weave_may
    rw [show gt words (0 : Int) = gt words ((0 : Nat) : Int) from rfl, h00]
    rw [if_neg (fun h => by have := beq_iff_eq.1 h; omega), if_pos (by omega)]
    simp only [Option.bind_some]
    rw [if_neg (by simp; omega), if_pos (by omega), hp, w64 (by omega) (by omega), if_pos (by omega), Int.toNat_natCast, e1]
    simp only [Option.bind_some, sm]
    rw [if_pos (by rw [hrl, Nat.mul_comm]; omega)]
    have e : List.replicate ((0 : Int)).toNat (0 : Int) = [] := rfl
    rw [e, own_s2 words m h0 hl hm255 hm]
    rfl
def aw2 : List ByteArray := [(ByteArray.mk #[97, 98, 99]), (ByteArray.mk #[100, 101, 102])]
def aw4 : ByteArray := ByteArray.mk #[97, 98, 99, 100]
theorem awake_true : f_foghornlaw17_awake = some true := by
  have h1 : f_weave_In aw2 = some (bstr (wov aw2 3), 0) := in_some aw2 3 (by decide) (by decide) (by decide) (by decide) (by decide)
  have h2 := new_some 2 1 (by omega) (by omega) (by omega) (by omega)
  have h3 := start_inv (L := fun i => i * 1) (b := 2) (n := 1) (fun j => gt (sbytes aw4) (j : Int)) (by omega) (by omega)
  obtain ⟨s', e1, e2⟩ := run_inv h3 (by omega) (by omega) (fun i hi => by omega) aw4 (by decide) (fun j hj => by rw [Nat.zero_add])
  have k1 : seq (bstr (wov aw2 3)) (ByteArray.mk #[97, 100, 98, 101, 99, 102]) = true := by decide +kernel
  have k2 : seq (bstr ((List.range aw4.size).map fun j => outp (fun i => i * 1) 2 (fun j => gt (sbytes aw4) (j : Int)) (0 + j))) (ByteArray.mk #[97, 0, 99, 98]) = true := by decide +kernel
  unfold f_foghornlaw17_awake
  rw [show [(ByteArray.mk #[97, 98, 99]), (ByteArray.mk #[100, 101, 102])] = aw2 from rfl, h1]
  simp only [Option.bind_some]
  rw [show (2 : Int) = ((2 : Nat) : Int) from rfl, show (1 : Int) = ((1 : Nat) : Int) from rfl, h2]
  simp only [Option.bind_some]
  rw [k1, if_neg (by decide), show ByteArray.mk #[97, 98, 99, 100] = aw4 from rfl, e1]
  simp only [Option.bind_some]
  rw [k2]
  rfl
theorem nmod (x : Int) (k : Nat) (hk : 1 ≤ k) (hk2 : k ≤ 1000000) : ∃ n : Nat, n < k ∧ (IntKind.i64.wrap (x.tmod (k : Int) + (k : Int))).tmod (k : Int) = (n : Int) := by
  have h1 := Int.tmod_lt_of_pos x (show (0 : Int) < (k : Int) by omega)
  have h2 : -(k : Int) < x.tmod (k : Int) := by
    have := Int.tmod_lt_of_pos (-x) (show (0 : Int) < (k : Int) by omega)
    rw [Int.neg_tmod] at this; omega
  rw [w64 (by omega) (by omega), Int.tmod_eq_emod_of_nonneg (by omega)]
  have h3 := Int.emod_nonneg (x.tmod (k : Int) + (k : Int)) (show (k : Int) ≠ 0 by omega)
  have h4 := Int.emod_lt_of_pos (x.tmod (k : Int) + (k : Int)) (show (0 : Int) < (k : Int) by omega)
  exact ⟨((x.tmod (k : Int) + (k : Int)) % (k : Int)).toNat, by omega, by omega⟩

/-! ### The law -/
theorem cn_mono {c p q i : Nat} (h : p ≤ q) : cn c p i ≤ cn c q i := Nat.div_le_div_right (by omega)
theorem cn_le {c l q i : Nat} (hc : 1 ≤ c) (hi : i < c) (h : q ≤ c * l) : cn c q i ≤ l := by
  unfold cn
  rw [Nat.div_le_iff_le_mul_add_pred (by omega)]
  have : c * l = l * c := Nat.mul_comm _ _
  omega
theorem cn_lo {c p q i : Nat} (hc : 1 ≤ c) (hi : i < c) (h : cn c p i ≤ q) : p ≤ q * c + i := by
  unfold cn at h
  rw [Nat.div_le_iff_le_mul_add_pred (by omega)] at h
  have : c * q = q * c := Nat.mul_comm _ _
  omega
theorem cn_hi {c p q i : Nat} (hc : 1 ≤ c) (hi : i < c) (h : q < cn c p i) : q * c + i < p := by
  unfold cn at h
  have h2 : q + 1 ≤ (p + c - 1 - i) / c := h
  rw [Nat.le_div_iff_mul_le (by omega)] at h2
  have : (q + 1) * c = q * c + c := Nat.succ_mul q c
  omega
theorem cd_cn {c p i : Nat} (hc : 1 ≤ c) (hi : i < c) : cd (c : Int) (p : Int) (i : Int) = ((cn c p i : Nat) : Int) := by
  unfold cd cn
  rw [show (p : Int) + (c : Int) - 1 - (i : Int) = ((p + c - 1 - i : Nat) : Int) by omega]
  rfl

/-- the lost bytes of a word, below p -/
def mrow (c F p w : Nat) : List Int := (List.range (cn c p w - cn c F w)).map fun k => ((cn c F w + k : Nat) : Int)
theorem mrow_len (c F p w : Nat) : (mrow c F p w).length = cn c p w - cn c F w := by simp [mrow]
def mall (c F p : Nat) : List (List Int) := (List.range c).map fun w => mrow c F p w
theorem mall_gt {c F p w : Nat} (hw : w < c) : gt (mall c F p) (w : Int) = mrow c F p w := by
  rw [gt_nat (by simpa [mall] using hw)]; simp [mall]
theorem mall_next {c F p : Nat} (hc : 1 ≤ c) (h : F ≤ p) : (mall c F p).set (p % c) (mrow c F p (p % c) ++ [((p / c : Nat) : Int)]) = mall c F (p + 1) := by
  have hm := Nat.mod_lt p (show 0 < c by omega)
  apply List.ext_getElem
  · simp [mall]
  · intro w h1 h2
    simp only [mall, List.length_set, List.length_map, List.length_range] at h1
    have hmono := cn_mono (c := c) (i := w) h
    rw [List.getElem_set]
    simp only [mall, List.getElem_map, List.getElem_range]
    split
    · rename_i h; subst h
      have h3 := cn_next (t := p) (show 0 < c by omega) hm
      rw [if_pos rfl] at h3
      unfold mrow
      rw [h3, show cn c p (p % c) + 1 - cn c F (p % c) = (cn c p (p % c) - cn c F (p % c)) + 1 by omega, List.range_succ, List.map_append]
      congr 1
      simp only [List.map_cons, List.map_nil]
      rw [show cn c F (p % c) + (cn c p (p % c) - cn c F (p % c)) = cn c p (p % c) by omega, cn_at (by omega)]
    · rename_i h
      have h3 := cn_next (t := p) (show 0 < c by omega) h1
      rw [if_neg (by omega)] at h3
      unfold mrow
      rw [h3]

/-- what is gone -/
def gone (n a b : Nat) : List Bool := (List.range n).map fun p => decide (a ≤ p ∧ p < b)
theorem gone_gt {n a b p : Nat} (hp : p < n) : gt (gone n a b) (p : Int) = decide (a ≤ p ∧ p < b) := by
  rw [gt_nat (by simpa [gone] using hp)]; simp [gone]
def lostL (F T : Nat) : List Int := (List.range (T - F)).map fun i => ((T - 1 - i : Nat) : Int)

theorem lost_some (F T : Nat) (h : F ≤ T) (ht : T ≤ 3600) : loop (f_foghornlaw17_WeaveSpread.s1 (F : Int)) ([], (T : Int) - 1) = some (lostL F T) := by
  have key : ∀ k i : Nat, i + k = T - F → loop (f_foghornlaw17_WeaveSpread.s1 (F : Int)) ((List.range i).map (fun i => ((T - 1 - i : Nat) : Int)), (T : Int) - 1 - (i : Int)) = some (lostL F T) := by
    intro k
    induction k with
    | zero =>
      intro i hi
      apply loop_done
      simp only [f_foghornlaw17_WeaveSpread.s1, f_foghornlaw17_WeaveSpread.s1c]
      rw [if_neg (by simp; omega), show i = T - F by omega]; rfl
    | succ k ih =>
      intro i hi
      rw [← ih (i + 1) (by omega)]
      apply loop_step
      simp only [f_foghornlaw17_WeaveSpread.s1, f_foghornlaw17_WeaveSpread.s1c]
      rw [if_pos (by simp; omega), if_pos (by simp; omega), w64 (by omega) (by omega), List.range_succ, List.map_append]
      simp only [List.map_cons, List.map_nil]
      rw [show (T : Int) - 1 - (i : Int) = ((T - 1 - i : Nat) : Int) by omega, show ((T - 1 - i : Nat) : Int) - 1 = (T : Int) - 1 - ((i + 1 : Nat) : Int) by omega]
  have := key (T - F) 0 (by omega)
  simpa using this

theorem marks_own (F T c l : Nat) (h : F ≤ T) (hc : 1 ≤ c) (hc2 : c ≤ 60) (hl : 1 ≤ l) (hl2 : l ≤ 60) (ht : T ≤ c * l) : f_weave_Marks (lostL F T) (c : Int) (l : Int) = some (mall c F T, 0) := by
  have hcl : c * l ≤ 3600 := Nat.mul_le_mul hc2 hl2
  have hp : (c : Int) * (l : Int) = ((c * l : Nat) : Int) := (Int.natCast_mul c l).symm
  have hll : (lostL F T).length = T - F := by simp [lostL]
  have hlg : ∀ i : Nat, i < T - F → gt (lostL F T) (i : Int) = ((T - 1 - i : Nat) : Int) := fun i hi => by
    rw [gt_nat (by omega)]; simp [lostL]
  unfold f_weave_Marks f_weave_may
  simp only [Option.bind_some]
  have hw : IntKind.i64.wrap ((c : Int) * (l : Int)) = ((c * l : Nat) : Int) := by rw [hp, w64 (by omega) (by omega)]
  rw [hw, if_neg (by simp [hll]; omega), if_pos (by omega), Int.toNat_natCast]
  have k1 : loop (f_weave_Marks.s1 (lostL F T)) (List.replicate (c * l) false, (0 : Int)) = some (.inl (gone (c * l) F T)) := by
    have := loop_for (f := f_weave_Marks.s1 (lostL F T)) (T - F) (fun i => gone (c * l) (T - i) T) (.inl (gone (c * l) F T)) (fun i hi => ?_) ?_
    · have e : gone (c * l) (T - 0) T = List.replicate (c * l) false := by
        apply List.ext_getElem
        · simp [gone]
        · intro p h1 h2; simp [gone] <;> omega
      rw [e] at this; exact this
    · have hgl : (gone (c * l) (T - i) T).length = c * l := by simp [gone]
      simp only [f_weave_Marks.s1, f_weave_Marks.s1c]
      rw [hlg i hi, if_pos (by simp; omega), if_pos (by omega), if_neg (by simp; omega), if_pos (by omega), gone_gt (by omega)]
      simp only [Option.bind_some]
      rw [if_neg (by simp; omega), if_pos (by omega), w64 (by omega) (by omega), Int.toNat_natCast]
      congr 3
      apply List.ext_getElem
      · simp [gone]
      · intro p h1 h2
        simp only [List.length_set, hgl] at h1
        rw [List.getElem_set]
        simp only [gone, List.getElem_map, List.getElem_range]
        split
        · symm; simp; omega
        · congr 1; apply propext; omega
    · simp only [f_weave_Marks.s1, f_weave_Marks.s1c]
      rw [if_neg (by simp; omega), show T - (T - F) = F by omega]
  rw [k1]
  simp only [Option.bind_some, sm]
  rw [if_pos (by omega), Int.toNat_natCast]
  have hgl : (gone (c * l) F T).length = c * l := by simp [gone]
  have k2 : loop (f_weave_Marks.s2 (c : Int) (gone (c * l) F T)) (List.replicate c [], (0 : Int)) = some (mall c F T) := by
    have := loop_for (f := f_weave_Marks.s2 (c : Int) (gone (c * l) F T)) (c * l) (fun p => mall c F (if p < F then F else if p < T then p else T)) (mall c F T) (fun p hpl => ?_) ?_
    · have e : mall c F (if 0 < F then F else if 0 < T then 0 else T) = List.replicate c [] := by
        have : (if 0 < F then F else if 0 < T then 0 else T) = F := by split <;> (try split) <;> omega
        rw [this]
        apply List.ext_getElem
        · simp [mall]
        · intro p h1 h2; simp [mall, mrow]
      rw [e] at this; exact this
    · have hm : (p : Int).tmod (c : Int) = ((p % c : Nat) : Int) := by rw [Int.tmod_eq_emod_of_nonneg (by omega)]; rfl
      have hd : (p : Int).tdiv (c : Int) = ((p / c : Nat) : Int) := by rw [Int.tdiv_eq_ediv_of_nonneg (by omega)]; rfl
      have hmlt := Nat.mod_lt p (show 0 < c by omega)
      have hdle := Nat.div_le_self p c
      simp only [f_weave_Marks.s2, f_weave_Marks.s2c, hm, hd]
      rw [if_pos (by simp [hgl]; omega), if_pos (by omega), gone_gt (by omega)]
      by_cases hin : F ≤ p ∧ p < T
      · have e1 : (if p < F then F else if p < T then p else T) = p := by rw [if_neg (by omega), if_pos hin.2]
        have e2 : (if p + 1 < F then F else if p + 1 < T then p + 1 else T) = p + 1 := by rw [if_neg (by omega)]; split <;> omega
        rw [e1, e2]
        have hal : (mall c F p).length = c := by simp [mall]
        have hrl := mrow_len c F p (p % c)
        have hb := cn_le (q := p) hc hmlt (show p ≤ c * l by omega)
        rw [if_pos (by simp; omega), if_pos (by omega), if_pos (by omega), if_pos (by omega), if_pos (by omega), mall_gt hmlt, w64 (x := ((p / c : Nat) : Int)) (by generalize p / c = z at *; omega) (by generalize p / c = z at *; omega), if_pos (by simp [hrl]; omega), if_pos (by omega), w64 (by omega) (by omega), Int.toNat_natCast,
          mall_next hc hin.1]
        rfl
      · have e1 : (if p + 1 < F then F else if p + 1 < T then p + 1 else T) = (if p < F then F else if p < T then p else T) := by
          (repeat' split) <;> omega
        rw [if_neg (by simp; omega), w64 (by omega) (by omega), e1]
        rfl
    · simp only [f_weave_Marks.s2, f_weave_Marks.s2c]
      rw [if_neg (by simp [hgl])]
      congr 3
      (repeat' split) <;> omega
  rw [k2]
  rfl

theorem hit_some (F T c l : Nat) (h : F ≤ T) (hc : 1 ≤ c) (hc2 : c ≤ 60) (hl : 1 ≤ l) (hl2 : l ≤ 60) (ht : T ≤ c * l) : f_weave_Hit (F : Int) (T : Int) (c : Int) (l : Int) = some (burst (c : Int) (F : Int) (T : Int), 0) := by
  have hcl : c * l ≤ 3600 := Nat.mul_le_mul hc2 hl2
  have hp : (c : Int) * (l : Int) = ((c * l : Nat) : Int) := (Int.natCast_mul c l).symm
  unfold f_weave_Hit f_weave_may
  simp only [Option.bind_some]
  rw [hp, w64 (by omega) (by omega), if_neg (by simp; omega), if_pos (by omega), hit_own (by omega) (by omega) (by omega) (by omega) (by omega)]
  rfl

theorem spread_j (count length : Int) (c l F T : Nat) (hcw : IntKind.i64.wrap (1 + (IntKind.i64.wrap (count.tmod 60 + 60)).tmod 60) = (c : Int)) (hlw : IntKind.i64.wrap (1 + (IntKind.i64.wrap (length.tmod 60 + 60)).tmod 60) = (l : Int))
    (hc : 1 ≤ c) (hc2 : c ≤ 60) (hl : 1 ≤ l) (hl2 : l ≤ 60) (h : F ≤ T) (ht : T ≤ c * l) : f_foghornlaw17_WeaveSpread.j1 count length (F : Int) (T : Int) = some true := by
  have hcl : c * l ≤ 3600 := Nat.mul_le_mul hc2 hl2
  unfold f_foghornlaw17_WeaveSpread.j1
  rw [hcw, hlw, hit_some F T c l h hc hc2 hl hl2 ht]
  simp only [Option.bind_some]
  rw [w64 (x := (T : Int) - 1) (by omega) (by omega), lost_some F T h (by omega)]
  simp only [Option.bind_some]
  rw [marks_own F T c l h hc hc2 hl hl2 ht]
  simp only [Option.bind_some]
  have hbl : (burst (c : Int) (F : Int) (T : Int)).length = c := by rw [burst_len]; omega
  have hml : (mall c F T).length = c := by simp [mall]
  have hbg : ∀ w : Nat, w < c → gt (burst (c : Int) (F : Int) (T : Int)) (w : Int) = ((cn c T w - cn c F w : Nat) : Int) := fun w hw => by
    have := cn_mono (c := c) (i := w) h
    rw [burst_gt (by omega), cd_cn hc hw, cd_cn hc hw]; omega
  rw [hbl, hml, if_neg (by simp)]
  -- numbers of the rounds
  obtain ⟨dT, hdT⟩ : ∃ x, x = T / c := ⟨_, rfl⟩
  obtain ⟨mT, hmT⟩ : ∃ x, x = T % c := ⟨_, rfl⟩
  obtain ⟨dF, hdF⟩ : ∃ x, x = F / c := ⟨_, rfl⟩
  obtain ⟨mF, hmF⟩ : ∃ x, x = F % c := ⟨_, rfl⟩
  have eT : c * dT + mT = T := by rw [hdT, hmT]; exact Nat.div_add_mod T c
  have eF : c * dF + mF = F := by rw [hdF, hmF]; exact Nat.div_add_mod F c
  have lT : mT < c := by rw [hmT]; exact Nat.mod_lt T (by omega)
  have lF : mF < c := by rw [hmF]; exact Nat.mod_lt F (by omega)
  have vT : ∀ w, w < c → cn c T w = if w < mT then dT + 1 else dT := fun w hw => by rw [← eT]; exact cn_val lT hw
  have vF : ∀ w, w < c → cn c F w = if w < mF then dF + 1 else dF := fun w hw => by rw [← eF]; exact cn_val lF hw
  have bT : dT ≤ 3600 := Nat.le_trans (Nat.le_mul_of_pos_left dT hc) (by omega)
  have bF : dF ≤ 3600 := Nat.le_trans (Nat.le_mul_of_pos_left dF hc) (by omega)
  have hTF : IntKind.i64.wrap ((T : Int) - (F : Int)) = ((T - F : Nat) : Int) := by rw [w64 (by omega) (by omega)]; omega
  have hq1 : IntKind.i64.wrap (((T - F : Nat) : Int).tdiv (c : Int)) = (((T - F) / c : Nat) : Int) := by
    have hle := Nat.div_le_self (T - F) c
    rw [Int.tdiv_eq_ediv_of_nonneg (by omega), show ((T - F : Nat) : Int) / (c : Int) = (((T - F) / c : Nat) : Int) from rfl]
    generalize (T - F) / c = z at *
    rw [w64 (by omega) (by omega)]
  have hq2 : IntKind.i64.wrap ((IntKind.i64.wrap (IntKind.i64.wrap (((T - F : Nat) : Int) + (c : Int)) - 1)).tdiv (c : Int)) = (((T - F + c - 1) / c : Nat) : Int) := by
    have hle := Nat.div_le_self (T - F + c - 1) c
    rw [w64 (x := ((T - F : Nat) : Int) + (c : Int)) (by omega) (by omega), w64 (x := ((T - F : Nat) : Int) + (c : Int) - 1) (by omega) (by omega), show ((T - F : Nat) : Int) + (c : Int) - 1 = ((T - F + c - 1 : Nat) : Int) by omega,
      Int.tdiv_eq_ediv_of_nonneg (by omega), show ((T - F + c - 1 : Nat) : Int) / (c : Int) = (((T - F + c - 1) / c : Nat) : Int) from rfl]
    generalize (T - F + c - 1) / c = z at *
    rw [w64 (by omega) (by omega)]
  have lo : ∀ w, w < c → (T - F) / c ≤ cn c T w - cn c F w := fun w hw => by
    have h1 := Nat.div_add_div_le_add_div (x := F + c - 1 - w) (y := T - F) (z := c)
    rw [show F + c - 1 - w + (T - F) = T + c - 1 - w by omega] at h1
    exact Nat.le_sub_of_add_le (by rw [Nat.add_comm]; exact h1)
  have hi : ∀ w, w < c → cn c T w - cn c F w ≤ (T - F + c - 1) / c := fun w hw => by
    show (T + c - 1 - w) / c - (F + c - 1 - w) / c ≤ _
    obtain ⟨u, hu⟩ : ∃ u, u = F + c - 1 - w := ⟨_, rfl⟩
    obtain ⟨d, hd⟩ : ∃ d, d = T - F := ⟨_, rfl⟩
    rw [show T + c - 1 - w = u + d by omega, ← hu, ← hd]
    have h3 := Nat.div_add_mod u c
    have h4 := Nat.mod_lt u (show 0 < c by omega)
    generalize u / c = q at *
    generalize u % c = r at *
    rw [show u + d = (r + d) + c * q by omega, Nat.add_mul_div_left _ _ (by omega)]
    have h6 : (r + d) / c ≤ (d + c - 1) / c := Nat.div_le_div_right (by omega)
    generalize (r + d) / c = x at *
    generalize (d + c - 1) / c = y at *
    omega
  -- one word's bytes
  have word : ∀ w : Nat, w < c → loop (f_foghornlaw17_WeaveSpread.s3 (F : Int) (T : Int) count length (mall c F T) (w : Int)) (0 : Int) = some (.inl ()) := by
    intro w hw
    have hml2 := mrow_len c F T w
    have hmg : ∀ k : Nat, k < cn c T w - cn c F w → gt (mrow c F T w) (k : Int) = ((cn c F w + k : Nat) : Int) := fun k hk => by
      rw [gt_nat (by omega)]; simp [mrow]
    have hle := cn_le (q := T) hc hw ht
    refine loop_for1 (cn c T w - cn c F w) (Sum.inl ()) (fun k hk => ?_) ?_
    · simp only [f_foghornlaw17_WeaveSpread.s3, f_foghornlaw17_WeaveSpread.s3c, hcw, hlw]
      rw [mall_gt hw, if_pos (by omega), if_pos (by simp; omega), if_pos (by omega), if_pos (by omega), hmg k hk]
      obtain ⟨q, hq⟩ : ∃ q, q = cn c F w + k := ⟨_, rfl⟩
      rw [← hq]
      have p1 := cn_lo (p := F) (q := q) hc hw (by omega)
      have p2 := cn_hi (p := T) (q := q) hc hw (by omega)
      have hpl : f_weave_Place (w : Int) (q : Int) (c : Int) (l : Int) = some (((q * c + w : Nat) : Int), 0) := by
        unfold f_weave_Place f_weave_may
        simp only [Option.bind_some]
        rw [if_neg (by simp; omega), ← Int.natCast_mul, w64 (x := ((q * c : Nat) : Int)) (by omega) (by omega), w64 (by omega) (by omega)]
        rfl
      rw [hpl]
      simp only [Option.bind_some]
      rw [if_neg (by simp; omega)]
      by_cases hk0 : k = 0
      · subst hk0
        rw [if_neg (by simp)]
        simp only [Option.bind_some, Bool.false_eq_true, if_false]
        rw [w64 (by omega) (by omega)]; rfl
      · have hdec : decide ((q : Int) ≤ ((cn c F w + (k - 1) : Nat) : Int)) = false := by rw [decide_eq_false_iff_not]; omega
        rw [if_pos (by simp; omega), w64 (x := (k : Int) - 1) (by omega) (by omega), show (k : Int) - 1 = ((k - 1 : Nat) : Int) by omega, if_pos (by omega), hmg (k - 1) (by omega), hdec]
        rw [if_pos (by omega), if_pos (by omega), if_pos (by omega)]
        simp only [Option.bind_some, Bool.false_eq_true, if_false]
        rw [w64 (by omega) (by omega)]; rfl
    · simp only [f_foghornlaw17_WeaveSpread.s3, f_foghornlaw17_WeaveSpread.s3c]
      rw [mall_gt hw, if_pos (by omega), if_neg (by simp; omega)]
  -- the words
  have key : ∀ k w : Nat, w + k = c → loop (f_foghornlaw17_WeaveSpread.s2 (F : Int) (T : Int) count length) (burst (c : Int) (F : Int) (T : Int), mall c F T, ((w * dT + min w mT : Nat) : Int) - ((w * dF + min w mF : Nat) : Int), (w : Int)) =
      some (.inl (((T - F : Nat) : Int))) := by
    intro k
    induction k with
    | zero =>
      intro w hw
      obtain rfl : w = c := by omega
      apply loop_done
      simp only [f_foghornlaw17_WeaveSpread.s2, f_foghornlaw17_WeaveSpread.s2c, hcw, hlw]
      rw [if_neg (by simp)]
      congr 3
      rw [Nat.min_eq_right (by omega), Nat.min_eq_right (by omega), eT, eF]; omega
    | succ k ih =>
      intro w hwk
      have hw : w < c := by omega
      rw [← ih (w + 1) (by omega)]
      apply loop_step
      have hlo := lo w hw
      have hhi := hi w hw
      have hmono := cn_mono (c := c) (i := w) h
      have hcnle := cn_le (q := T) hc hw ht
      simp only [f_foghornlaw17_WeaveSpread.s2, f_foghornlaw17_WeaveSpread.s2c, hcw, hlw, hbl, hml]
      have hd1 : decide (((cn c T w - cn c F w : Nat) : Int) < (((T - F) / c : Nat) : Int)) = false := by rw [decide_eq_false_iff_not]; generalize (T - F) / c = z at *; omega
      have hd2 : decide ((((T - F + c - 1) / c : Nat) : Int) < ((cn c T w - cn c F w : Nat) : Int)) = false := by rw [decide_eq_false_iff_not]; generalize (T - F + c - 1) / c = z at *; omega
      have hb2 : 0 ≤ (w : Int) ∧ (w : Int) < (c : Int) := by omega
      have hc0 : (c : Int) ≠ 0 := by omega
      have hwd : decide ((w : Int) < (c : Int)) = true := by rw [decide_eq_true_eq]; omega
      rw [hTF, hq1, hq2, hbg w hw, mall_gt hw, mrow_len, hd1, hd2, hwd]
      simp only [hb2, hc0, and_self, if_true, ne_eq, not_false_iff, Bool.false_eq_true, if_false, Option.bind_some, bne_self_eq_false]
      rw [word w hw]
      simp only [Option.bind_some, sm]
      have e1 : (w + 1) * dT = w * dT + dT := Nat.succ_mul w dT
      have e2 : (w + 1) * dF = w * dF + dF := Nat.succ_mul w dF
      have b1 : w * dT ≤ 60 * 3600 := Nat.mul_le_mul (by omega) bT
      have b2 : w * dF ≤ 60 * 3600 := Nat.mul_le_mul (by omega) bF
      have v1 := vT w hw
      have v2 := vF w hw
      have vsum : ((w * dT + min w mT : Nat) : Int) - ((w * dF + min w mF : Nat) : Int) + ((cn c T w - cn c F w : Nat) : Int) = (((w + 1) * dT + min (w + 1) mT : Nat) : Int) - (((w + 1) * dF + min (w + 1) mF : Nat) : Int) := by
        rw [e1, e2]
        generalize w * dT = X at *
        generalize w * dF = Y at *
        generalize cn c T w = x at *
        generalize cn c F w = y at *
        split at v1 <;> split at v2 <;> omega
      rw [vsum, e1, e2]
      generalize w * dT = X at *
      generalize w * dF = Y at *
      rw [w64 (x := ((X + dT + min (w + 1) mT : Nat) : Int) - ((Y + dF + min (w + 1) mF : Nat) : Int)) (by omega) (by omega), w64 (x := (w : Int) + 1) (by omega) (by omega)]
      rfl
  have k0 := key c 0 (by omega)
  have z0 : ((0 * dT + min 0 mT : Nat) : Int) - ((0 * dF + min 0 mF : Nat) : Int) = 0 := by simp
  rw [z0] at k0
  rw [show ((0 : Nat) : Int) = 0 from rfl] at k0
  rw [k0]
  simp only [Option.bind_some, sm]
  rw [hTF]
  simp

theorem fmod (x : Int) (n : Nat) (hn : n ≤ 3600) : ∃ f : Nat, f ≤ n ∧ (IntKind.i64.wrap (IntKind.i64.wrap (x.tmod ((n + 1 : Nat) : Int) + (n : Int)) + 1)).tmod ((n + 1 : Nat) : Int) = (f : Int) := by
  have h1 := Int.tmod_lt_of_pos x (show (0 : Int) < ((n + 1 : Nat) : Int) by omega)
  have h2 : -((n + 1 : Nat) : Int) < x.tmod ((n + 1 : Nat) : Int) := by
    have := Int.tmod_lt_of_pos (-x) (show (0 : Int) < ((n + 1 : Nat) : Int) by omega)
    rw [Int.neg_tmod] at this; omega
  rw [w64 (x := x.tmod ((n + 1 : Nat) : Int) + (n : Int)) (by omega) (by omega), w64 (by omega) (by omega), Int.tmod_eq_emod_of_nonneg (by omega)]
  have h3 := Int.emod_nonneg (x.tmod ((n + 1 : Nat) : Int) + (n : Int) + 1) (show ((n + 1 : Nat) : Int) ≠ 0 by omega)
  have h4 := Int.emod_lt_of_pos (x.tmod ((n + 1 : Nat) : Int) + (n : Int) + 1) (show (0 : Int) < ((n + 1 : Nat) : Int) by omega)
  exact ⟨((x.tmod ((n + 1 : Nat) : Int) + (n : Int) + 1) % ((n + 1 : Nat) : Int)).toNat, by omega, by omega⟩

theorem spread_true (fr : Int) (w0 : (Lit.int .i64 fr).wf = true) (to : Int) (w1 : (Lit.int .i64 to).wf = true) (count : Int) (w2 : (Lit.int .i64 count).wf = true) (length : Int) (w3 : (Lit.int .i64 length).wf = true) :
    f_foghornlaw17_WeaveSpread fr to count length = some true := by
  obtain ⟨c', c1, c2⟩ := nmod count 60 (by omega) (by omega)
  obtain ⟨l', l1, l2⟩ := nmod length 60 (by omega) (by omega)
  have hcw : IntKind.i64.wrap (1 + (IntKind.i64.wrap (count.tmod 60 + 60)).tmod 60) = ((1 + c' : Nat) : Int) := by
    rw [show (IntKind.i64.wrap (count.tmod 60 + 60)).tmod 60 = (c' : Int) from c2, w64 (by omega) (by omega)]; omega
  have hlw : IntKind.i64.wrap (1 + (IntKind.i64.wrap (length.tmod 60 + 60)).tmod 60) = ((1 + l' : Nat) : Int) := by
    rw [show (IntKind.i64.wrap (length.tmod 60 + 60)).tmod 60 = (l' : Int) from l2, w64 (by omega) (by omega)]; omega
  have hcl : (1 + c') * (1 + l') ≤ 60 * 60 := Nat.mul_le_mul (by omega) (by omega)
  obtain ⟨n, hn⟩ : ∃ n, n = (1 + c') * (1 + l') := ⟨_, rfl⟩
  have hnw : IntKind.i64.wrap (((1 + c' : Nat) : Int) * ((1 + l' : Nat) : Int)) = (n : Int) := by rw [← Int.natCast_mul, ← hn, w64 (by omega) (by omega)]
  have hn1 : IntKind.i64.wrap ((n : Int) + 1) = ((n + 1 : Nat) : Int) := by rw [w64 (by omega) (by omega)]; omega
  obtain ⟨f, f1, f2⟩ := fmod fr n (by omega)
  obtain ⟨t, t1, t2⟩ := fmod to n (by omega)
  unfold f_foghornlaw17_WeaveSpread
  rw [awake_true]
  simp only [Option.bind_some, Bool.not_true, Bool.false_eq_true, if_false]
  rw [hcw, hlw, hnw, hn1, f2, t2, if_pos (by omega), if_pos (by omega), if_pos (by omega), if_pos (by omega)]
  split
  · rename_i h
    have h' : (t : Int) < (f : Int) := of_decide_eq_true h
    exact spread_j count length (1 + c') (1 + l') t f hcw hlw (by omega) (by omega) (by omega) (by omega) (by omega) (by omega)
  · rename_i h
    have h' : ¬ (t : Int) < (f : Int) := fun hh => h (decide_eq_true hh)
    exact spread_j count length (1 + c') (1 + l') f t hcw hlw (by omega) (by omega) (by omega) (by omega) (by omega) (by omega)

end Go.Proofs.Ythoigfonjpmibaa
