/- WeaveDelays: the plain law. -/
import Derived.Test.YthoigfonjpmibaaG9
import Derived.Test.YthoigfonjpmibaaGlK
set_option linter.unusedVariables false
set_option maxRecDepth 4000
namespace Go.Proofs.Ythoigfonjpmibaa
open GL

theorem seq_self (s : ByteArray) : seq s s = true := by simp [seq]
theorem sbytes_get (s : ByteArray) (i : Nat) (h : i < s.size) : (sbytes s)[i]'(by rw [sbytes_len]; exact h) = bt s i := by
  simp [sbytes, bt, h]
/-- row at of the woven bytes -/
def rowT (words : List ByteArray) (at' : Nat) (i : Nat) : List Int := (List.range i).map fun (w : Nat) => bt (gt words (w : Int)) at'
def wov (words : List ByteArray) (m : Nat) : List Int := (List.range m).flatMap fun (a : Nat) => rowT words a words.length
theorem wov_len (words : List ByteArray) (m : Nat) : (wov words m).length = m * words.length := by
  induction m with
  | zero => simp [wov]
  | succ m ih =>
    have : wov words (m + 1) = wov words m ++ rowT words m words.length := by simp [wov, List.range_succ]
    rw [this, List.length_append, ih]; simp [rowT, Nat.succ_mul]
def rows (words : List ByteArray) (i : Nat) : List Int := (List.range i).flatMap fun (w : Nat) => sbytes (gt words (w : Int))
theorem rows_len (words : List ByteArray) (m : Nat) (i : Nat) (hm : ∀ j : Nat, j < i → (gt words (j : Int)).size = m) : (rows words i).length = i * m := by
  induction i with
  | zero => simp [rows]
  | succ i ih =>
    have : rows words (i + 1) = rows words i ++ sbytes (gt words (i : Int)) := by simp [rows, List.range_succ]
    rw [this, List.length_append, ih fun j hj => hm j (by omega), sbytes_len, hm i (by omega), Nat.succ_mul]
theorem rows_get (words : List ByteArray) (m : Nat) (a : Nat) (ha : a < m) : ∀ (n : Nat) (hm : ∀ j : Nat, j < n → (gt words (j : Int)).size = m) (i : Nat) (hi : i < n), gt (rows words n) ((i * m + a : Nat) : Int) = bt (gt words (i : Int)) a := by
  intro n
  induction n with
  | zero => intro _ i hi; omega
  | succ n ih =>
    intro hm i hi
    have e : rows words (n + 1) = rows words n ++ sbytes (gt words (n : Int)) := by simp [rows, List.range_succ]
    have hl := rows_len words m n fun j hj => hm j (by omega)
    have hl2 := rows_len words m (n + 1) hm
    have hlt : i * m + a < (n + 1) * m := by
      have := Nat.mul_le_mul_right m (show i + 1 ≤ n + 1 by omega)
      rw [Nat.succ_mul] at this; omega
    by_cases hin : i < n
    · have := ih (fun j hj => hm j (by omega)) i hin
      rw [← this]
      have hlt2 : i * m + a < n * m := by
        have := Nat.mul_le_mul_right m (show i + 1 ≤ n by omega)
        rw [Nat.succ_mul] at this; omega
      rw [gt_nat (by rw [hl2]; exact hlt), gt_nat (by rw [hl]; exact hlt2)]
      simp only [e]
      rw [List.getElem_append_left (by rw [hl]; exact hlt2)]
    · obtain rfl : i = n := by omega
      rw [gt_nat (by rw [hl2]; exact hlt)]
      simp only [e]
      rw [List.getElem_append_right (by omega)]
      simp only [hl, Nat.add_sub_cancel_left]
      exact sbytes_get _ _ (by rw [hm i (by omega)]; exact ha)
theorem own_s1 (words : List ByteArray) (m : Nat) (h0 : 0 < words.length) (hl : words.length ≤ 255) (hm255 : m ≤ 255) (h00 : (gt words (0 : Int)).size = m) :
    ∃ r, loop (f_weave_In.s1 words) (List.replicate (m * words.length) (0 : Int), (0 : Int)) = some r ∧ match r with
      | .inl q => q = rows words words.length ∧ ∀ i : Nat, i < words.length → (gt words (i : Int)).size = m
      | .inr q => q = (ByteArray.mk #[], 1) ∧ ∃ i : Nat, i < words.length ∧ (gt words (i : Int)).size ≠ m := by
  refine loop_inv (f := f_weave_In.s1 words) (fun s : List Int × Int => ∃ j : Nat, s.2 = (j : Int) ∧ j ≤ words.length ∧ (∀ i : Nat, i < j → (gt words (i : Int)).size = m) ∧ s.1 = rows words j ++ List.replicate ((words.length - j) * m) 0)
    (fun s => words.length - s.2.toNat)
    (fun r : List Int ⊕ (ByteArray × Int) => match r with
      | .inl q => q = rows words words.length ∧ ∀ i : Nat, i < words.length → (gt words (i : Int)).size = m
      | .inr q => q = (ByteArray.mk #[], 1) ∧ ∃ i : Nat, i < words.length ∧ (gt words (i : Int)).size ≠ m) ?_ _ ⟨0, rfl, by omega, fun i hi => by omega, by simp [rows, Nat.mul_comm]⟩
  rintro ⟨row, t⟩ ⟨j, hj, h1, h2, h3⟩
  simp only at hj h3
  subst hj
  have hrl := rows_len words m j h2
  simp only [f_weave_In.s1, f_weave_In.s1c, h00]
  by_cases ht : j < words.length
  · rw [if_pos (by simpa using ht), if_pos (by omega)]
    have hjm : j * m ≤ 65025 := Nat.mul_le_mul (show j ≤ 255 by omega) hm255
    have hsplit : (words.length - j) * m = m + (words.length - (j + 1)) * m := by
      rw [show words.length - j = (words.length - (j + 1)) + 1 by omega, Nat.succ_mul]; omega
    have hrow : row.length = j * m + (m + (words.length - (j + 1)) * m) := by rw [h3, List.length_append, hrl, List.length_replicate, hsplit]
    by_cases hs : (gt words (j : Int)).size = m
    · rw [if_neg (by simp [hs])]
      have hc : IntKind.i64.wrap ((j : Int) * (m : Int)) = ((j * m : Nat) : Int) := by rw [← Int.natCast_mul]; exact w64 (by omega) (by omega)
      rw [hc, if_pos (by omega), Int.toNat_natCast, hs, if_pos (by omega), w64 (x := (j : Int) + 1) (by omega) (by omega)]
      refine .inl ⟨_, rfl, ⟨j + 1, by simp, by omega, fun i hi => ?_, ?_⟩, by simp; omega⟩
      · by_cases hij : i = j
        · rw [hij, hs]
        · exact h2 i (by omega)
      · have e : rows words (j + 1) = rows words j ++ sbytes (gt words (j : Int)) := by simp [rows, List.range_succ]
        simp only
        rw [h3, e, List.take_append_of_le_length (by omega), List.take_of_length_le (by omega), List.drop_append, hrl]
        simp only [hsplit]
        rw [List.drop_eq_nil_of_le (by omega), List.nil_append, List.drop_replicate]
        congr 2; omega
    · rw [if_pos (by simp; omega)]
      exact .inr ⟨_, rfl, rfl, j, ht, hs⟩
  · obtain rfl : j = words.length := by omega
    rw [if_neg (by simp)]
    exact .inr ⟨_, rfl, by simpa using h3, h2⟩
theorem own_s3 (words : List ByteArray) (a m : Nat) (b : List Int) (hl : words.length ≤ 255) (hm255 : m ≤ 255) (h0 : 0 < words.length) (hm : ∀ i : Nat, i < words.length → (gt words (i : Int)).size = m) (ha : a < m) (hb : b.length ≤ 65025) :
    loop (f_weave_In.s3 words (rows words words.length) (a : Int)) (b, (0 : Int)) = some (b ++ rowT words a words.length) := by
  have h00 : (gt words (0 : Int)).size = m := hm 0 h0
  have := loop_for (f := f_weave_In.s3 words (rows words words.length) (a : Int)) words.length (fun i => b ++ rowT words a i) (b ++ rowT words a words.length) (fun i hi => ?_) ?_
  · simpa [rowT] using this
  · simp only [f_weave_In.s3, f_weave_In.s3c, h00]
    have hjm : i * m ≤ 65025 := Nat.mul_le_mul (show i ≤ 255 by omega) hm255
    have hc : IntKind.i64.wrap ((i : Int) * (m : Int)) = ((i * m : Nat) : Int) := by rw [← Int.natCast_mul]; exact w64 (by omega) (by omega)
    have hc2 : IntKind.i64.wrap (((i * m : Nat) : Int) + (a : Int)) = ((i * m + a : Nat) : Int) := by rw [← Int.natCast_add]; exact w64 (by omega) (by omega)
    have hlt : i * m + a < words.length * m := by
      have := Nat.mul_le_mul_right m (show i + 1 ≤ words.length by omega)
      rw [Nat.succ_mul] at this; omega
    rw [if_pos (by simpa using hi), hc, hc2, rows_get words m a ha words.length hm i hi, if_pos (by rw [rows_len words m words.length hm]; omega), if_pos (by simp [rowT]; omega), w64 (by omega) (by omega)]
    simp [rowT, List.range_succ]
  · simp only [f_weave_In.s3, f_weave_In.s3c]
    rw [if_neg (by simp)]
theorem own_s2 (words : List ByteArray) (m : Nat) (h0 : 0 < words.length) (hl : words.length ≤ 255) (hm255 : m ≤ 255) (hm : ∀ i : Nat, i < words.length → (gt words (i : Int)).size = m) :
    loop (f_weave_In.s2 words (rows words words.length)) ([], (0 : Int)) = some (wov words m) := by
  have h00 : (gt words (0 : Int)).size = m := hm 0 h0
  have := loop_for (f := f_weave_In.s2 words (rows words words.length)) m (fun i => wov words i) (wov words m) (fun i hi => ?_) ?_
  · simpa [wov] using this
  · simp only [f_weave_In.s2, f_weave_In.s2c]
    have hle : i * words.length ≤ 65025 := Nat.mul_le_mul (show i ≤ 255 by omega) hl
    rw [h00, if_pos (by simpa using hi), own_s3 words i m _ hl hm255 h0 hm hi (by rw [wov_len]; exact hle)]
    simp only [Option.bind_some]
    rw [w64 (by omega) (by omega)]
    simp [wov, List.range_succ]
  · simp only [f_weave_In.s2, f_weave_In.s2c]
    rw [h00, if_neg (by simp)]
/-! ### Rings and looms -/
abbrev Rg := List Int × Int
def qu (r : Rg) : List Int := r.1.drop r.2.toNat ++ r.1.take r.2.toNat
def okR (r : Rg) : Prop := 0 ≤ r.2 ∧ (r.1 = [] ∨ r.2 < (r.1.length : Int))
theorem gt_set_self {α : Type} [Inhabited α] {xs : List α} {i : Int} {y : α} (h0 : 0 ≤ i) (h1 : i < xs.length) : gt (xs.set i.toNat y) i = y := by
  rw [gt_get h0 (by simpa using h1)]; simp
theorem gt_set_ne {α : Type} [Inhabited α] {xs : List α} {i j : Int} {y : α} (h0 : 0 ≤ i) (h1 : 0 ≤ j) (h : i ≠ j) : gt (xs.set i.toNat y) j = gt xs j := by
  unfold gt
  rw [List.getD_eq_getElem?_getD, List.getD_eq_getElem?_getD, List.getElem?_set_ne (by omega)]
theorem set_gt {α : Type} [Inhabited α] {xs : List α} {i : Int} (h0 : 0 ≤ i) (h1 : i < xs.length) : xs.set i.toNat (gt xs i) = xs := by
  apply List.ext_getElem?
  intro j
  by_cases hj : i.toNat = j
  · subst hj; rw [List.getElem?_set_self (by omega), gt_of h0 h1]
  · rw [List.getElem?_set_ne hj]
theorem qu_len (r : Rg) : (qu r).length = r.1.length := by simp [qu]; omega

theorem ring_push {s : LoomS} {i x : Int} (hs : s.1.length = 64) (h0 : 0 ≤ i) (h1 : i < 64) (ok : okR (gt s.1 i)) (hl : (gt s.1 i).1.length ≤ 65536) :
    ∃ r' : Rg, f_weave_ring_push s i x = some (gt (qu (gt s.1 i) ++ [x]) 0, (s.1.set i.toNat r', s.2)) ∧ okR r' ∧ qu r' = (qu (gt s.1 i) ++ [x]).drop 1 ∧ r'.1.length = (gt s.1 i).1.length := by
  have hil : i < (s.1.length : Int) := by omega
  unfold f_weave_ring_push
  by_cases he : (gt s.1 i).1.length = 0
  · have hnil : (gt s.1 i).1 = [] := List.eq_nil_of_length_eq_zero he
    rw [if_pos (by simp [he])]
    have hq : qu (gt s.1 i) = [] := List.eq_nil_of_length_eq_zero (by rw [qu_len]; exact he)
    refine ⟨gt s.1 i, ?_, ok, by rw [hq]; rfl, rfl⟩
    rw [hq, set_gt h0 hil]; rfl
  · have hp := ok.2.resolve_left (fun h => he (by rw [h]; rfl))
    have hp0 := ok.1
    rw [if_neg (fun h => by have := beq_iff_eq.1 h; omega), if_pos ⟨hp0, hp⟩, if_pos ⟨hp0, hp⟩]
    have e1 : gt (s.1.set i.toNat ((gt s.1 i).1.set (gt s.1 i).2.toNat x, (gt s.1 i).2), s.2).1 i = ((gt s.1 i).1.set (gt s.1 i).2.toNat x, (gt s.1 i).2) := gt_set_self h0 hil
    rw [e1]
    simp only [List.length_set]
    rw [if_pos (by omega)]
    generalize gt s.1 i = r at *
    obtain ⟨xs, p⟩ := r
    simp only at hp hp0 he hl ⊢
    obtain ⟨p, rfl⟩ : ∃ n : Nat, p = (n : Int) := ⟨p.toNat, by omega⟩
    have hpl : p < xs.length := by omega
    rw [w64 (x := (p : Int) + 1) (by omega) (by omega)]
    have hm : ((p : Int) + 1).tmod (xs.length : Int) = (if p + 1 = xs.length then 0 else (p : Int) + 1) := by
      rw [Int.tmod_eq_emod_of_nonneg (by omega)]
      split
      · rename_i h
        rw [← h]; simp
      · exact Int.emod_eq_of_lt (by omega) (by omega)
    rw [hm]
    refine ⟨(xs.set p x, if p + 1 = xs.length then 0 else (p : Int) + 1), ?_, ⟨by simp only; split <;> omega, .inr (by simp only [List.length_set]; split <;> omega)⟩, ?_, by simp⟩
    · rw [List.set_set]
      congr 2
      simp only [qu, Int.toNat_natCast]
      rw [List.drop_eq_getElem_cons hpl, gt_nat hpl]
      rfl
    · simp only [qu, Int.toNat_natCast]
      have hd : xs.drop p = xs[p] :: xs.drop (p + 1) := List.drop_eq_getElem_cons hpl
      have hset : xs.set p x = xs.take p ++ x :: xs.drop (p + 1) := by rw [List.set_eq_take_append_cons_drop, if_pos hpl]
      have htl : (xs.take p).length = p := by rw [List.length_take]; omega
      split
      · rename_i h
        rw [hd, hset, List.drop_eq_nil_of_le (show xs.length ≤ p + 1 by omega)]
        simp
      · rename_i h
        have ht : ((p : Int) + 1).toNat = p + 1 := by omega
        rw [ht, hd, hset]
        have e2 : (xs.take p ++ x :: xs.drop (p + 1)).drop (p + 1) = xs.drop (p + 1) := by
          rw [List.drop_append, htl, List.drop_eq_nil_of_le (by omega), show p + 1 - p = 1 by omega]; rfl
        have e3 : (xs.take p ++ x :: xs.drop (p + 1)).take (p + 1) = xs.take p ++ [x] := by
          rw [List.take_append, htl, List.take_of_length_le (by omega), show p + 1 - p = 1 by omega]; rfl
        rw [e2, e3, List.cons_append, List.cons_append, List.drop_succ_cons, List.drop_zero, List.append_assoc]

/-- how many bytes branch i had, behind t pushes -/
def cn (b t i : Nat) : Nat := (t + b - 1 - i) / b
theorem cn_val {b d m i : Nat} (hm : m < b) (hi : i < b) : cn b (b * d + m) i = if i < m then d + 1 else d := by
  unfold cn
  split
  · rw [show b * d + m + b - 1 - i = (m - 1 - i) + b * (d + 1) by rw [Nat.mul_succ]; omega, Nat.add_mul_div_left _ _ (by omega), Nat.div_eq_of_lt (by omega)]; omega
  · rw [show b * d + m + b - 1 - i = (m + b - 1 - i) + b * d by omega, Nat.add_mul_div_left _ _ (by omega), Nat.div_eq_of_lt (by omega)]; omega
theorem cn_at {b t : Nat} (hb : 0 < b) : cn b t (t % b) = t / b := by
  have h := Nat.div_add_mod t b
  have := cn_val (d := t / b) (Nat.mod_lt t hb) (Nat.mod_lt t hb)
  rw [h, if_neg (by omega)] at this
  exact this
theorem cn_next {b t i : Nat} (hb : 0 < b) (hi : i < b) : cn b (t + 1) i = if i = t % b then cn b t i + 1 else cn b t i := by
  have h := Nat.div_add_mod t b
  have hm := Nat.mod_lt t hb
  have k1 := cn_val (d := t / b) hm hi
  rw [h] at k1
  generalize t / b = d at *
  generalize t % b = m at *
  by_cases h1 : m + 1 < b
  · have k2 := cn_val (d := d) h1 hi
    rw [show b * d + (m + 1) = t + 1 by omega] at k2
    rw [k1, k2]
    split <;> split <;> split <;> omega
  · have k2 := cn_val (d := d + 1) (show 0 < b by omega) hi
    rw [show b * (d + 1) + 0 = t + 1 by rw [Nat.mul_succ]; omega] at k2
    rw [k1, k2]
    split <;> split <;> split <;> omega

def hist (L : Nat → Nat) (b : Nat) (inp : Nat → Int) (i c : Nat) : List Int := List.replicate (L i) 0 ++ (List.range c).map fun c => inp (c * b + i)
theorem hist_len (L : Nat → Nat) (b : Nat) (inp : Nat → Int) (i c : Nat) : (hist L b inp i c).length = L i + c := by simp [hist]
theorem hist_next (L : Nat → Nat) (b : Nat) (inp : Nat → Int) (i c : Nat) : hist L b inp i c ++ [inp (c * b + i)] = hist L b inp i (c + 1) := by simp [hist, List.range_succ]

structure LInv (L : Nat → Nat) (b n : Nat) (inp : Nat → Int) (t : Nat) (s : LoomS) : Prop where
  len : s.1.length = 64
  br : s.2.1 = (b : Int)
  st : s.2.2.1 = (n : Int)
  tu : s.2.2.2 = ((t % b : Nat) : Int)
  ok : ∀ i : Nat, i < b → okR (gt s.1 (i : Int)) ∧ (gt s.1 (i : Int)).1.length = L i ∧ qu (gt s.1 (i : Int)) = (hist L b inp i (cn b t i)).drop (cn b t i)

def outp (L : Nat → Nat) (b : Nat) (inp : Nat → Int) (t : Nat) : Int := if t / b < L (t % b) then 0 else inp (t - L (t % b) * b)

theorem push_inv {L : Nat → Nat} {b n t : Nat} {inp : Nat → Int} {s : LoomS} (h : LInv L b n inp t s) (hb : 1 ≤ b) (hb2 : b ≤ 64) (hL : ∀ i, i < b → L i ≤ 65536) :
    ∃ s', f_weave_Loom_Push (some s) (inp t) = some (outp L b inp t, 0, some s') ∧ LInv L b n inp (t + 1) s' := by
  have hm := Nat.mod_lt t (show 0 < b by omega)
  have hdm := Nat.div_add_mod t b
  obtain ⟨o1, o2, o3⟩ := h.ok _ hm
  have hLm := hL _ hm
  obtain ⟨r', e1, e2, e3, e4⟩ := ring_push (x := inp t) h.len (i := ((t % b : Nat) : Int)) (by omega) (by omega) o1 (by omega)
  have hc := cn_at (t := t) (show 0 < b by omega)
  have hx : inp t = inp (t / b * b + t % b) := by rw [Nat.mul_comm, hdm]
  have hqx : qu (gt s.1 ((t % b : Nat) : Int)) ++ [inp t] = (hist L b inp (t % b) (t / b + 1)).drop (t / b) := by
    rw [o3, hc, ← hist_next, hx, List.drop_append_of_le_length (by rw [hist_len]; omega)]
  refine ⟨(s.1.set (t % b) r', s.2.1, s.2.2.1, (((t + 1) % b : Nat) : Int)), ?_, ?_⟩
  · unfold f_weave_Loom_Push
    simp only [Option.isNone_some, Bool.false_eq_true, if_false, Option.bind_some]
    rw [h.tu, if_pos (by omega), e1]
    simp only [Option.bind_some]
    rw [h.br, if_pos (by omega), h.tu, w64 (by omega) (by omega), Int.toNat_natCast]
    have hmod : (((t % b : Nat) : Int) + 1).tmod (b : Int) = (((t + 1) % b : Nat) : Int) := by
      rw [Int.tmod_eq_emod_of_nonneg (by omega), show ((t % b : Nat) : Int) + 1 = ((t % b + 1 : Nat) : Int) by omega]
      rw [show ((t % b + 1 : Nat) : Int) % (b : Int) = (((t % b + 1) % b : Nat) : Int) from rfl, Nat.mod_add_mod]
    rw [hmod]
    congr 2
    rw [hqx]
    have hlt : 0 < ((hist L b inp (t % b) (t / b + 1)).drop (t / b)).length := by rw [List.length_drop, hist_len]; omega
    rw [show (0 : Int) = ((0 : Nat) : Int) from rfl, gt_nat hlt]
    simp only [List.getElem_drop, Nat.add_zero]
    unfold outp hist
    split
    · rename_i hlt2
      rw [List.getElem_append_left (by simpa using hlt2)]; simp
    · rename_i hge
      rw [List.getElem_append_right (by simpa using hge)]
      simp only [List.length_replicate, List.getElem_map, List.getElem_range]
      congr 1
      have hq : t = t / b * b + t % b := by rw [Nat.mul_comm]; omega
      rw [Nat.sub_mul]
      have := Nat.mul_le_mul_right b (show L (t % b) ≤ t / b by omega)
      omega
  · refine ⟨by simpa using h.len, h.br, h.st, rfl, fun i hi => ?_⟩
    rw [cn_next (by omega) hi]
    by_cases hie : i = t % b
    · subst hie
      have hself : gt (s.1.set (t % b) r') ((t % b : Nat) : Int) = r' := by
        have := gt_set_self (xs := s.1) (i := ((t % b : Nat) : Int)) (y := r') (by omega) (by rw [h.len]; omega)
        rwa [Int.toNat_natCast] at this
      simp only [if_true]
      rw [hself]
      refine ⟨e2, by rw [e4, o2], ?_⟩
      rw [e3, hqx, hc, List.drop_drop]
    · have hne : gt (s.1.set (t % b) r') (i : Int) = gt s.1 (i : Int) := by
        have := gt_set_ne (xs := s.1) (i := ((t % b : Nat) : Int)) (j := (i : Int)) (y := r') (by omega) (by omega) (by omega)
        rwa [Int.toNat_natCast] at this
      simp only [hie, if_false]
      rw [hne]
      exact h.ok i hi

theorem start_inv {L : Nat → Nat} {b n : Nat} (inp : Nat → Int) (hb : 1 ≤ b) (hb2 : b ≤ 64) :
    LInv L b n inp 0 ((List.range 64).map fun i => if i < b then (List.replicate (L i) 0, 0) else ([], 0), (b : Int), (n : Int), 0) := by
  refine ⟨by simp, rfl, rfl, by simp, fun i hi => ?_⟩
  have hg : gt ((List.range 64).map fun i => if i < b then ((List.replicate (L i) 0, 0) : Rg) else ([], 0)) (i : Int) = (List.replicate (L i) 0, 0) := by
    rw [gt_nat (by simp; omega)]; simp [hi]
  simp only
  rw [hg]
  have hc : cn b 0 i = 0 := by unfold cn; exact Nat.div_eq_of_lt (by omega)
  refine ⟨⟨by simp, ?_⟩, by simp, by rw [hc]; simp [qu, hist]⟩
  rcases Nat.eq_zero_or_pos (L i) with h | h
  · left; simp [h]
  · right; simp; omega

theorem new_some (b n : Nat) (hb : 1 ≤ b) (hb2 : b ≤ 64) (hn : 1 ≤ n) (hn2 : n ≤ 64) :
    f_weave_New (b : Int) (n : Int) = some (some ((List.range 64).map fun i => if i < b then (List.replicate (i * n) 0, 0) else ([], 0), (b : Int), (n : Int), 0), 0) := by
  unfold f_weave_New f_weave_made
  rw [if_neg (by simp; omega)]
  have key := loop_for (f := f_weave_made.s1 (b : Int) (n : Int)) b (fun k => (((List.range 64).map fun i => if i < k then ((List.replicate (i * n) 0, 0) : Rg) else ([], 0), (b : Int), (n : Int), (0 : Int)) : LoomS))
    ((List.range 64).map fun i => if i < b then (List.replicate (i * n) 0, 0) else ([], 0), (b : Int), (n : Int), (0 : Int)) (fun k hk => ?_) ?_
  · have e0 : ((List.range 64).map fun i => if i < 0 then ((List.replicate (i * n) 0, 0) : Rg) else ([], 0)) = List.replicate 64 ([], 0) := by rfl
    rw [e0] at key
    rw [key]; rfl
  · simp only [f_weave_made.s1, f_weave_made.s1c, f_weave_New_1, Option.bind_some]
    have hkn : k * n ≤ 4096 := Nat.mul_le_mul (show k ≤ 64 by omega) hn2
    have hp : (k : Int) * (n : Int) = ((k * n : Nat) : Int) := (Int.natCast_mul k n).symm
    rw [if_pos (by simpa using hk), hp, w64 (by omega) (by omega), if_pos (by omega), if_pos (by omega), w64 (x := (k : Int) + 1) (by omega) (by omega), Int.toNat_natCast, Int.toNat_natCast]
    have hg : (gt ((List.range 64).map fun i => if i < k then ((List.replicate (i * n) 0, 0) : Rg) else ([], 0)) (k : Int)).2 = 0 := by
      rw [gt_nat (by simp; omega)]; simp
    rw [hg]
    refine congrArg (fun r : List Rg => some (Sum.inl ((r, (b : Int), (n : Int), (0 : Int)), (k : Int) + 1))) ?_
    apply List.ext_getElem
    · simp
    · intro i h1 h2
      simp only [List.length_set, List.length_map, List.length_range] at h1
      rw [List.getElem_set]
      simp only [List.getElem_map, List.getElem_range]
      split
      · rename_i h; subst h; simp
      · rename_i h
        by_cases h3 : i < k
        · rw [if_pos h3, if_pos (by omega)]
        · rw [if_neg h3, if_neg (by omega)]
  · simp only [f_weave_made.s1, f_weave_made.s1c]
    rw [if_neg (by simp)]

theorem run_inv {L : Nat → Nat} {b n t : Nat} {inp : Nat → Int} {s : LoomS} (h : LInv L b n inp t s) (hb : 1 ≤ b) (hb2 : b ≤ 64) (hL : ∀ i, i < b → L i ≤ 65536) (str : ByteArray) (hs : str.size ≤ 32768)
    (hin : ∀ j : Nat, j < str.size → inp (t + j) = gt (sbytes str) (j : Int)) :
    ∃ s', f_weave_Loom_Run (some s) str = some (bstr ((List.range str.size).map fun j => outp L b inp (t + j)), 0, some s') ∧ LInv L b n inp (t + str.size) s' := by
  have hsl := sbytes_len str
  have key : ∀ (k j : Nat) (s : LoomS) (out : List Int), j + k = str.size → LInv L b n inp (t + j) s → out = (List.range j).map (fun j => outp L b inp (t + j)) →
      ∃ s', loop (f_weave_Loom_Run.s1 str) (some s, out, (j : Int)) = some (some s', (List.range str.size).map fun j => outp L b inp (t + j)) ∧ LInv L b n inp (t + str.size) s' := by
    intro k
    induction k with
    | zero =>
      intro j s out hj hi ho
      refine ⟨s, loop_done ?_, by rw [show str.size = j by omega]; exact hi⟩
      simp only [f_weave_Loom_Run.s1, f_weave_Loom_Run.s1c]
      rw [if_neg (by simp; omega), ho, show str.size = j by omega]
    | succ k ih =>
      intro j s out hj hi ho
      obtain ⟨s', e1, e2⟩ := push_inv hi hb hb2 hL
      rw [hin j (by omega)] at e1
      obtain ⟨s'', e3, e4⟩ := ih (j + 1) s' (out ++ [outp L b inp (t + j)]) (by omega) e2 (by rw [ho, List.range_succ, List.map_append]; rfl)
      refine ⟨s'', ?_, e4⟩
      rw [loop_step (s' := (some s', out ++ [outp L b inp (t + j)], ((j + 1 : Nat) : Int)))]
      · exact e3
      · simp only [f_weave_Loom_Run.s1, f_weave_Loom_Run.s1c]
        have hol : out.length = j := by rw [ho]; simp
        rw [if_pos (by simp; omega), if_pos (by omega), e1]
        simp only [Option.bind_some]
        rw [if_pos (by simp; omega), w64 (by omega) (by omega)]; rfl
  obtain ⟨s', e1, e2⟩ := key str.size 0 s [] (by omega) h rfl
  refine ⟨s', ?_, e2⟩
  unfold f_weave_Loom_Run
  simp only [Option.isNone_some, Bool.false_eq_true, if_false, Option.bind_some]
  rw [if_neg (by simp; omega), if_pos (by omega), if_pos (by omega)]
  have e0 : List.replicate ((0 : Int)).toNat (0 : Int) = [] := rfl
  rw [e0, show (0 : Int) = ((0 : Nat) : Int) from rfl, e1]
  rfl
theorem delay_some {L : Nat → Nat} {b n t : Nat} {inp : Nat → Int} {s : LoomS} (h : LInv L b n inp t s) (hb : 1 ≤ b) (hb2 : b ≤ 64) (hn2 : n ≤ 64) : f_weave_Loom_Delay (some s) = some ((b * (b - 1) * n : Nat) : Int) := by
  unfold f_weave_Loom_Delay
  simp only [Option.isNone_some, Bool.false_eq_true, if_false, Option.bind_some]
  have h1 : b * (b - 1) ≤ 4032 := Nat.mul_le_mul hb2 (show b - 1 ≤ 63 by omega)
  have h2 : b * (b - 1) * n ≤ 258048 := Nat.mul_le_mul h1 hn2
  rw [h.br, h.st, w64 (x := (b : Int) - 1) (by omega) (by omega), show (b : Int) - 1 = ((b - 1 : Nat) : Int) by omega, ← Int.natCast_mul, w64 (x := ((b * (b - 1) : Nat) : Int)) (by omega) (by omega), ← Int.natCast_mul, w64 (by omega) (by omega)]

/-! ### awake -/
theorem in_some (words : List ByteArray) (m : Nat) (h0 : 0 < words.length) (hl : words.length ≤ 255) (hm0 : 1 ≤ m) (hm255 : m ≤ 255) (hm : ∀ i : Nat, i < words.length → (gt words (i : Int)).size = m) :
    f_weave_In words = some (bstr (wov words m), 0) := by
  have h00 := hm 0 h0
  have hmn : m * words.length ≤ 65025 := Nat.mul_le_mul hm255 hl
  have hp : (m : Int) * (words.length : Int) = ((m * words.length : Nat) : Int) := (Int.natCast_mul m words.length).symm
  obtain ⟨r, e1, e2⟩ := own_s1 words m h0 hl hm255 h00
  cases r with
  | inr q => obtain ⟨_, i, hi, hne⟩ := e2; exact absurd (hm i hi) hne
  | inl q =>
    obtain ⟨rfl, _⟩ := e2
    have hrl := rows_len words m words.length hm
    unfold f_weave_In f_weave_may
    rw [show gt words (0 : Int) = gt words ((0 : Nat) : Int) from rfl, h00]
    rw [if_neg (fun h => by have := beq_iff_eq.1 h; omega), if_pos (by omega)]
    simp only [Option.bind_some]
    rw [if_neg (by simp; omega), if_pos (by omega), hp, w64 (by omega) (by omega), if_pos (by omega), Int.toNat_natCast, e1]
    simp only [Option.bind_some, sm]
    rw [if_pos (by rw [hrl, Nat.mul_comm]; omega)]
    have e : List.replicate ((0 : Int)).toNat (0 : Int) = [] := rfl
    rw [e, own_s2 words m h0 hl hm255 hm]
    rfl
def aw2 : List ByteArray := [(ByteArray.mk #[97, 98, 99]), (ByteArray.mk #[100, 101, 102])]
def aw4 : ByteArray := ByteArray.mk #[97, 98, 99, 100]
theorem awake_true : f_foghornlaw17_awake = some true := by
  have h1 : f_weave_In aw2 = some (bstr (wov aw2 3), 0) := in_some aw2 3 (by decide) (by decide) (by decide) (by decide) (by decide)
  have h2 := new_some 2 1 (by omega) (by omega) (by omega) (by omega)
  have h3 := start_inv (L := fun i => i * 1) (b := 2) (n := 1) (fun j => gt (sbytes aw4) (j : Int)) (by omega) (by omega)
  obtain ⟨s', e1, e2⟩ := run_inv h3 (by omega) (by omega) (fun i hi => by omega) aw4 (by decide) (fun j hj => by rw [Nat.zero_add])
  have k1 : seq (bstr (wov aw2 3)) (ByteArray.mk #[97, 100, 98, 101, 99, 102]) = true := by decide +kernel
  have k2 : seq (bstr ((List.range aw4.size).map fun j => outp (fun i => i * 1) 2 (fun j => gt (sbytes aw4) (j : Int)) (0 + j))) (ByteArray.mk #[97, 0, 99, 98]) = true := by decide +kernel
  unfold f_foghornlaw17_awake
  rw [show [(ByteArray.mk #[97, 98, 99]), (ByteArray.mk #[100, 101, 102])] = aw2 from rfl, h1]
  simp only [Option.bind_some]
  rw [show (2 : Int) = ((2 : Nat) : Int) from rfl, show (1 : Int) = ((1 : Nat) : Int) from rfl, h2]
  simp only [Option.bind_some]
  rw [k1, if_neg (by decide), show ByteArray.mk #[97, 98, 99, 100] = aw4 from rfl, e1]
  simp only [Option.bind_some]
  rw [k2]
  rfl
theorem nmod (x : Int) (k : Nat) (hk : 1 ≤ k) (hk2 : k ≤ 1000000) : ∃ n : Nat, n < k ∧ (IntKind.i64.wrap (x.tmod (k : Int) + (k : Int))).tmod (k : Int) = (n : Int) := by
  have h1 := Int.tmod_lt_of_pos x (show (0 : Int) < (k : Int) by omega)
  have h2 : -(k : Int) < x.tmod (k : Int) := by
    have := Int.tmod_lt_of_pos (-x) (show (0 : Int) < (k : Int) by omega)
    rw [Int.neg_tmod] at this; omega
  rw [w64 (by omega) (by omega), Int.tmod_eq_emod_of_nonneg (by omega)]
  have h3 := Int.emod_nonneg (x.tmod (k : Int) + (k : Int)) (show (k : Int) ≠ 0 by omega)
  have h4 := Int.emod_lt_of_pos (x.tmod (k : Int) + (k : Int)) (show (0 : Int) < (k : Int) by omega)
  exact ⟨((x.tmod (k : Int) + (k : Int)) % (k : Int)).toNat, by omega, by omega⟩

/-! ### The law -/
theorem undo_some (b n : Nat) (hb : 1 ≤ b) (hb2 : b ≤ 64) (hn : 1 ≤ n) (hn2 : n ≤ 64) :
    f_weave_Undo (b : Int) (n : Int) = some (some ((List.range 64).map fun i => if i < b then (List.replicate ((b - 1 - i) * n) 0, 0) else ([], 0), (b : Int), (n : Int), 0), 0) := by
  unfold f_weave_Undo f_weave_made_40
  rw [if_neg (by simp; omega)]
  have key := loop_for (f := f_weave_made_40.s1 (b : Int) (n : Int) (b : Int)) b (fun k => (((List.range 64).map fun i => if i < k then ((List.replicate ((b - 1 - i) * n) 0, 0) : Rg) else ([], 0), (b : Int), (n : Int), (0 : Int)) : LoomS))
    ((List.range 64).map fun i => if i < b then (List.replicate ((b - 1 - i) * n) 0, 0) else ([], 0), (b : Int), (n : Int), (0 : Int)) (fun k hk => ?_) ?_
  · have e0 : ((List.range 64).map fun i => if i < 0 then ((List.replicate ((b - 1 - i) * n) 0, 0) : Rg) else ([], 0)) = List.replicate 64 ([], 0) := by rfl
    rw [e0] at key
    rw [key]; rfl
  · simp only [f_weave_made_40.s1, f_weave_made_40.s1c, f_weave_Undo_1, Option.bind_some]
    have hkn : (b - 1 - k) * n ≤ 4096 := Nat.mul_le_mul (show b - 1 - k ≤ 64 by omega) hn2
    have hp : ((b - 1 - k : Nat) : Int) * (n : Int) = (((b - 1 - k) * n : Nat) : Int) := (Int.natCast_mul (b - 1 - k) n).symm
    rw [if_pos (by simpa using hk), w64 (x := (b : Int) - 1) (by omega) (by omega), w64 (x := (b : Int) - 1 - (k : Int)) (by omega) (by omega), show (b : Int) - 1 - (k : Int) = ((b - 1 - k : Nat) : Int) by omega, hp, w64 (by omega) (by omega), if_pos (by omega), if_pos (by omega), w64 (x := (k : Int) + 1) (by omega) (by omega), Int.toNat_natCast, Int.toNat_natCast]
    have hg : (gt ((List.range 64).map fun i => if i < k then ((List.replicate ((b - 1 - i) * n) 0, 0) : Rg) else ([], 0)) (k : Int)).2 = 0 := by
      rw [gt_nat (by simp; omega)]; simp
    rw [hg]
    refine congrArg (fun r : List Rg => some (Sum.inl ((r, (b : Int), (n : Int), (0 : Int)), (k : Int) + 1))) ?_
    apply List.ext_getElem
    · simp
    · intro i h1 h2
      simp only [List.length_set, List.length_map, List.length_range] at h1
      rw [List.getElem_set]
      simp only [List.getElem_map, List.getElem_range]
      split
      · rename_i h; subst h; simp
      · rename_i h
        by_cases h3 : i < k
        · rw [if_pos h3, if_pos (by omega)]
        · rw [if_neg h3, if_neg (by omega)]
  · simp only [f_weave_made_40.s1, f_weave_made_40.s1c]
    rw [if_neg (by simp)]

theorem both (b n : Nat) (hb : 1 ≤ b) (inp : Nat → Int) (t : Nat) :
    outp (fun i => (b - 1 - i) * n) b (outp (fun i => i * n) b inp) t = if t < (b - 1) * n * b then 0 else inp (t - (b - 1) * n * b) := by
  have hm := Nat.mod_lt t (show 0 < b by omega)
  have hsplit : (b - 1 - t % b) * n + t % b * n = (b - 1) * n := by rw [← Nat.add_mul]; congr 1; omega
  have hdl : t < (b - 1) * n * b ↔ t / b < (b - 1) * n := (Nat.div_lt_iff_lt_mul (by omega)).symm
  have hdm := Nat.div_add_mod t b
  unfold outp
  show (if t / b < (b - 1 - t % b) * n then 0 else if (t - (b - 1 - t % b) * n * b) / b < (t - (b - 1 - t % b) * n * b) % b * n then 0 else inp (t - (b - 1 - t % b) * n * b - (t - (b - 1 - t % b) * n * b) % b * n * b)) = _
  generalize hc : t / b = c at *
  generalize hi : t % b = i at *
  generalize hk : (b - 1 - i) * n = k at *
  by_cases h1 : c < k
  · rw [if_pos h1, if_pos (hdl.2 (by omega))]
  · rw [if_neg h1]
    have hle : k * b ≤ c * b := Nat.mul_le_mul_right b (by omega)
    have e0 : t = c * b + i := by rw [Nat.mul_comm]; exact hdm.symm
    have e1 : t - k * b = (c - k) * b + i := by rw [Nat.sub_mul]; omega
    have e2 : (t - k * b) % b = i := by rw [e1, Nat.mul_comm, Nat.mul_add_mod, Nat.mod_eq_of_lt hm]
    have e3 : (t - k * b) / b = c - k := by rw [e1, Nat.mul_comm, Nat.mul_add_div (by omega), Nat.div_eq_of_lt hm]; rfl
    rw [e2, e3]
    by_cases h2 : c - k < i * n
    · rw [if_pos h2, if_pos (hdl.2 (by omega))]
    · rw [if_neg h2, if_neg (fun h => by have := hdl.1 h; omega)]
      congr 1
      have e4 : (b - 1) * n * b = k * b + i * n * b := by rw [← hsplit, Nat.add_mul]
      omega

theorem bstr_size (xs : List Int) : (bstr xs).size = xs.length := by simp [bstr, ByteArray.size]
theorem bstr_sbytes (s : ByteArray) : bstr (sbytes s) = s := by
  unfold bstr sbytes
  have : (List.map (fun n : Int => UInt8.ofNat n.toNat) (List.map (fun b : UInt8 => (b.toNat : Int)) s.data.toList)) = s.data.toList := by
    rw [List.map_map]
    conv => rhs; rw [← List.map_id s.data.toList]
    apply List.map_congr_left
    intro x _
    simp
  rw [this]
theorem sbytes_bstr (xs : List Int) (h : ∀ x ∈ xs, 0 ≤ x ∧ x < 256) : sbytes (bstr xs) = xs := by
  unfold bstr sbytes
  simp only [List.map_map]
  conv => rhs; rw [← List.map_id xs]
  apply List.map_congr_left
  intro x hx
  obtain ⟨h0, h1⟩ := h x hx
  simp only [Function.comp, id, UInt8.toNat_ofNat']
  omega
theorem sbytes_mem (s : ByteArray) : ∀ x ∈ sbytes s, 0 ≤ x ∧ x < 256 := by
  intro x hx
  obtain ⟨b, _, rfl⟩ := List.mem_map.1 hx
  have := b.toNat_lt
  omega
theorem sbytes_app (s t : ByteArray) : sbytes (s ++ t) = sbytes s ++ sbytes t := by
  unfold sbytes
  simp
theorem sbytes_ext (s : ByteArray) (a b : Nat) : sbytes (s.extract a b) = ((sbytes s).drop a).take (b - a) := by
  unfold sbytes
  rw [ByteArray.data_extract]
  simp
theorem gt_nonneg {xs : List Int} (h : ∀ x ∈ xs, 0 ≤ x ∧ x < 256) (i : Nat) : 0 ≤ gt xs (i : Int) ∧ gt xs (i : Int) < 256 := by
  by_cases hi : i < xs.length
  · exact h _ (gt_mem (by omega) (by omega))
  · unfold gt
    rw [List.getD_eq_getElem?_getD, List.getElem?_eq_none (by omega)]
    exact ⟨Int.le_refl _, by decide⟩
theorem outp_range (L : Nat → Nat) (b : Nat) (inp : Nat → Int) (h : ∀ t, 0 ≤ inp t ∧ inp t < 256) (t : Nat) : 0 ≤ outp L b inp t ∧ outp L b inp t < 256 := by
  unfold outp
  split
  · omega
  · exact h _

theorem delays_j (br st : Int) (cuts : List Int) (hcl : cuts.length * 8 ≤ 140737488351232) (s : ByteArray) (hs : s.size ≤ 2000) : f_foghornlaw17_WeaveDelays.j1 br st cuts s = some true := by
  obtain ⟨b', b1, b2⟩ := nmod br 20 (by omega) (by omega)
  obtain ⟨n', n1, n2⟩ := nmod st 20 (by omega) (by omega)
  obtain ⟨b, hb⟩ : ∃ b : Nat, b = 1 + b' := ⟨_, rfl⟩
  obtain ⟨n, hn⟩ : ∃ n : Nat, n = 1 + n' := ⟨_, rfl⟩
  have hbw : IntKind.i64.wrap (1 + (IntKind.i64.wrap (br.tmod 20 + 20)).tmod 20) = (b : Int) := by
    rw [show (IntKind.i64.wrap (br.tmod 20 + 20)).tmod 20 = (b' : Int) from b2, w64 (by omega) (by omega)]; omega
  have hnw : IntKind.i64.wrap (1 + (IntKind.i64.wrap (st.tmod 20 + 20)).tmod 20) = (n : Int) := by
    rw [show (IntKind.i64.wrap (st.tmod 20 + 20)).tmod 20 = (n' : Int) from n2, w64 (by omega) (by omega)]; omega
  have k1 := new_some b n (by omega) (by omega) (by omega) (by omega)
  have k2 := undo_some b n (by omega) (by omega) (by omega) (by omega)
  obtain ⟨d, hd⟩ : ∃ d : Nat, d = b * (b - 1) * n := ⟨_, rfl⟩
  have hd2 : (b - 1) * n * b = d := by rw [hd, Nat.mul_comm ((b - 1) * n) b, Nat.mul_assoc]
  obtain ⟨inp, hinp⟩ : ∃ f : Nat → Int, f = fun t : Nat => gt (sbytes (s ++ bstr (List.replicate d 0))) (t : Int) := ⟨_, rfl⟩
  have i1 := start_inv (L := fun i => i * n) (b := b) (n := n) inp (by omega) (by omega)
  have i2 := start_inv (L := fun i => (b - 1 - i) * n) (b := b) (n := n) (outp (fun i => i * n) b inp) (by omega) (by omega)
  have d1 := delay_some i1 (by omega) (by omega) (by omega)
  have d2 := delay_some i2 (by omega) (by omega) (by omega)
  rw [← hd] at d1 d2
  unfold f_foghornlaw17_WeaveDelays.j1
  rw [hbw, hnw, k1]
  simp only [Option.bind_some]
  rw [k2]
  simp only [Option.bind_some, bne_self_eq_false, Bool.or_self, Bool.false_eq_true, if_false]
  rw [d1, d2]
  simp only [Option.bind_some, bne_self_eq_false, Bool.false_eq_true, if_false]
  by_cases h8 : 8000 < d
  · rw [if_pos (by simp; omega)]
  rw [if_neg (by simp; omega), if_pos (by omega), Int.toNat_natCast, if_pos (by rw [bstr_size, List.length_replicate]; omega)]
  obtain ⟨wh, hwh⟩ : ∃ wh : ByteArray, wh = s ++ bstr (List.replicate d 0) := ⟨_, rfl⟩
  rw [← hwh] at hinp ⊢
  have hsb : sbytes wh = sbytes s ++ List.replicate d 0 := by
    rw [hwh, sbytes_app, sbytes_bstr _ (fun x hx => by have := List.eq_of_mem_replicate hx; omega)]
  have hsl := sbytes_len s
  have hwl : wh.size = s.size + d := by rw [← sbytes_len, hsb]; simp [hsl]
  have hir : ∀ t, 0 ≤ inp t ∧ inp t < 256 := fun t => by rw [hinp]; exact gt_nonneg (sbytes_mem wh) t
  have ho1 := outp_range (fun i => i * n) b inp hir
  have ho2 := outp_range (fun i => (b - 1 - i) * n) b (outp (fun i => i * n) b inp) ho1
  have hL1 : ∀ i, i < b → (fun i => i * n) i ≤ 65536 := fun i hi => by
    have : i * n ≤ 20 * 20 := Nat.mul_le_mul (by omega) (by omega)
    show i * n ≤ 65536; omega
  have hL2 : ∀ i, i < b → (fun i => (b - 1 - i) * n) i ≤ 65536 := fun i hi => by
    have : (b - 1 - i) * n ≤ 20 * 20 := Nat.mul_le_mul (by omega) (by omega)
    show (b - 1 - i) * n ≤ 65536; omega
  obtain ⟨o2, ho⟩ : ∃ f : Nat → Int, f = outp (fun i => (b - 1 - i) * n) b (outp (fun i => i * n) b inp) := ⟨_, rfl⟩
  rw [← ho] at ho2
  -- the rounds
  have key : ∃ r, loop (f_foghornlaw17_WeaveDelays.s1 s cuts (d : Int)) (some ((List.range 64).map fun i => if i < b then (List.replicate (i * n) 0, 0) else ([], 0), (b : Int), (n : Int), 0),
      some ((List.range 64).map fun i => if i < b then (List.replicate ((b - 1 - i) * n) 0, 0) else ([], 0), (b : Int), (n : Int), 0), [], (0 : Int), (0 : Int)) = some r ∧ r = .inl ((List.range wh.size).map o2) := by
    refine loop_inv (f := f_foghornlaw17_WeaveDelays.s1 s cuts (d : Int)) (fun x => ∃ (sa sb : LoomS) (at' i : Nat), x = (some sa, some sb, (List.range at').map o2, (at' : Int), (i : Int)) ∧ at' ≤ wh.size ∧ i ≤ at' ∧
        LInv (fun i => i * n) b n inp at' sa ∧ LInv (fun i => (b - 1 - i) * n) b n (outp (fun i => i * n) b inp) at' sb)
      (fun x => wh.size - x.2.2.2.1.toNat) (fun r => r = .inl ((List.range wh.size).map o2)) ?_ _ ⟨_, _, 0, 0, rfl, by omega, by omega, i1, i2⟩
    rintro x ⟨sa, sb, at', i, rfl, h1, h2, ia, ib⟩
    simp only [f_foghornlaw17_WeaveDelays.s1, f_foghornlaw17_WeaveDelays.s1c, Int.toNat_natCast, ← hwh]
    by_cases hlt : at' < wh.size
    · left
      rw [if_pos (by simpa using hlt)]
      -- one piece
      have piece : ∀ m : Nat, 1 ≤ m → at' + m ≤ wh.size → ∃ sa' sb' : LoomS, f_foghornlaw17_WeaveDelays.j2 s (d : Int) (some sa) (some sb) ((List.range at').map o2) (at' : Int) (i : Int) (m : Int) =
          some (Sum.inl (some sa', some sb', (List.range (at' + m)).map o2, ((at' + m : Nat) : Int), ((i + 1 : Nat) : Int))) ∧
          LInv (fun i => i * n) b n inp (at' + m) sa' ∧ LInv (fun i => (b - 1 - i) * n) b n (outp (fun i => i * n) b inp) (at' + m) sb' := by
        intro m hm1 hm2
        have hxb : sbytes (wh.extract at' (at' + m)) = ((sbytes wh).drop at').take m := by rw [sbytes_ext]; congr 1; omega
        have hwsl := sbytes_len wh
        have hxs : (wh.extract at' (at' + m)).size = m := by rw [← sbytes_len, hxb]; simp; omega
        obtain ⟨sa', e1, e2⟩ := run_inv ia (by omega) (by omega) hL1 (wh.extract at' (at' + m)) (by omega) (fun j hj => by
          rw [hxb, hinp]
          simp only
          rw [gt_nat (xs := ((sbytes wh).drop at').take m) (by simp; omega), gt_nat (by omega)]
          simp)
        rw [hxs] at e1 e2
        have hmid : ∀ x ∈ (List.range m).map (fun j => outp (fun i => i * n) b inp (at' + j)), 0 ≤ x ∧ x < 256 := fun x hx => by
          obtain ⟨j, _, rfl⟩ := List.mem_map.1 hx
          exact ho1 _
        obtain ⟨sb', e3, e4⟩ := run_inv ib (by omega) (by omega) hL2 (bstr ((List.range m).map fun j => outp (fun i => i * n) b inp (at' + j))) (by rw [bstr_size]; simp; omega) (fun j hj => by
          rw [bstr_size] at hj
          rw [sbytes_bstr _ hmid, gt_nat hj]
          simp)
        rw [bstr_size, List.length_map, List.length_range] at e3 e4
        rw [← ho] at e3
        refine ⟨sa', sb', ?_, e2, e4⟩
        unfold f_foghornlaw17_WeaveDelays.j2
        simp only [Int.toNat_natCast, ← hwh]
        rw [w64 (x := (at' : Int) + (m : Int)) (by omega) (by omega), if_pos (by omega), show ((at' : Int) + (m : Int)).toNat = at' + m by omega, e1]
        simp only [Option.bind_some]
        rw [e3]
        simp only [Option.bind_some, bne_self_eq_false, Bool.or_self, Bool.false_or]
        rw [bstr_size, List.length_map, List.length_range, if_neg (by simp), if_pos (by simp; omega), w64 (x := (i : Int) + 1) (by omega) (by omega), sbytes_bstr _ (fun x hx => by
          obtain ⟨j, _, rfl⟩ := List.mem_map.1 hx
          exact ho2 _)]
        congr 6
        rw [List.range_add, List.map_append, List.map_map]
        rfl
      have hrest : IntKind.i64.wrap ((wh.size : Int) - (at' : Int)) = ((wh.size - at' : Nat) : Int) := by rw [w64 (by omega) (by omega)]; omega
      have fin : ∀ m : Nat, 1 ≤ m → at' + m ≤ wh.size → ∃ x', f_foghornlaw17_WeaveDelays.j2 s (d : Int) (some sa) (some sb) ((List.range at').map o2) (at' : Int) (i : Int) (m : Int) = some (Sum.inl x') ∧
          (∃ (sa sb : LoomS) (at' i : Nat), x' = (some sa, some sb, (List.range at').map o2, (at' : Int), (i : Int)) ∧ at' ≤ wh.size ∧ i ≤ at' ∧
          LInv (fun i => i * n) b n inp at' sa ∧ LInv (fun i => (b - 1 - i) * n) b n (outp (fun i => i * n) b inp) at' sb) ∧ wh.size - x'.2.2.2.1.toNat < wh.size - at' := by
        intro m hm1 hm2
        obtain ⟨sa', sb', e1, e2, e3⟩ := piece m hm1 hm2
        exact ⟨_, e1, ⟨sa', sb', at' + m, i + 1, rfl, hm2, by omega, e2, e3⟩, by simp only [Int.toNat_natCast]; omega⟩
      rw [hrest]
      by_cases hc : i < cuts.length
      · rw [if_pos (by simpa using hc), if_pos (by omega)]
        obtain ⟨c, c1, c2⟩ := nmod (gt cuts (i : Int)) 50 (by omega) (by omega)
        have hcw : IntKind.i64.wrap (1 + (IntKind.i64.wrap ((gt cuts (i : Int)).tmod 50 + 50)).tmod 50) = ((1 + c : Nat) : Int) := by
          rw [show (IntKind.i64.wrap ((gt cuts (i : Int)).tmod 50 + 50)).tmod 50 = (c : Int) from c2, w64 (by omega) (by omega)]; omega
        rw [hcw]
        unfold imin
        split
        · exact fin (1 + c) (by omega) (by omega)
        · exact fin (wh.size - at') (by omega) (by omega)
      · rw [if_neg (by simpa using hc)]
        exact fin (wh.size - at') (by omega) (by omega)
    · right
      rw [if_neg (by simpa using hlt)]
      exact ⟨_, rfl, by rw [show at' = wh.size by omega]⟩
  obtain ⟨r, e1, rfl⟩ := key
  rw [e1]
  simp only [Option.bind_some, sm, List.length_map, List.length_range, beq_self_eq_true, if_true]
  rw [if_pos (by omega), if_pos (by omega)]
  have hb2 : ∀ t, o2 t = if t < d then 0 else inp (t - d) := fun t => by rw [ho, ← hd2]; exact both b n (by omega) inp t
  have t1 : (((List.range wh.size).map o2).drop 0).take (d - 0) = List.replicate d 0 := by
    apply List.ext_getElem
    · simp; omega
    · intro i h1 h2
      simp only [List.length_replicate] at h2
      simp only [List.drop_zero, List.getElem_take, List.getElem_map, List.getElem_range, List.getElem_replicate]
      rw [hb2, if_pos h2]
  have t2 : (((List.range wh.size).map o2).drop d).take (wh.size - d) = sbytes s := by
    apply List.ext_getElem
    · simp; omega
    · intro i h1 h2
      simp only [List.getElem_take, List.getElem_drop, List.getElem_map, List.getElem_range]
      rw [hb2, if_neg (by omega), show d + i - d = i by omega, hinp]
      simp only
      rw [gt_nat (by rw [hsb]; simp; omega)]
      simp only [hsb]
      rw [List.getElem_append_left h2]
  rw [t1, seq_self]
  simp only [Option.bind_some, if_true]
  rw [if_pos (by omega), t2, bstr_sbytes, seq_self]
  rfl

theorem delays_true (br : Int) (w0 : (Lit.int .i64 br).wf = true) (st : Int) (w1 : (Lit.int .i64 st).wf = true) (s : ByteArray) (r2 : s.size ≤ 140737488351232) (cuts : List Int) (w3 : ∀ x ∈ cuts, (Lit.int .i64 x).wf = true) (r3 : cuts.length * 8 ≤ 140737488351232) :
    f_foghornlaw17_WeaveDelays br st s cuts = some true := by
  unfold f_foghornlaw17_WeaveDelays
  rw [awake_true]
  simp only [Option.bind_some, Bool.not_true, Bool.false_eq_true, if_false]
  split
  · rename_i h
    have h' : (2000 : Int) < (s.size : Int) := of_decide_eq_true h
    rw [if_pos (by omega)]
    refine delays_j br st cuts r3 _ ?_
    have := sbytes_len (s.extract 0 ((2000 : Int)).toNat)
    rw [← this, sbytes_ext]
    have e : ((2000 : Int)).toNat = 2000 := rfl
    rw [e, List.length_take]
    omega
  · rename_i h
    have h' : ¬ (2000 : Int) < (s.size : Int) := fun hh => h (decide_eq_true hh)
    exact delays_j br st cuts r3 s (by omega)

end Go.Proofs.Ythoigfonjpmibaa
