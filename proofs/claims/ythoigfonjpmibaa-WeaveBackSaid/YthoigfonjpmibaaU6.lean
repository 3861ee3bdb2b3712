/- WeaveBack: the plain law. -/
import Derived.Test.YthoigfonjpmibaaG6
import Derived.Test.YthoigfonjpmibaaGlK
set_option linter.unusedVariables false
set_option maxRecDepth 4000
namespace Go.Proofs.Ythoigfonjpmibaa
open GL

theorem seq_self (s : ByteArray) : seq s s = true := by simp [seq]
theorem sbytes_get (s : ByteArray) (i : Nat) (h : i < s.size) : (sbytes s)[i]'(by rw [sbytes_len]; exact h) = bt s i := by
  simp [sbytes, bt, h]
/-- row at of the woven bytes -/
def rowT (words : List ByteArray) (at' : Nat) (i : Nat) : List Int := (List.range i).map fun (w : Nat) => bt (gt words (w : Int)) at'
def wov (words : List ByteArray) (m : Nat) : List Int := (List.range m).flatMap fun (a : Nat) => rowT words a words.length
theorem wov_len (words : List ByteArray) (m : Nat) : (wov words m).length = m * words.length := by
  induction m with
  | zero => simp [wov]
  | succ m ih =>
    have : wov words (m + 1) = wov words m ++ rowT words m words.length := by simp [wov, List.range_succ]
    rw [this, List.length_append, ih]; simp [rowT, Nat.succ_mul]
def rows (words : List ByteArray) (i : Nat) : List Int := (List.range i).flatMap fun (w : Nat) => sbytes (gt words (w : Int))
theorem rows_len (words : List ByteArray) (m : Nat) (i : Nat) (hm : ∀ j : Nat, j < i → (gt words (j : Int)).size = m) : (rows words i).length = i * m := by
  induction i with
  | zero => simp [rows]
  | succ i ih =>
    have : rows words (i + 1) = rows words i ++ sbytes (gt words (i : Int)) := by simp [rows, List.range_succ]
    rw [this, List.length_append, ih fun j hj => hm j (by omega), sbytes_len, hm i (by omega), Nat.succ_mul]
theorem rows_get (words : List ByteArray) (m : Nat) (a : Nat) (ha : a < m) : ∀ (n : Nat) (hm : ∀ j : Nat, j < n → (gt words (j : Int)).size = m) (i : Nat) (hi : i < n), gt (rows words n) ((i * m + a : Nat) : Int) = bt (gt words (i : Int)) a := by
  intro n
  induction n with
  | zero => intro _ i hi; omega
  | succ n ih =>
    intro hm i hi
    have e : rows words (n + 1) = rows words n ++ sbytes (gt words (n : Int)) := by simp [rows, List.range_succ]
    have hl := rows_len words m n fun j hj => hm j (by omega)
    have hl2 := rows_len words m (n + 1) hm
    have hlt : i * m + a < (n + 1) * m := by
      have := Nat.mul_le_mul_right m (show i + 1 ≤ n + 1 by omega)
      rw [Nat.succ_mul] at this; omega
    by_cases hin : i < n
    · have := ih (fun j hj => hm j (by omega)) i hin
      rw [← this]
      have hlt2 : i * m + a < n * m := by
        have := Nat.mul_le_mul_right m (show i + 1 ≤ n by omega)
        rw [Nat.succ_mul] at this; omega
      rw [gt_nat (by rw [hl2]; exact hlt), gt_nat (by rw [hl]; exact hlt2)]
      simp only [e]
      rw [List.getElem_append_left (by rw [hl]; exact hlt2)]
    · obtain rfl : i = n := by omega
      rw [gt_nat (by rw [hl2]; exact hlt)]
      simp only [e]
      rw [List.getElem_append_right (by omega)]
      simp only [hl, Nat.add_sub_cancel_left]
      exact sbytes_get _ _ (by rw [hm i (by omega)]; exact ha)
theorem own_s1 (words : List ByteArray) (m : Nat) (h0 : 0 < words.length) (hl : words.length ≤ 255) (hm255 : m ≤ 255) (h00 : (gt words (0 : Int)).size = m) :
    ∃ r, loop (f_weave_In.s1 words) (List.replicate (m * words.length) (0 : Int), (0 : Int)) = some r ∧ match r with
      | .inl q => q = rows words words.length ∧ ∀ i : Nat, i < words.length → (gt words (i : Int)).size = m
      | .inr q => q = (ByteArray.mk #[], 1) ∧ ∃ i : Nat, i < words.length ∧ (gt words (i : Int)).size ≠ m := by
  refine loop_inv (f := f_weave_In.s1 words) (fun s : List Int × Int => ∃ j : Nat, s.2 = (j : Int) ∧ j ≤ words.length ∧ (∀ i : Nat, i < j → (gt words (i : Int)).size = m) ∧ s.1 = rows words j ++ List.replicate ((words.length - j) * m) 0)
    (fun s => words.length - s.2.toNat)
    (fun r : List Int ⊕ (ByteArray × Int) => match r with
      | .inl q => q = rows words words.length ∧ ∀ i : Nat, i < words.length → (gt words (i : Int)).size = m
      | .inr q => q = (ByteArray.mk #[], 1) ∧ ∃ i : Nat, i < words.length ∧ (gt words (i : Int)).size ≠ m) ?_ _ ⟨0, rfl, by omega, fun i hi => by omega, by simp [rows, Nat.mul_comm]⟩
  rintro ⟨row, t⟩ ⟨j, hj, h1, h2, h3⟩
  simp only at hj h3
  subst hj
  have hrl := rows_len words m j h2
  simp only [f_weave_In.s1, f_weave_In.s1c, h00]
  by_cases ht : j < words.length
  · rw [if_pos (by simpa using ht), if_pos (by omega)]
    have hjm : j * m ≤ 65025 := Nat.mul_le_mul (show j ≤ 255 by omega) hm255
    have hsplit : (words.length - j) * m = m + (words.length - (j + 1)) * m := by
      rw [show words.length - j = (words.length - (j + 1)) + 1 by omega, Nat.succ_mul]; omega
    have hrow : row.length = j * m + (m + (words.length - (j + 1)) * m) := by rw [h3, List.length_append, hrl, List.length_replicate, hsplit]
    by_cases hs : (gt words (j : Int)).size = m
    · rw [if_neg (by simp [hs])]
      have hc : IntKind.i64.wrap ((j : Int) * (m : Int)) = ((j * m : Nat) : Int) := by rw [← Int.natCast_mul]; exact w64 (by omega) (by omega)
      rw [hc, if_pos (by omega), Int.toNat_natCast, hs, if_pos (by omega), w64 (x := (j : Int) + 1) (by omega) (by omega)]
      refine .inl ⟨_, rfl, ⟨j + 1, by simp, by omega, fun i hi => ?_, ?_⟩, by simp; omega⟩
      · by_cases hij : i = j
        · rw [hij, hs]
        · exact h2 i (by omega)
      · have e : rows words (j + 1) = rows words j ++ sbytes (gt words (j : Int)) := by simp [rows, List.range_succ]
        simp only
        rw [h3, e, List.take_append_of_le_length (by omega), List.take_of_length_le (by omega), List.drop_append, hrl]
        simp only [hsplit]
        rw [List.drop_eq_nil_of_le (by omega), List.nil_append, List.drop_replicate]
        congr 2; omega
    · rw [if_pos (by simp; omega)]
      exact .inr ⟨_, rfl, rfl, j, ht, hs⟩
  · obtain rfl : j = words.length := by omega
    rw [if_neg (by simp)]
    exact .inr ⟨_, rfl, by simpa using h3, h2⟩
theorem own_s3 (words : List ByteArray) (a m : Nat) (b : List Int) (hl : words.length ≤ 255) (hm255 : m ≤ 255) (h0 : 0 < words.length) (hm : ∀ i : Nat, i < words.length → (gt words (i : Int)).size = m) (ha : a < m) (hb : b.length ≤ 65025) :
    loop (f_weave_In.s3 words (rows words words.length) (a : Int)) (b, (0 : Int)) = some (b ++ rowT words a words.length) := by
  have h00 : (gt words (0 : Int)).size = m := hm 0 h0
  have := loop_for (f := f_weave_In.s3 words (rows words words.length) (a : Int)) words.length (fun i => b ++ rowT words a i) (b ++ rowT words a words.length) (fun i hi => ?_) ?_
  · simpa [rowT] using this
  · simp only [f_weave_In.s3, f_weave_In.s3c, h00]
    have hjm : i * m ≤ 65025 := Nat.mul_le_mul (show i ≤ 255 by omega) hm255
    have hc : IntKind.i64.wrap ((i : Int) * (m : Int)) = ((i * m : Nat) : Int) := by rw [← Int.natCast_mul]; exact w64 (by omega) (by omega)
    have hc2 : IntKind.i64.wrap (((i * m : Nat) : Int) + (a : Int)) = ((i * m + a : Nat) : Int) := by rw [← Int.natCast_add]; exact w64 (by omega) (by omega)
    have hlt : i * m + a < words.length * m := by
      have := Nat.mul_le_mul_right m (show i + 1 ≤ words.length by omega)
      rw [Nat.succ_mul] at this; omega
    rw [if_pos (by simpa using hi), hc, hc2, rows_get words m a ha words.length hm i hi, if_pos (by rw [rows_len words m words.length hm]; omega), if_pos (by simp [rowT]; omega), w64 (by omega) (by omega)]
    simp [rowT, List.range_succ]
  · simp only [f_weave_In.s3, f_weave_In.s3c]
    rw [if_neg (by simp)]
theorem own_s2 (words : List ByteArray) (m : Nat) (h0 : 0 < words.length) (hl : words.length ≤ 255) (hm255 : m ≤ 255) (hm : ∀ i : Nat, i < words.length → (gt words (i : Int)).size = m) :
    loop (f_weave_In.s2 words (rows words words.length)) ([], (0 : Int)) = some (wov words m) := by
  have h00 : (gt words (0 : Int)).size = m := hm 0 h0
  have := loop_for (f := f_weave_In.s2 words (rows words words.length)) m (fun i => wov words i) (wov words m) (fun i hi => ?_) ?_
  · simpa [wov] using this
  · simp only [f_weave_In.s2, f_weave_In.s2c]
    have hle : i * words.length ≤ 65025 := Nat.mul_le_mul (show i ≤ 255 by omega) hl
    rw [h00, if_pos (by simpa using hi), own_s3 words i m _ hl hm255 h0 hm hi (by rw [wov_len]; exact hle)]
    simp only [Option.bind_some]
    rw [w64 (by omega) (by omega)]
    simp [wov, List.range_succ]
  · simp only [f_weave_In.s2, f_weave_In.s2c]
    rw [h00, if_neg (by simp)]
theorem texts_self (a : List ByteArray) (h : a.length < 140737488351233) : f_foghornref17_Texts a a = some true := by
  unfold f_foghornref17_Texts
  rw [if_neg (by simp)]
  have := loop_same (f := f_foghornref17_Texts.s1 a a) a (fun x y => !seq x y) (by simp [seq_self]) (by omega) false (fun i => rfl)
  rw [this]; rfl
theorem bstr_size (xs : List Int) : (bstr xs).size = xs.length := by simp [bstr, ByteArray.size]
theorem bstr_sbytes (s : ByteArray) : bstr (sbytes s) = s := by
  unfold bstr sbytes
  have : (List.map (fun n : Int => UInt8.ofNat n.toNat) (List.map (fun b : UInt8 => (b.toNat : Int)) s.data.toList)) = s.data.toList := by
    rw [List.map_map]
    conv => rhs; rw [← List.map_id s.data.toList]
    apply List.map_congr_left
    intro x _
    simp
  rw [this]
theorem sbytes_bstr (xs : List Int) (h : ∀ x ∈ xs, 0 ≤ x ∧ x < 256) : sbytes (bstr xs) = xs := by
  unfold bstr sbytes
  simp only [List.map_map]
  conv => rhs; rw [← List.map_id xs]
  apply List.map_congr_left
  intro x hx
  obtain ⟨h0, h1⟩ := h x hx
  simp only [Function.comp, id, UInt8.toNat_ofNat']
  omega
theorem sbytes_mem (s : ByteArray) : ∀ x ∈ sbytes s, 0 ≤ x ∧ x < 256 := by
  intro x hx
  obtain ⟨b, _, rfl⟩ := List.mem_map.1 hx
  have := b.toNat_lt
  omega
/-! ### Rings and looms -/
abbrev Rg := List Int × Int
def qu (r : Rg) : List Int := r.1.drop r.2.toNat ++ r.1.take r.2.toNat
def okR (r : Rg) : Prop := 0 ≤ r.2 ∧ (r.1 = [] ∨ r.2 < (r.1.length : Int))
theorem gt_set_self {α : Type} [Inhabited α] {xs : List α} {i : Int} {y : α} (h0 : 0 ≤ i) (h1 : i < xs.length) : gt (xs.set i.toNat y) i = y := by
  rw [gt_get h0 (by simpa using h1)]; simp
theorem gt_set_ne {α : Type} [Inhabited α] {xs : List α} {i j : Int} {y : α} (h0 : 0 ≤ i) (h1 : 0 ≤ j) (h : i ≠ j) : gt (xs.set i.toNat y) j = gt xs j := by
  unfold gt
  rw [List.getD_eq_getElem?_getD, List.getD_eq_getElem?_getD, List.getElem?_set_ne (by omega)]
theorem set_gt {α : Type} [Inhabited α] {xs : List α} {i : Int} (h0 : 0 ≤ i) (h1 : i < xs.length) : xs.set i.toNat (gt xs i) = xs := by
  apply List.ext_getElem?
  intro j
  by_cases hj : i.toNat = j
  · subst hj; rw [List.getElem?_set_self (by omega), gt_of h0 h1]
  · rw [List.getElem?_set_ne hj]
theorem qu_len (r : Rg) : (qu r).length = r.1.length := by simp [qu]; omega

theorem ring_push {s : LoomS} {i x : Int} (hs : s.1.length = 64) (h0 : 0 ≤ i) (h1 : i < 64) (ok : okR (gt s.1 i)) (hl : (gt s.1 i).1.length ≤ 65536) :
    ∃ r' : Rg, f_weave_ring_push s i x = some (gt (qu (gt s.1 i) ++ [x]) 0, (s.1.set i.toNat r', s.2)) ∧ okR r' ∧ qu r' = (qu (gt s.1 i) ++ [x]).drop 1 ∧ r'.1.length = (gt s.1 i).1.length := by
  have hil : i < (s.1.length : Int) := by omega
  unfold f_weave_ring_push
  by_cases he : (gt s.1 i).1.length = 0
  · have hnil : (gt s.1 i).1 = [] := List.eq_nil_of_length_eq_zero he
    rw [if_pos (by simp [he])]
    have hq : qu (gt s.1 i) = [] := List.eq_nil_of_length_eq_zero (by rw [qu_len]; exact he)
    refine ⟨gt s.1 i, ?_, ok, by rw [hq]; rfl, rfl⟩
    rw [hq, set_gt h0 hil]; rfl
  · have hp := ok.2.resolve_left (fun h => he (by rw [h]; rfl))
    have hp0 := ok.1
    rw [if_neg (fun h => by have := beq_iff_eq.1 h; omega), if_pos ⟨hp0, hp⟩, if_pos ⟨hp0, hp⟩]
    have e1 : gt (s.1.set i.toNat ((gt s.1 i).1.set (gt s.1 i).2.toNat x, (gt s.1 i).2), s.2).1 i = ((gt s.1 i).1.set (gt s.1 i).2.toNat x, (gt s.1 i).2) := gt_set_self h0 hil
    rw [e1]
    simp only [List.length_set]
    rw [if_pos (by omega)]
    generalize gt s.1 i = r at *
    obtain ⟨xs, p⟩ := r
    simp only at hp hp0 he hl ⊢
    obtain ⟨p, rfl⟩ : ∃ n : Nat, p = (n : Int) := ⟨p.toNat, by omega⟩
    have hpl : p < xs.length := by omega
    rw [w64 (x := (p : Int) + 1) (by omega) (by omega)]
    have hm : ((p : Int) + 1).tmod (xs.length : Int) = (if p + 1 = xs.length then 0 else (p : Int) + 1) := by
      rw [Int.tmod_eq_emod_of_nonneg (by omega)]
      split
      · rename_i h
        rw [← h]; simp
      · exact Int.emod_eq_of_lt (by omega) (by omega)
    rw [hm]
    refine ⟨(xs.set p x, if p + 1 = xs.length then 0 else (p : Int) + 1), ?_, ⟨by simp only; split <;> omega, .inr (by simp only [List.length_set]; split <;> omega)⟩, ?_, by simp⟩
    · rw [List.set_set]
      congr 2
      simp only [qu, Int.toNat_natCast]
      rw [List.drop_eq_getElem_cons hpl, gt_nat hpl]
      rfl
    · simp only [qu, Int.toNat_natCast]
      have hd : xs.drop p = xs[p] :: xs.drop (p + 1) := List.drop_eq_getElem_cons hpl
      have hset : xs.set p x = xs.take p ++ x :: xs.drop (p + 1) := by rw [List.set_eq_take_append_cons_drop, if_pos hpl]
      have htl : (xs.take p).length = p := by rw [List.length_take]; omega
      split
      · rename_i h
        rw [hd, hset, List.drop_eq_nil_of_le (show xs.length ≤ p + 1 by omega)]
        simp
      · rename_i h
        have ht : ((p : Int) + 1).toNat = p + 1 := by omega
        rw [ht, hd, hset]
        have e2 : (xs.take p ++ x :: xs.drop (p + 1)).drop (p + 1) = xs.drop (p + 1) := by
          rw [List.drop_append, htl, List.drop_eq_nil_of_le (by omega), show p + 1 - p = 1 by omega]; rfl
        have e3 : (xs.take p ++ x :: xs.drop (p + 1)).take (p + 1) = xs.take p ++ [x] := by
          rw [List.take_append, htl, List.take_of_length_le (by omega), show p + 1 - p = 1 by omega]; rfl
        rw [e2, e3, List.cons_append, List.cons_append, List.drop_succ_cons, List.drop_zero, List.append_assoc]

/-- how many bytes branch i had, behind t pushes -/
def cn (b t i : Nat) : Nat := (t + b - 1 - i) / b
theorem cn_val {b d m i : Nat} (hm : m < b) (hi : i < b) : cn b (b * d + m) i = if i < m then d + 1 else d := by
  unfold cn
  split
  · rw [show b * d + m + b - 1 - i = (m - 1 - i) + b * (d + 1) by rw [Nat.mul_succ]; omega, Nat.add_mul_div_left _ _ (by omega), Nat.div_eq_of_lt (by omega)]; omega
  · rw [show b * d + m + b - 1 - i = (m + b - 1 - i) + b * d by omega, Nat.add_mul_div_left _ _ (by omega), Nat.div_eq_of_lt (by omega)]; omega
theorem cn_at {b t : Nat} (hb : 0 < b) : cn b t (t % b) = t / b := by
  have h := Nat.div_add_mod t b
  have := cn_val (d := t / b) (Nat.mod_lt t hb) (Nat.mod_lt t hb)
  rw [h, if_neg (by omega)] at this
  exact this
theorem cn_next {b t i : Nat} (hb : 0 < b) (hi : i < b) : cn b (t + 1) i = if i = t % b then cn b t i + 1 else cn b t i := by
  have h := Nat.div_add_mod t b
  have hm := Nat.mod_lt t hb
  have k1 := cn_val (d := t / b) hm hi
  rw [h] at k1
  generalize t / b = d at *
  generalize t % b = m at *
  by_cases h1 : m + 1 < b
  · have k2 := cn_val (d := d) h1 hi
    rw [show b * d + (m + 1) = t + 1 by omega] at k2
    rw [k1, k2]
    split <;> split <;> split <;> omega
  · have k2 := cn_val (d := d + 1) (show 0 < b by omega) hi
    rw [show b * (d + 1) + 0 = t + 1 by rw [Nat.mul_succ]; omega] at k2
    rw [k1, k2]
    split <;> split <;> split <;> omega

def hist (L : Nat → Nat) (b : Nat) (inp : Nat → Int) (i c : Nat) : List Int := List.replicate (L i) 0 ++ (List.range c).map fun c => inp (c * b + i)
theorem hist_len (L : Nat → Nat) (b : Nat) (inp : Nat → Int) (i c : Nat) : (hist L b inp i c).length = L i + c := by simp [hist]
theorem hist_next (L : Nat → Nat) (b : Nat) (inp : Nat → Int) (i c : Nat) : hist L b inp i c ++ [inp (c * b + i)] = hist L b inp i (c + 1) := by simp [hist, List.range_succ]

structure LInv (L : Nat → Nat) (b n : Nat) (inp : Nat → Int) (t : Nat) (s : LoomS) : Prop where
  len : s.1.length = 64
  br : s.2.1 = (b : Int)
  st : s.2.2.1 = (n : Int)
  tu : s.2.2.2 = ((t % b : Nat) : Int)
  ok : ∀ i : Nat, i < b → okR (gt s.1 (i : Int)) ∧ (gt s.1 (i : Int)).1.length = L i ∧ qu (gt s.1 (i : Int)) = (hist L b inp i (cn b t i)).drop (cn b t i)

def outp (L : Nat → Nat) (b : Nat) (inp : Nat → Int) (t : Nat) : Int := if t / b < L (t % b) then 0 else inp (t - L (t % b) * b)

theorem push_inv {L : Nat → Nat} {b n t : Nat} {inp : Nat → Int} {s : LoomS} (h : LInv L b n inp t s) (hb : 1 ≤ b) (hb2 : b ≤ 64) (hL : ∀ i, i < b → L i ≤ 65536) :
    ∃ s', f_weave_Loom_Push (some s) (inp t) = some (outp L b inp t, 0, some s') ∧ LInv L b n inp (t + 1) s' := by
  have hm := Nat.mod_lt t (show 0 < b by omega)
  have hdm := Nat.div_add_mod t b
  obtain ⟨o1, o2, o3⟩ := h.ok _ hm
  have hLm := hL _ hm
  obtain ⟨r', e1, e2, e3, e4⟩ := ring_push (x := inp t) h.len (i := ((t % b : Nat) : Int)) (by omega) (by omega) o1 (by omega)
  have hc := cn_at (t := t) (show 0 < b by omega)
  have hx : inp t = inp (t / b * b + t % b) := by rw [Nat.mul_comm, hdm]
  have hqx : qu (gt s.1 ((t % b : Nat) : Int)) ++ [inp t] = (hist L b inp (t % b) (t / b + 1)).drop (t / b) := by
    rw [o3, hc, ← hist_next, hx, List.drop_append_of_le_length (by rw [hist_len]; omega)]
  refine ⟨(s.1.set (t % b) r', s.2.1, s.2.2.1, (((t + 1) % b : Nat) : Int)), ?_, ?_⟩
  · unfold f_weave_Loom_Push
    simp only [Option.isNone_some, Bool.false_eq_true, if_false, Option.bind_some]
    rw [h.tu, if_pos (by omega), e1]
    simp only [Option.bind_some]
    rw [h.br, if_pos (by omega), h.tu, w64 (by omega) (by omega), Int.toNat_natCast]
    have hmod : (((t % b : Nat) : Int) + 1).tmod (b : Int) = (((t + 1) % b : Nat) : Int) := by
      rw [Int.tmod_eq_emod_of_nonneg (by omega), show ((t % b : Nat) : Int) + 1 = ((t % b + 1 : Nat) : Int) by omega]
      rw [show ((t % b + 1 : Nat) : Int) % (b : Int) = (((t % b + 1) % b : Nat) : Int) from rfl, Nat.mod_add_mod]
    rw [hmod]
    congr 2
    rw [hqx]
    have hlt : 0 < ((hist L b inp (t % b) (t / b + 1)).drop (t / b)).length := by rw [List.length_drop, hist_len]; omega
    rw [show (0 : Int) = ((0 : Nat) : Int) from rfl, gt_nat hlt]
    simp only [List.getElem_drop, Nat.add_zero]
    unfold outp hist
    split
    · rename_i hlt2
      rw [List.getElem_append_left (by simpa using hlt2)]; simp
    · rename_i hge
      rw [List.getElem_append_right (by simpa using hge)]
      simp only [List.length_replicate, List.getElem_map, List.getElem_range]
      congr 1
      have hq : t = t / b * b + t % b := by rw [Nat.mul_comm]; omega
      rw [Nat.sub_mul]
      have := Nat.mul_le_mul_right b (show L (t % b) ≤ t / b by omega)
      omega
  · refine ⟨by simpa using h.len, h.br, h.st, rfl, fun i hi => ?_⟩
    rw [cn_next (by omega) hi]
    by_cases hie : i = t % b
    · subst hie
      have hself : gt (s.1.set (t % b) r') ((t % b : Nat) : Int) = r' := by
        have := gt_set_self (xs := s.1) (i := ((t % b : Nat) : Int)) (y := r') (by omega) (by rw [h.len]; omega)
        rwa [Int.toNat_natCast] at this
      simp only [if_true]
      rw [hself]
      refine ⟨e2, by rw [e4, o2], ?_⟩
      rw [e3, hqx, hc, List.drop_drop]
    · have hne : gt (s.1.set (t % b) r') (i : Int) = gt s.1 (i : Int) := by
        have := gt_set_ne (xs := s.1) (i := ((t % b : Nat) : Int)) (j := (i : Int)) (y := r') (by omega) (by omega) (by omega)
        rwa [Int.toNat_natCast] at this
      simp only [hie, if_false]
      rw [hne]
      exact h.ok i hi

theorem start_inv {L : Nat → Nat} {b n : Nat} (inp : Nat → Int) (hb : 1 ≤ b) (hb2 : b ≤ 64) :
    LInv L b n inp 0 ((List.range 64).map fun i => if i < b then (List.replicate (L i) 0, 0) else ([], 0), (b : Int), (n : Int), 0) := by
  refine ⟨by simp, rfl, rfl, by simp, fun i hi => ?_⟩
  have hg : gt ((List.range 64).map fun i => if i < b then ((List.replicate (L i) 0, 0) : Rg) else ([], 0)) (i : Int) = (List.replicate (L i) 0, 0) := by
    rw [gt_nat (by simp; omega)]; simp [hi]
  simp only
  rw [hg]
  have hc : cn b 0 i = 0 := by unfold cn; exact Nat.div_eq_of_lt (by omega)
  refine ⟨⟨by simp, ?_⟩, by simp, by rw [hc]; simp [qu, hist]⟩
  rcases Nat.eq_zero_or_pos (L i) with h | h
  · left; simp [h]
  · right; simp; omega

theorem new_some (b n : Nat) (hb : 1 ≤ b) (hb2 : b ≤ 64) (hn : 1 ≤ n) (hn2 : n ≤ 64) :
    f_weave_New (b : Int) (n : Int) = some (some ((List.range 64).map fun i => if i < b then (List.replicate (i * n) 0, 0) else ([], 0), (b : Int), (n : Int), 0), 0) := by
  unfold f_weave_New f_weave_made
  rw [if_neg (by simp; omega)]
  have key := loop_for (f := f_weave_made.s1 (b : Int) (n : Int)) b (fun k => (((List.range 64).map fun i => if i < k then ((List.replicate (i * n) 0, 0) : Rg) else ([], 0), (b : Int), (n : Int), (0 : Int)) : LoomS))
    ((List.range 64).map fun i => if i < b then (List.replicate (i * n) 0, 0) else ([], 0), (b : Int), (n : Int), (0 : Int)) (fun k hk => ?_) ?_
  · have e0 : ((List.range 64).map fun i => if i < 0 then ((List.replicate (i * n) 0, 0) : Rg) else ([], 0)) = List.replicate 64 ([], 0) := by rfl
    rw [e0] at key
    rw [key]; rfl
  · simp only [f_weave_made.s1, f_weave_made.s1c, f_weave_New_1, Option.bind_some]
    have hkn : k * n ≤ 4096 := Nat.mul_le_mul (show k ≤ 64 by omega) hn2
    have hp : (k : Int) * (n : Int) = ((k * n : Nat) : Int) := (Int.natCast_mul k n).symm
    rw [if_pos (by simpa using hk), hp, w64 (by omega) (by omega), if_pos (by omega), if_pos (by omega), w64 (x := (k : Int) + 1) (by omega) (by omega), Int.toNat_natCast, Int.toNat_natCast]
    have hg : (gt ((List.range 64).map fun i => if i < k then ((List.replicate (i * n) 0, 0) : Rg) else ([], 0)) (k : Int)).2 = 0 := by
      rw [gt_nat (by simp; omega)]; simp
    rw [hg]
    refine congrArg (fun r : List Rg => some (Sum.inl ((r, (b : Int), (n : Int), (0 : Int)), (k : Int) + 1))) ?_
    apply List.ext_getElem
    · simp
    · intro i h1 h2
      simp only [List.length_set, List.length_map, List.length_range] at h1
      rw [List.getElem_set]
      simp only [List.getElem_map, List.getElem_range]
      split
      · rename_i h; subst h; simp
      · rename_i h
        by_cases h3 : i < k
        · rw [if_pos h3, if_pos (by omega)]
        · rw [if_neg h3, if_neg (by omega)]
  · simp only [f_weave_made.s1, f_weave_made.s1c]
    rw [if_neg (by simp)]

theorem run_inv {L : Nat → Nat} {b n t : Nat} {inp : Nat → Int} {s : LoomS} (h : LInv L b n inp t s) (hb : 1 ≤ b) (hb2 : b ≤ 64) (hL : ∀ i, i < b → L i ≤ 65536) (str : ByteArray) (hs : str.size ≤ 32768)
    (hin : ∀ j : Nat, j < str.size → inp (t + j) = gt (sbytes str) (j : Int)) :
    ∃ s', f_weave_Loom_Run (some s) str = some (bstr ((List.range str.size).map fun j => outp L b inp (t + j)), 0, some s') ∧ LInv L b n inp (t + str.size) s' := by
  have hsl := sbytes_len str
  have key : ∀ (k j : Nat) (s : LoomS) (out : List Int), j + k = str.size → LInv L b n inp (t + j) s → out = (List.range j).map (fun j => outp L b inp (t + j)) →
      ∃ s', loop (f_weave_Loom_Run.s1 str) (some s, out, (j : Int)) = some (some s', (List.range str.size).map fun j => outp L b inp (t + j)) ∧ LInv L b n inp (t + str.size) s' := by
    intro k
    induction k with
    | zero =>
      intro j s out hj hi ho
      refine ⟨s, loop_done ?_, by rw [show str.size = j by omega]; exact hi⟩
      simp only [f_weave_Loom_Run.s1, f_weave_Loom_Run.s1c]
      rw [if_neg (by simp; omega), ho, show str.size = j by omega]
    | succ k ih =>
      intro j s out hj hi ho
      obtain ⟨s', e1, e2⟩ := push_inv hi hb hb2 hL
      rw [hin j (by omega)] at e1
      obtain ⟨s'', e3, e4⟩ := ih (j + 1) s' (out ++ [outp L b inp (t + j)]) (by omega) e2 (by rw [ho, List.range_succ, List.map_append]; rfl)
      refine ⟨s'', ?_, e4⟩
      rw [loop_step (s' := (some s', out ++ [outp L b inp (t + j)], ((j + 1 : Nat) : Int)))]
      · exact e3
      · simp only [f_weave_Loom_Run.s1, f_weave_Loom_Run.s1c]
        have hol : out.length = j := by rw [ho]; simp
        rw [if_pos (by simp; omega), if_pos (by omega), e1]
        simp only [Option.bind_some]
        rw [if_pos (by simp; omega), w64 (by omega) (by omega)]; rfl
  obtain ⟨s', e1, e2⟩ := key str.size 0 s [] (by omega) h rfl
  refine ⟨s', ?_, e2⟩
  unfold f_weave_Loom_Run
  simp only [Option.isNone_some, Bool.false_eq_true, if_false, Option.bind_some]
  rw [if_neg (by simp; omega), if_pos (by omega), if_pos (by omega)]
  have e0 : List.replicate ((0 : Int)).toNat (0 : Int) = [] := rfl
  rw [e0, show (0 : Int) = ((0 : Nat) : Int) from rfl, e1]
  rfl
/-! ### awake -/
theorem in_some (words : List ByteArray) (m : Nat) (h0 : 0 < words.length) (hl : words.length ≤ 255) (hm0 : 1 ≤ m) (hm255 : m ≤ 255) (hm : ∀ i : Nat, i < words.length → (gt words (i : Int)).size = m) :
    f_weave_In words = some (bstr (wov words m), 0) := by
  have h00 := hm 0 h0
  have hmn : m * words.length ≤ 65025 := Nat.mul_le_mul hm255 hl
  have hp : (m : Int) * (words.length : Int) = ((m * words.length : Nat) : Int) := (Int.natCast_mul m words.length).symm
  obtain ⟨r, e1, e2⟩ := own_s1 words m h0 hl hm255 h00
  cases r with
  | inr q => obtain ⟨_, i, hi, hne⟩ := e2; exact absurd (hm i hi) hne
  | inl q =>
    obtain ⟨rfl, _⟩ := e2
    have hrl := rows_len words m words.length hm
    unfold f_weave_In f_weave_may
    rw [show gt words (0 : Int) = gt words ((0 : Nat) : Int) from rfl, h00]
    rw [if_neg (fun h => by have := beq_iff_eq.1 h; omega), if_pos (by omega)]
    simp only [Option.bind_some]
    rw [if_neg (by simp; omega), if_pos (by omega), hp, w64 (by omega) (by omega), if_pos (by omega), Int.toNat_natCast, e1]
    simp only [Option.bind_some, sm]
    rw [if_pos (by rw [hrl, Nat.mul_comm]; omega)]
    have e : List.replicate ((0 : Int)).toNat (0 : Int) = [] := rfl
    rw [e, own_s2 words m h0 hl hm255 hm]
    rfl
def aw2 : List ByteArray := [(ByteArray.mk #[97, 98, 99]), (ByteArray.mk #[100, 101, 102])]
def aw4 : ByteArray := ByteArray.mk #[97, 98, 99, 100]
theorem awake_true : f_foghornlaw17_awake = some true := by
  have h1 : f_weave_In aw2 = some (bstr (wov aw2 3), 0) := in_some aw2 3 (by decide) (by decide) (by decide) (by decide) (by decide)
  have h2 := new_some 2 1 (by omega) (by omega) (by omega) (by omega)
  have h3 := start_inv (L := fun i => i * 1) (b := 2) (n := 1) (fun j => gt (sbytes aw4) (j : Int)) (by omega) (by omega)
  obtain ⟨s', e1, e2⟩ := run_inv h3 (by omega) (by omega) (fun i hi => by omega) aw4 (by decide) (fun j hj => by rw [Nat.zero_add])
  have k1 : seq (bstr (wov aw2 3)) (ByteArray.mk #[97, 100, 98, 101, 99, 102]) = true := by decide +kernel
  have k2 : seq (bstr ((List.range aw4.size).map fun j => outp (fun i => i * 1) 2 (fun j => gt (sbytes aw4) (j : Int)) (0 + j))) (ByteArray.mk #[97, 0, 99, 98]) = true := by decide +kernel
  unfold f_foghornlaw17_awake
  rw [show [(ByteArray.mk #[97, 98, 99]), (ByteArray.mk #[100, 101, 102])] = aw2 from rfl, h1]
  simp only [Option.bind_some]
  rw [show (2 : Int) = ((2 : Nat) : Int) from rfl, show (1 : Int) = ((1 : Nat) : Int) from rfl, h2]
  simp only [Option.bind_some]
  rw [k1, if_neg (by decide), show ByteArray.mk #[97, 98, 99, 100] = aw4 from rfl, e1]
  simp only [Option.bind_some]
  rw [k2]
  rfl
theorem nmod (x : Int) (k : Nat) (hk : 1 ≤ k) (hk2 : k ≤ 1000000) : ∃ n : Nat, n < k ∧ (IntKind.i64.wrap (x.tmod (k : Int) + (k : Int))).tmod (k : Int) = (n : Int) := by
  have h1 := Int.tmod_lt_of_pos x (show (0 : Int) < (k : Int) by omega)
  have h2 : -(k : Int) < x.tmod (k : Int) := by
    have := Int.tmod_lt_of_pos (-x) (show (0 : Int) < (k : Int) by omega)
    rw [Int.neg_tmod] at this; omega
  rw [w64 (by omega) (by omega), Int.tmod_eq_emod_of_nonneg (by omega)]
  have h3 := Int.emod_nonneg (x.tmod (k : Int) + (k : Int)) (show (k : Int) ≠ 0 by omega)
  have h4 := Int.emod_lt_of_pos (x.tmod (k : Int) + (k : Int)) (show (0 : Int) < (k : Int) by omega)
  exact ⟨((x.tmod (k : Int) + (k : Int)) % (k : Int)).toNat, by omega, by omega⟩

/-! ### The law -/
theorem wov_get (words : List ByteArray) (w a : Nat) (hw : w < words.length) : ∀ m, a < m → gt (wov words m) ((a * words.length + w : Nat) : Int) = bt (gt words (w : Int)) (a : Int)
  | 0, h => by omega
  | m + 1, h => by
    have e : wov words (m + 1) = wov words m ++ rowT words m words.length := by simp [wov, List.range_succ]
    have hl := wov_len words m
    have hr : (rowT words m words.length).length = words.length := by simp [rowT]
    rw [e]
    by_cases ha : a < m
    · have hlt : a * words.length + w < (wov words m).length := by
        rw [hl]
        have := Nat.mul_le_mul_right words.length (show a + 1 ≤ m by omega)
        rw [Nat.succ_mul] at this; omega
      rw [← wov_get words w a hw m ha, gt_nat (by simp; omega), gt_nat hlt, List.getElem_append_left hlt]
    · obtain rfl : a = m := by omega
      rw [gt_nat (by simp [hl, hr]; omega), List.getElem_append_right (by omega)]
      simp only [hl, Nat.add_sub_cancel_left]
      simp [rowT]
theorem bt_range (s : ByteArray) (i : Nat) : 0 ≤ bt s (i : Int) ∧ bt s (i : Int) < 256 := by
  unfold bt
  have := (s.data.toList.getD (i : Int).toNat 0).toNat_lt
  omega
theorem wov_mem (words : List ByteArray) (m : Nat) : ∀ x ∈ wov words m, 0 ≤ x ∧ x < 256 := by
  intro x hx
  unfold wov at hx
  obtain ⟨a, _, ha⟩ := List.mem_flatMap.1 hx
  unfold rowT at ha
  obtain ⟨w, _, rfl⟩ := List.mem_map.1 ha
  exact bt_range _ _
theorem bt_bstr (xs : List Int) (h : ∀ x ∈ xs, 0 ≤ x ∧ x < 256) (i : Nat) (hi : i < xs.length) : bt (bstr xs) (i : Int) = gt xs (i : Int) := by
  rw [gt_nat hi, ← sbytes_get (bstr xs) i (by rw [bstr_size]; exact hi)]
  simp only [sbytes_bstr xs h]
theorem sbytes_bt (s : ByteArray) : sbytes s = (List.range s.size).map fun (a : Nat) => bt s (a : Int) := by
  apply List.ext_getElem
  · rw [sbytes_len]; simp
  · intro i h1 h2
    rw [sbytes_len] at h1
    rw [sbytes_get s i h1]; simp

theorem in_dich (words : List ByteArray) : (∃ m : Nat, 0 < words.length ∧ words.length ≤ 255 ∧ 1 ≤ m ∧ m ≤ 255 ∧ (∀ i : Nat, i < words.length → (gt words (i : Int)).size = m)) ∨ (∃ t, f_weave_In words = some (t, 1)) := by
  by_cases h0 : words.length = 0
  · right
    unfold f_weave_In f_weave_may
    rw [if_pos (by simp [h0])]
    exact ⟨_, rfl⟩
  by_cases hv : words.length ≤ 255 ∧ 1 ≤ (gt words ((0 : Nat) : Int)).size ∧ (gt words ((0 : Nat) : Int)).size ≤ 255
  · obtain ⟨v1, v2, v3⟩ := hv
    obtain ⟨m, hm⟩ : ∃ m, m = (gt words ((0 : Nat) : Int)).size := ⟨_, rfl⟩
    rw [← hm] at v2 v3
    obtain ⟨r, e1, e2⟩ := own_s1 words m (by omega) v1 v3 hm.symm
    cases r with
    | inl q => exact .inl ⟨m, by omega, v1, v2, v3, e2.2⟩
    | inr q =>
      right
      have hmn : m * words.length ≤ 65025 := Nat.mul_le_mul v3 v1
      have hp : (m : Int) * (words.length : Int) = ((m * words.length : Nat) : Int) := (Int.natCast_mul m words.length).symm
      unfold f_weave_In f_weave_may
      rw [show gt words (0 : Int) = gt words ((0 : Nat) : Int) from rfl, ← hm]
      rw [if_neg (fun h => by have := beq_iff_eq.1 h; omega), if_pos (by omega)]
      simp only [Option.bind_some]
      rw [if_neg (by simp; omega), if_pos (by omega), hp, w64 (by omega) (by omega), if_pos (by omega), Int.toNat_natCast, e1]
      simp only [Option.bind_some, sm]
      rw [e2.1]
      exact ⟨_, rfl⟩
  · right
    unfold f_weave_In f_weave_may
    rw [show gt words (0 : Int) = gt words ((0 : Nat) : Int) from rfl, if_neg (fun h => by have := beq_iff_eq.1 h; omega), if_pos (by omega)]
    simp only [Option.bind_some]
    rw [show ((0 : Nat) : Int) = 0 from rfl] at hv ⊢
    rw [if_pos (by simp; omega)]
    exact ⟨_, rfl⟩

def outs (s : ByteArray) (c m : Nat) : List ByteArray := (List.range c).map fun w => bstr ((List.range m).map fun a => bt s ((a * c + w : Nat) : Int))
theorem out_ok (s : ByteArray) (c m : Nat) (hc : 1 ≤ c) (hc2 : c ≤ 255) (hm : 1 ≤ m) (hm2 : m ≤ 255) (hs : s.size = m * c) : f_weave_Out s (c : Int) = some (outs s c m, 0) := by
  have hsz : m * c ≤ 65025 := Nat.mul_le_mul hm2 hc2
  have h1 : (s.size : Int).tmod (c : Int) = 0 := by
    rw [Int.tmod_eq_emod_of_nonneg (by omega), hs, show ((m * c : Nat) : Int) % (c : Int) = ((m * c % c : Nat) : Int) from rfl, Nat.mul_mod_left]; rfl
  have h2 : (s.size : Int).tdiv (c : Int) = (m : Int) := by
    rw [Int.tdiv_eq_ediv_of_nonneg (by omega), hs, show ((m * c : Nat) : Int) / (c : Int) = ((m * c / c : Nat) : Int) from rfl, Nat.mul_div_cancel _ (by omega)]
  have k2 : ∀ w : Nat, w < c → loop (f_weave_Out.s2 s (c : Int)) ([], (w : Int)) = some ((List.range m).map fun a => bt s ((a * c + w : Nat) : Int)) := by
    intro w hw
    have key : ∀ k a : Nat, a + k = m → loop (f_weave_Out.s2 s (c : Int)) ((List.range a).map (fun a => bt s ((a * c + w : Nat) : Int)), ((a * c + w : Nat) : Int)) = some ((List.range m).map fun a => bt s ((a * c + w : Nat) : Int)) := by
      intro k
      induction k with
      | zero =>
        intro a ha
        obtain rfl : a = m := by omega
        apply loop_done
        simp only [f_weave_Out.s2, f_weave_Out.s2c]
        rw [if_neg (by simp; omega)]
      | succ k ih =>
        intro a ha
        have e1 : (a + 1) * c = a * c + c := Nat.succ_mul a c
        have e2 : (a + 1) * c ≤ m * c := Nat.mul_le_mul_right c (by omega)
        rw [← ih (a + 1) (by omega)]
        apply loop_step
        simp only [f_weave_Out.s2, f_weave_Out.s2c]
        rw [if_pos (by simp; omega), if_pos (by omega), if_pos (by simp; omega), w64 (by omega) (by omega), List.range_succ, List.map_append, e1]
        simp only [List.map_cons, List.map_nil]
        rw [show ((a * c + w : Nat) : Int) + (c : Int) = ((a * c + c + w : Nat) : Int) by omega]
    have := key m 0 (by omega)
    simpa using this
  unfold f_weave_Out f_weave_may
  rw [if_neg (by simp; omega), if_pos (by omega), h1]
  simp only [Option.bind_some, bne_self_eq_false, Bool.false_eq_true, if_false]
  rw [if_pos (by omega), h2, w64 (by omega) (by omega)]
  simp only [Option.bind_some]
  rw [if_neg (by simp; omega), if_pos (by omega)]
  have k1 : loop (f_weave_Out.s1 s (c : Int)) ([], (0 : Int)) = some (outs s c m) := by
    have := loop_for (f := f_weave_Out.s1 s (c : Int)) c (fun i => (List.range i).map fun w => bstr ((List.range m).map fun a => bt s ((a * c + w : Nat) : Int))) (outs s c m) (fun i hi => ?_) ?_
    · simpa using this
    · simp only [f_weave_Out.s1, f_weave_Out.s1c, h2]
      have e0 : List.replicate ((0 : Int)).toNat (0 : Int) = [] := rfl
      rw [if_pos (by simpa using hi), if_pos (by omega), w64 (x := (m : Int)) (by omega) (by omega), if_pos (by omega), e0, k2 i hi]
      simp only [Option.bind_some]
      rw [if_pos (by simp; omega), w64 (by omega) (by omega), List.range_succ, List.map_append]
      rfl
    · simp only [f_weave_Out.s1, f_weave_Out.s1c]
      rw [if_neg (by simp)]
      rfl
  have e : List.replicate ((0 : Int)).toNat ByteArray.empty = [] := rfl
  rw [e, k1]
  rfl
theorem out_dich (s : ByteArray) (c : Int) (hs : s.size ≤ 140737488351232) : (∃ k m : Nat, c = (k : Int) ∧ 1 ≤ k ∧ k ≤ 255 ∧ 1 ≤ m ∧ m ≤ 255 ∧ s.size = m * k) ∨ f_weave_Out s c = some ([], 1) := by
  unfold f_weave_Out f_weave_may
  by_cases h1 : (decide (c < (1 : Int)) || decide ((255 : Int) < c)) = true
  · rw [if_pos h1]; exact .inr rfl
  · rw [if_neg h1]
    simp at h1
    have hne : c ≠ 0 := by omega
    obtain ⟨k, rfl⟩ : ∃ k : Nat, c = (k : Int) := ⟨c.toNat, by omega⟩
    have e1 : (s.size : Int).tmod (k : Int) = ((s.size % k : Nat) : Int) := by rw [Int.tmod_eq_emod_of_nonneg (by omega)]; rfl
    have e2 : (s.size : Int).tdiv (k : Int) = ((s.size / k : Nat) : Int) := by rw [Int.tdiv_eq_ediv_of_nonneg (by omega)]; rfl
    have hle := Nat.div_le_self s.size k
    have hdm := Nat.div_add_mod s.size k
    rw [e1, e2]
    simp only [if_pos hne, Option.bind_some]
    generalize s.size % k = r at *
    generalize s.size / k = m at *
    by_cases h2 : r = 0
    · subst h2
      simp only [Int.natCast_zero, bne_self_eq_false, Bool.false_eq_true, if_false, Option.bind_some]
      rw [w64 (by omega) (by omega)]
      by_cases h3 : 1 ≤ m ∧ m ≤ 255
      · left
        exact ⟨k, m, rfl, by omega, by omega, h3.1, h3.2, by rw [Nat.mul_comm]; omega⟩
      · right
        rw [if_pos (by simp; omega)]
    · right
      have : ((r : Int) != 0) = true := by rw [bne_iff_ne]; omega
      rw [this]
      rfl

theorem back_j (s : ByteArray) (hs : s.size ≤ 140737488351232) (c : Int) : f_foghornlaw17_WeaveBack.j1 s c = some true := by
  unfold f_foghornlaw17_WeaveBack.j1
  rcases out_dich s c hs with ⟨k, m, rfl, k1, k2, m1, m2, hsz⟩ | h
  · rw [out_ok s k m k1 k2 m1 m2 hsz]
    simp only [Option.bind_some, bne_self_eq_false, Bool.false_eq_true, if_false]
    have hl : (outs s k m).length = k := by simp [outs]
    have hg : ∀ w : Nat, w < k → gt (outs s k m) (w : Int) = bstr ((List.range m).map fun a => bt s ((a * k + w : Nat) : Int)) := fun w hw => by
      rw [gt_nat (by omega)]; simp [outs]
    have hin := in_some (outs s k m) m (by omega) (by omega) m1 m2 (fun i hi => by rw [hg i (by omega), bstr_size]; simp)
    rw [hin]
    simp only [Option.bind_some]
    have e : wov (outs s k m) m = sbytes s := by
      apply List.ext_getElem
      · rw [wov_len, sbytes_len, hl, hsz]
      · intro i h1 h2
        have hi : i < m * k := by rw [wov_len, hl] at h1; exact h1
        have hmod := Nat.mod_lt i (show 0 < k by omega)
        have hdiv : i / k < m := (Nat.div_lt_iff_lt_mul (by omega)).2 hi
        have hi2 : i / k * k + i % k = i := by rw [Nat.mul_comm]; exact Nat.div_add_mod i k
        have := wov_get (outs s k m) (i % k) (i / k) (by omega) m hdiv
        rw [hl, hi2] at this
        rw [gt_nat h1] at this
        rw [this, hg _ hmod, bt_bstr _ (fun x hx => by obtain ⟨a, _, rfl⟩ := List.mem_map.1 hx; exact bt_range _ _) _ (by simpa using hdiv), gt_nat (by simpa using hdiv), sbytes_get s i (by rw [hsz]; exact hi)]
        simp only [List.getElem_map, List.getElem_range]
        rw [hi2]
    rw [e, bstr_sbytes, seq_self]
    rfl
  · rw [h]
    rfl

theorem back_true (words : List ByteArray) (w0 : ∀ x ∈ words, x.size ≤ maxLen) (r0 : words.length * 16 ≤ 140737488351232) (s : ByteArray) (r1 : s.size ≤ 140737488351232) (c : Int) (w2 : (Lit.int .i64 c).wf = true) :
    f_foghornlaw17_WeaveBack words s c = some true := by
  unfold f_foghornlaw17_WeaveBack
  rw [awake_true]
  simp only [Option.bind_some, Bool.not_true, Bool.false_eq_true, if_false]
  rcases in_dich words with ⟨m, n1, n2, m1, m2, hm⟩ | ⟨t, h⟩
  · rw [in_some words m n1 n2 m1 m2 hm]
    simp only [Option.bind_some, beq_self_eq_true, if_true]
    obtain ⟨n, hn⟩ : ∃ n, n = words.length := ⟨_, rfl⟩
    have hwl := wov_len words m
    have hts : (bstr (wov words m)).size = m * n := by rw [bstr_size, hwl, hn]
    have hmn : m * n ≤ 65025 := Nat.mul_le_mul (show m ≤ 255 from m2) (show n ≤ 255 by omega)
    have hbt : ∀ w a : Nat, w < n → a < m → bt (bstr (wov words m)) ((a * n + w : Nat) : Int) = bt (gt words (w : Int)) (a : Int) := fun w a hw ha => by
      have e1 : (a + 1) * n = a * n + n := Nat.succ_mul a n
      have e2 : (a + 1) * n ≤ m * n := Nat.mul_le_mul_right n (by omega)
      rw [bt_bstr _ (wov_mem words m) _ (by rw [hwl, ← hn]; omega), hn]
      exact wov_get words w a (by omega) m ha
    have hout := out_ok (bstr (wov words m)) n m (by omega) (by omega) m1 m2 hts
    have houts : outs (bstr (wov words m)) n m = words := by
      apply List.ext_getElem
      · simp [outs, hn]
      · intro w h1 h2
        simp only [outs, List.getElem_map, List.getElem_range]
        have hw : w < n := by omega
        have hsz := hm w h2
        rw [gt_nat h2] at hsz
        have e : ((List.range m).map fun a => bt (bstr (wov words m)) ((a * n + w : Nat) : Int)) = sbytes words[w] := by
          rw [sbytes_bt, hsz]
          apply List.map_congr_left
          intro a ha
          rw [hbt w a hw (by simpa using ha), gt_nat h2]
        rw [e, bstr_sbytes]
    rw [houts] at hout
    rw [← hn, hout]
    simp only [Option.bind_some, bne_self_eq_false, Bool.false_eq_true, if_false, texts_self words (by omega), Bool.not_true]
    have h00 : (gt words (0 : Int)).size = m := hm 0 n1
    have hp : (n : Int) * (m : Int) = ((m * n : Nat) : Int) := by rw [← Int.natCast_mul, Nat.mul_comm]
    rw [h00, hts, if_pos (by omega), hp, w64 (by omega) (by omega)]
    simp only [Option.bind_some, bne_self_eq_false, Bool.false_eq_true, if_false]
    have key : loop (f_foghornlaw17_WeaveBack.s1 words (bstr (wov words m), 0)) (0 : Int) = some (.inl ()) := by
      refine loop_for1 n (Sum.inl ()) (fun w hw => ?_) ?_
      · have k2 : loop (f_foghornlaw17_WeaveBack.s2 words (bstr (wov words m), 0) (w : Int)) (0 : Int) = some (.inl ()) := by
          refine loop_for1 m (Sum.inl ()) (fun a ha => ?_) ?_
          · have e1 : (a + 1) * n = a * n + n := Nat.succ_mul a n
            have e2 : (a + 1) * n ≤ m * n := Nat.mul_le_mul_right n (by omega)
            have hpl : f_weave_Place (w : Int) (a : Int) (n : Int) (m : Int) = some (((a * n + w : Nat) : Int), 0) := by
              unfold f_weave_Place f_weave_may
              simp only [Option.bind_some]
              rw [if_neg (by simp; omega), ← Int.natCast_mul, w64 (x := ((a * n : Nat) : Int)) (by omega) (by omega), w64 (by omega) (by omega)]
              rfl
            have hbk : f_weave_Back ((a * n + w : Nat) : Int) (n : Int) (m : Int) = some ((w : Int), (a : Int), 0) := by
              have t1 : ((a * n + w : Nat) : Int).tmod (n : Int) = (w : Int) := by
                rw [Int.tmod_eq_emod_of_nonneg (by omega), show ((a * n + w : Nat) : Int) % (n : Int) = (((a * n + w) % n : Nat) : Int) from rfl, Nat.mul_comm, Nat.mul_add_mod, Nat.mod_eq_of_lt hw]
              have t2 : ((a * n + w : Nat) : Int).tdiv (n : Int) = (a : Int) := by
                rw [Int.tdiv_eq_ediv_of_nonneg (by omega), show ((a * n + w : Nat) : Int) / (n : Int) = (((a * n + w) / n : Nat) : Int) from rfl, Nat.mul_comm, Nat.mul_add_div (by omega), Nat.div_eq_of_lt hw]; rfl
              unfold f_weave_Back f_weave_may
              simp only [Option.bind_some]
              rw [hp, w64 (x := ((m * n : Nat) : Int)) (by omega) (by omega), if_neg (by simp; omega), if_pos (by omega), if_pos (by omega), t1, t2, w64 (by omega) (by omega)]
            simp only [f_foghornlaw17_WeaveBack.s2, f_foghornlaw17_WeaveBack.s2c, ← hn, h00, hm w (by omega), hts]
            rw [if_pos (by omega), if_pos (by simp; omega), if_pos (by omega), hpl]
            simp only [Option.bind_some]
            rw [if_pos (by omega), hbk]
            simp only [Option.bind_some, bne_self_eq_false, Bool.or_self, Bool.false_or]
            rw [if_neg (by simp; omega), if_pos (by omega), if_pos (by omega), if_pos (by omega), hbt w a hw ha]
            simp only [Option.bind_some, bne_self_eq_false, Bool.false_eq_true, if_false]
            rw [w64 (by omega) (by omega)]; rfl
          · simp only [f_foghornlaw17_WeaveBack.s2, f_foghornlaw17_WeaveBack.s2c, ← hn, hm w (by omega)]
            rw [if_pos (by omega), if_neg (by simp)]
        simp only [f_foghornlaw17_WeaveBack.s1, f_foghornlaw17_WeaveBack.s1c, ← hn]
        rw [if_pos (by simpa using hw), k2]
        simp only [Option.bind_some, sm]
        rw [w64 (by omega) (by omega)]; rfl
      · simp only [f_foghornlaw17_WeaveBack.s1, f_foghornlaw17_WeaveBack.s1c, ← hn]
        rw [if_neg (by simp)]
    rw [key]
    simp only [Option.bind_some, sm]
    exact back_j s r1 c
  · rw [h]
    simp only [Option.bind_some]
    rw [if_neg (by decide)]
    exact back_j s r1 c

end Go.Proofs.Ythoigfonjpmibaa
