/- WeaveWords: the plain law. -/
import Derived.Test.YthoigfonjpmibaaG3
import Derived.Test.YthoigfonjpmibaaGlK
set_option linter.unusedVariables false
namespace Go.Proofs.Ythoigfonjpmibaa.Words
open GL Go.Proofs.Ythoigfonjpmibaa

theorem seq_self (s : ByteArray) : seq s s = true := by simp [seq]

theorem sbytes_get (s : ByteArray) (i : Nat) (h : i < s.size) : (sbytes s)[i]'(by rw [sbytes_len]; exact h) = bt s i := by
  simp [sbytes, bt, h]

/-- row at of the woven bytes -/
def rowT (words : List ByteArray) (at' : Nat) (i : Nat) : List Int := (List.range i).map fun (w : Nat) => bt (gt words (w : Int)) at'
def wov (words : List ByteArray) (m : Nat) : List Int := (List.range m).flatMap fun (a : Nat) => rowT words a words.length

theorem wov_len (words : List ByteArray) (m : Nat) : (wov words m).length = m * words.length := by
  induction m with
  | zero => simp [wov]
  | succ m ih =>
    have : wov words (m + 1) = wov words m ++ rowT words m words.length := by simp [wov, List.range_succ]
    rw [this, List.length_append, ih]; simp [rowT, Nat.succ_mul]

theorem ref_s3 (words : List ByteArray) (a m : Nat) (b : List Int) (hl : words.length ≤ 255) (hm : ∀ i : Nat, i < words.length → (gt words (i : Int)).size = m) (ha : a < m) (hb : b.length ≤ 65025) :
    loop (f_foghornref17_In.s3 words (a : Int)) (b, (0 : Int)) = some (b ++ rowT words a words.length) := by
  have := loop_for (f := f_foghornref17_In.s3 words (a : Int)) words.length (fun i => b ++ rowT words a i) (b ++ rowT words a words.length) (fun i hi => ?_) ?_
  · simpa [rowT] using this
  · simp only [f_foghornref17_In.s3, f_foghornref17_In.s3c]
    rw [if_pos (by simpa using hi), if_pos (by omega), if_pos (by rw [hm i hi]; omega), if_pos (by simp [rowT]; omega), w64 (by omega) (by omega)]
    simp [rowT, List.range_succ]
  · simp only [f_foghornref17_In.s3, f_foghornref17_In.s3c]
    rw [if_neg (by simp)]

theorem ref_s2 (words : List ByteArray) (m : Nat) (h0 : 0 < words.length) (hl : words.length ≤ 255) (hm255 : m ≤ 255) (hm : ∀ i : Nat, i < words.length → (gt words (i : Int)).size = m) :
    loop (f_foghornref17_In.s2 words) ([], (0 : Int)) = some (wov words m) := by
  have h00 : (gt words (0 : Int)).size = m := hm 0 h0
  have := loop_for (f := f_foghornref17_In.s2 words) m (fun i => wov words i) (wov words m) (fun i hi => ?_) ?_
  · simpa [wov] using this
  · simp only [f_foghornref17_In.s2, f_foghornref17_In.s2c]
    have hle : i * words.length ≤ 65025 := Nat.mul_le_mul (show i ≤ 255 by omega) hl
    rw [if_pos (by omega), h00, if_pos (by simpa using hi), ref_s3 words i m _ hl hm hi (by rw [wov_len]; exact hle)]
    simp only [Option.bind_some]
    rw [w64 (by omega) (by omega)]
    simp [wov, List.range_succ]
  · simp only [f_foghornref17_In.s2, f_foghornref17_In.s2c]
    rw [if_pos (by omega), h00, if_neg (by simp)]

theorem sizes_loop (words : List ByteArray) (h0 : 0 < words.length) (hl : words.length ≤ 255) :
    ∃ r, loop (f_foghornref17_In.s1 words) (0 : Int) = some r ∧ match r with
      | .inl _ => ∀ i : Nat, i < words.length → (gt words (i : Int)).size = (gt words (0 : Int)).size
      | .inr q => q = (ByteArray.mk #[], 1) ∧ ∃ i : Nat, i < words.length ∧ (gt words (i : Int)).size ≠ (gt words (0 : Int)).size := by
  refine loop_inv (f := f_foghornref17_In.s1 words) (fun t : Int => 0 ≤ t ∧ t ≤ words.length ∧ ∀ i : Nat, (i : Int) < t → (gt words (i : Int)).size = (gt words (0 : Int)).size) (fun t => words.length - t.toNat)
    (fun r : Unit ⊕ (ByteArray × Int) => match r with
      | .inl _ => ∀ i : Nat, i < words.length → (gt words (i : Int)).size = (gt words (0 : Int)).size
      | .inr q => q = (ByteArray.mk #[], 1) ∧ ∃ i : Nat, i < words.length ∧ (gt words (i : Int)).size ≠ (gt words (0 : Int)).size) ?_ 0 ⟨by omega, by omega, fun i hi => by omega⟩
  rintro t ⟨h1, h2, h3⟩
  simp only [f_foghornref17_In.s1, f_foghornref17_In.s1c]
  by_cases ht : t < words.length
  · rw [if_pos (by simpa using ht), if_pos (by omega), if_pos (by omega)]
    obtain ⟨j, rfl⟩ : ∃ j : Nat, t = (j : Int) := ⟨t.toNat, by omega⟩
    by_cases hs : (gt words (j : Int)).size = (gt words (0 : Int)).size
    · rw [if_neg (by simp [hs]), w64 (by omega) (by omega)]
      refine .inl ⟨_, rfl, ⟨by omega, by omega, fun i hi => ?_⟩, by omega⟩
      by_cases hij : i = j
      · rw [hij, hs]
      · exact h3 i (by omega)
    · rw [if_pos (by simp; omega)]
      exact .inr ⟨_, rfl, rfl, j, by omega, hs⟩
  · rw [if_neg (by simpa using ht)]
    exact .inr ⟨_, rfl, fun i hi => h3 i (by omega)⟩

def rows (words : List ByteArray) (i : Nat) : List Int := (List.range i).flatMap fun (w : Nat) => sbytes (gt words (w : Int))
theorem rows_len (words : List ByteArray) (m : Nat) (i : Nat) (hm : ∀ j : Nat, j < i → (gt words (j : Int)).size = m) : (rows words i).length = i * m := by
  induction i with
  | zero => simp [rows]
  | succ i ih =>
    have : rows words (i + 1) = rows words i ++ sbytes (gt words (i : Int)) := by simp [rows, List.range_succ]
    rw [this, List.length_append, ih fun j hj => hm j (by omega), sbytes_len, hm i (by omega), Nat.succ_mul]
theorem rows_get (words : List ByteArray) (m : Nat) (a : Nat) (ha : a < m) : ∀ (n : Nat) (hm : ∀ j : Nat, j < n → (gt words (j : Int)).size = m) (i : Nat) (hi : i < n), gt (rows words n) ((i * m + a : Nat) : Int) = bt (gt words (i : Int)) a := by
  intro n
  induction n with
  | zero => intro _ i hi; omega
  | succ n ih =>
    intro hm i hi
    have e : rows words (n + 1) = rows words n ++ sbytes (gt words (n : Int)) := by simp [rows, List.range_succ]
    have hl := rows_len words m n fun j hj => hm j (by omega)
    have hl2 := rows_len words m (n + 1) hm
    have hlt : i * m + a < (n + 1) * m := by
      have := Nat.mul_le_mul_right m (show i + 1 ≤ n + 1 by omega)
      rw [Nat.succ_mul] at this; omega
    by_cases hin : i < n
    · have := ih (fun j hj => hm j (by omega)) i hin
      rw [← this]
      have hlt2 : i * m + a < n * m := by
        have := Nat.mul_le_mul_right m (show i + 1 ≤ n by omega)
        rw [Nat.succ_mul] at this; omega
      rw [gt_nat (by rw [hl2]; exact hlt), gt_nat (by rw [hl]; exact hlt2)]
      simp only [e]
      rw [List.getElem_append_left (by rw [hl]; exact hlt2)]
    · obtain rfl : i = n := by omega
      rw [gt_nat (by rw [hl2]; exact hlt)]
      simp only [e]
      rw [List.getElem_append_right (by omega)]
      simp only [hl, Nat.add_sub_cancel_left]
      exact sbytes_get _ _ (by rw [hm i (by omega)]; exact ha)

theorem own_s1 (words : List ByteArray) (m : Nat) (h0 : 0 < words.length) (hl : words.length ≤ 255) (hm255 : m ≤ 255) (h00 : (gt words (0 : Int)).size = m) :
    ∃ r, loop (f_weave_In.s1 words) (List.replicate (m * words.length) (0 : Int), (0 : Int)) = some r ∧ match r with
      | .inl q => q = rows words words.length ∧ ∀ i : Nat, i < words.length → (gt words (i : Int)).size = m
      | .inr q => q = (ByteArray.mk #[], 1) ∧ ∃ i : Nat, i < words.length ∧ (gt words (i : Int)).size ≠ m := by
  refine loop_inv (f := f_weave_In.s1 words) (fun s : List Int × Int => ∃ j : Nat, s.2 = (j : Int) ∧ j ≤ words.length ∧ (∀ i : Nat, i < j → (gt words (i : Int)).size = m) ∧ s.1 = rows words j ++ List.replicate ((words.length - j) * m) 0)
    (fun s => words.length - s.2.toNat)
    (fun r : List Int ⊕ (ByteArray × Int) => match r with
      | .inl q => q = rows words words.length ∧ ∀ i : Nat, i < words.length → (gt words (i : Int)).size = m
      | .inr q => q = (ByteArray.mk #[], 1) ∧ ∃ i : Nat, i < words.length ∧ (gt words (i : Int)).size ≠ m) ?_ _ ⟨0, rfl, by omega, fun i hi => by omega, by simp [rows, Nat.mul_comm]⟩
  rintro ⟨row, t⟩ ⟨j, hj, h1, h2, h3⟩
  simp only at hj h3
  subst hj
  have hrl := rows_len words m j h2
  simp only [f_weave_In.s1, f_weave_In.s1c, h00]
  by_cases ht : j < words.length
  · rw [if_pos (by simpa using ht), if_pos (by omega)]
    have hjm : j * m ≤ 65025 := Nat.mul_le_mul (show j ≤ 255 by omega) hm255
    have hsplit : (words.length - j) * m = m + (words.length - (j + 1)) * m := by
      rw [show words.length - j = (words.length - (j + 1)) + 1 by omega, Nat.succ_mul]; omega
    have hrow : row.length = j * m + (m + (words.length - (j + 1)) * m) := by rw [h3, List.length_append, hrl, List.length_replicate, hsplit]
    by_cases hs : (gt words (j : Int)).size = m
    · rw [if_neg (by simp [hs])]
      have hc : IntKind.i64.wrap ((j : Int) * (m : Int)) = ((j * m : Nat) : Int) := by rw [← Int.natCast_mul]; exact w64 (by omega) (by omega)
      rw [hc, if_pos (by omega), Int.toNat_natCast, hs, if_pos (by omega), w64 (x := (j : Int) + 1) (by omega) (by omega)]
      refine .inl ⟨_, rfl, ⟨j + 1, by simp, by omega, fun i hi => ?_, ?_⟩, by simp; omega⟩
      · by_cases hij : i = j
        · rw [hij, hs]
        · exact h2 i (by omega)
      · have e : rows words (j + 1) = rows words j ++ sbytes (gt words (j : Int)) := by simp [rows, List.range_succ]
        simp only
        rw [h3, e, List.take_append_of_le_length (by omega), List.take_of_length_le (by omega), List.drop_append, hrl]
        simp only [hsplit]
        rw [List.drop_eq_nil_of_le (by omega), List.nil_append, List.drop_replicate]
        congr 2; omega
    · rw [if_pos (by simp; omega)]
      exact .inr ⟨_, rfl, rfl, j, ht, hs⟩
  · obtain rfl : j = words.length := by omega
    rw [if_neg (by simp)]
    exact .inr ⟨_, rfl, by simpa using h3, h2⟩

theorem own_s3 (words : List ByteArray) (a m : Nat) (b : List Int) (hl : words.length ≤ 255) (hm255 : m ≤ 255) (h0 : 0 < words.length) (hm : ∀ i : Nat, i < words.length → (gt words (i : Int)).size = m) (ha : a < m) (hb : b.length ≤ 65025) :
    loop (f_weave_In.s3 words (rows words words.length) (a : Int)) (b, (0 : Int)) = some (b ++ rowT words a words.length) := by
  have h00 : (gt words (0 : Int)).size = m := hm 0 h0
  have := loop_for (f := f_weave_In.s3 words (rows words words.length) (a : Int)) words.length (fun i => b ++ rowT words a i) (b ++ rowT words a words.length) (fun i hi => ?_) ?_
  · simpa [rowT] using this
  · simp only [f_weave_In.s3, f_weave_In.s3c, h00]
    have hjm : i * m ≤ 65025 := Nat.mul_le_mul (show i ≤ 255 by omega) hm255
    have hc : IntKind.i64.wrap ((i : Int) * (m : Int)) = ((i * m : Nat) : Int) := by rw [← Int.natCast_mul]; exact w64 (by omega) (by omega)
    have hc2 : IntKind.i64.wrap (((i * m : Nat) : Int) + (a : Int)) = ((i * m + a : Nat) : Int) := by rw [← Int.natCast_add]; exact w64 (by omega) (by omega)
    have hlt : i * m + a < words.length * m := by
      have := Nat.mul_le_mul_right m (show i + 1 ≤ words.length by omega)
      rw [Nat.succ_mul] at this; omega
    rw [if_pos (by simpa using hi), hc, hc2, rows_get words m a ha words.length hm i hi, if_pos (by rw [rows_len words m words.length hm]; omega), if_pos (by simp [rowT]; omega), w64 (by omega) (by omega)]
    simp [rowT, List.range_succ]
  · simp only [f_weave_In.s3, f_weave_In.s3c]
    rw [if_neg (by simp)]

theorem own_s2 (words : List ByteArray) (m : Nat) (h0 : 0 < words.length) (hl : words.length ≤ 255) (hm255 : m ≤ 255) (hm : ∀ i : Nat, i < words.length → (gt words (i : Int)).size = m) :
    loop (f_weave_In.s2 words (rows words words.length)) ([], (0 : Int)) = some (wov words m) := by
  have h00 : (gt words (0 : Int)).size = m := hm 0 h0
  have := loop_for (f := f_weave_In.s2 words (rows words words.length)) m (fun i => wov words i) (wov words m) (fun i hi => ?_) ?_
  · simpa [wov] using this
  · simp only [f_weave_In.s2, f_weave_In.s2c]
    have hle : i * words.length ≤ 65025 := Nat.mul_le_mul (show i ≤ 255 by omega) hl
    rw [h00, if_pos (by simpa using hi), own_s3 words i m _ hl hm255 h0 hm hi (by rw [wov_len]; exact hle)]
    simp only [Option.bind_some]
    rw [w64 (by omega) (by omega)]
    simp [wov, List.range_succ]
  · simp only [f_weave_In.s2, f_weave_In.s2c]
    rw [h00, if_neg (by simp)]

theorem in_same (words : List ByteArray) : ∃ r, f_foghornref17_In words = some r ∧ f_weave_In words = some r := by
  unfold f_foghornref17_In f_weave_In
  by_cases h0 : words.length = 0
  · rw [if_pos (by simp [h0]), if_pos (by simp [h0])]
    exact ⟨_, rfl, rfl⟩
  · rw [if_neg (by rw [beq_iff_eq]; omega), if_pos (by omega), if_neg (by rw [beq_iff_eq]; omega), if_pos (by omega)]
    unfold f_foghornref17_Of f_weave_may
    simp only [Option.bind_some]
    by_cases hc : (!((decide ((1 : Int) ≤ (words.length : Int)) && decide ((words.length : Int) ≤ (255 : Int))) && decide ((1 : Int) ≤ ((gt words (0 : Int)).size : Int)) && decide (((gt words (0 : Int)).size : Int) ≤ (255 : Int)))) = true
    · rw [if_pos hc, if_pos hc]
      exact ⟨_, rfl, rfl⟩
    · rw [if_neg hc, if_neg hc]
      simp at hc
      have hl : words.length ≤ 255 := by omega
      generalize hm : (gt words (0 : Int)).size = m at *
      have hmul : m * words.length ≤ 65025 := Nat.mul_le_mul (show m ≤ 255 by omega) hl
      have hw : IntKind.i64.wrap ((m : Int) * (words.length : Int)) = ((m * words.length : Nat) : Int) := by rw [← Int.natCast_mul]; exact w64 (by omega) (by omega)
      rw [if_pos (by omega), hw, if_pos (by omega), Int.toNat_natCast]
      obtain ⟨r, h1, h2⟩ := sizes_loop words (by omega) hl
      obtain ⟨q, h3, h4⟩ := own_s1 words m (by omega) hl (by omega) hm
      rw [h1, h3]
      simp only [Option.bind_some]
      rw [hm] at h2
      cases r with
      | inl u =>
        simp only at h2
        cases q with
        | inl q =>
          simp only at h4
          simp only [sm]
          have hrl := rows_len words m words.length h2
          rw [h4.1, ref_s2 words m (by omega) hl (by omega) h2, if_pos (by rw [hrl, Nat.mul_comm]; omega)]
          have e : List.replicate ((0 : Int)).toNat (0 : Int) = [] := rfl
          rw [e, own_s2 words m (by omega) hl (by omega) h2]
          exact ⟨_, rfl, rfl⟩
        | inr q => simp only at h4; obtain ⟨_, i, hi, hne⟩ := h4; exact absurd (h2 i hi) hne
      | inr p =>
        simp only at h2
        cases q with
        | inl q => simp only at h4; obtain ⟨_, i, hi, hne⟩ := h2; exact absurd (h4.2 i hi) hne
        | inr q =>
          simp only at h4
          simp only [sm]
          rw [h2.1, h4.1]
          exact ⟨_, rfl, rfl⟩

theorem out_s2 (s : ByteArray) (c w : Int) (hs : s.size ≤ 65025) (hc : 1 ≤ c) (hc2 : c ≤ 255) (hw : 0 ≤ w) (hw2 : w < c) : ∃ b, loop (f_foghornref17_Out.s2 s c) ([], w) = some b := by
  obtain ⟨b, h, _⟩ := loop_inv (f := f_foghornref17_Out.s2 s c) (fun x : List Int × Int => 0 ≤ x.2 ∧ x.1.length ≤ x.2.toNat ∧ x.2 ≤ 65280) (fun x => 65281 - x.2.toNat) (fun _ => True) (by
    rintro ⟨b, a⟩ ⟨h1, h2, h3⟩
    simp only at h1 h2 h3
    simp only [f_foghornref17_Out.s2, f_foghornref17_Out.s2c]
    by_cases ha : a < s.size
    · rw [if_pos (by simpa using ha), if_pos (by omega), if_pos (by simp; omega), w64 (by omega) (by omega)]
      exact .inl ⟨_, rfl, ⟨by simp; omega, by simp; omega, by simp; omega⟩, by simp; omega⟩
    · rw [if_neg (by simpa using ha)]
      exact .inr ⟨_, rfl, trivial⟩) ([], w) ⟨hw, by simp, by simp; omega⟩
  exact ⟨b, h⟩

theorem out_loops (s : ByteArray) (c : Int) (hs : s.size ≤ 65025) (hc : 1 ≤ c) (hc2 : c ≤ 255) :
    ∃ l, loop (f_foghornref17_Out.s1 s c) ([], (0 : Int)) = some l ∧ loop (f_weave_Out.s1 s c) ([], (0 : Int)) = some l ∧ l.length ≤ 255 := by
  have key : ∀ n i : Nat, (i : Int) + n = c → ∀ out : List ByteArray, out.length = i → ∃ l, loop (f_foghornref17_Out.s1 s c) (out, (i : Int)) = some l ∧ loop (f_weave_Out.s1 s c) (out, (i : Int)) = some l ∧ l.length ≤ 255 := by
    intro n
    induction n with
    | zero =>
      intro i hi out ho
      refine ⟨out, loop_done ?_, loop_done ?_, by omega⟩
      · simp only [f_foghornref17_Out.s1, f_foghornref17_Out.s1c]; rw [if_neg (by simp; omega)]
      · simp only [f_weave_Out.s1, f_weave_Out.s1c]; rw [if_neg (by simp; omega)]
    | succ n ih =>
      intro i hi out ho
      obtain ⟨b, hb⟩ := out_s2 s c (i : Int) hs hc hc2 (by omega) (by omega)
      obtain ⟨l, h1, h2, h3⟩ := ih (i + 1) (by omega) (out ++ [bstr b]) (by simp [ho])
      have hq1 : 0 ≤ (s.size : Int).tdiv c := Int.tdiv_nonneg (by omega) (by omega)
      have hq2 : (s.size : Int).tdiv c ≤ s.size := by
        rw [Int.tdiv_eq_ediv_of_nonneg (by omega)]
        exact Int.ediv_le_self _ (by omega)
      have hb' : loop (f_weave_Out.s2 s c) (List.replicate ((0 : Int)).toNat (0 : Int), (i : Int)) = some b := hb
      refine ⟨l, (loop_step ?_).trans h1, (loop_step ?_).trans h2, h3⟩
      · simp only [f_foghornref17_Out.s1, f_foghornref17_Out.s1c]
        rw [if_pos (by simp; omega), hb]
        simp only [Option.bind_some]
        rw [if_pos (by simp; omega), w64 (by omega) (by omega)]; rfl
      · simp only [f_weave_Out.s1, f_weave_Out.s1c]
        rw [if_pos (by simp; omega), if_pos (by omega), w64 (x := (s.size : Int).tdiv c) (by omega) (by omega), if_pos (by omega), hb']
        simp only [Option.bind_some]
        rw [if_pos (by simp; omega), w64 (by omega) (by omega)]; rfl
  exact key c.toNat 0 (by omega) [] rfl

theorem out_same (s : ByteArray) (c : Int) (hs : s.size ≤ 140737488351232) : ∃ l e, f_foghornref17_Out s c = some (l, e) ∧ f_weave_Out s c = some (l, e) ∧ l.length ≤ 255 := by
  unfold f_foghornref17_Out f_weave_Out f_foghornref17_Of f_weave_may
  by_cases h1 : (decide (c < (1 : Int)) || decide ((255 : Int) < c)) = true
  · rw [if_pos h1]
    exact ⟨[], 1, rfl, rfl, by simp⟩
  · rw [if_neg h1]
    simp at h1
    have hne : c ≠ 0 := by omega
    simp only [if_pos hne, Option.bind_some]
    by_cases h2 : (((s.size : Int).tmod c) != 0) = true
    · rw [if_pos h2]
      exact ⟨[], 1, rfl, rfl, by simp⟩
    · rw [if_neg h2]
      simp only [Option.bind_some]
      have hq1 : 0 ≤ (s.size : Int).tdiv c := Int.tdiv_nonneg (by omega) (by omega)
      have hq2 : (s.size : Int).tdiv c ≤ s.size := by
        rw [Int.tdiv_eq_ediv_of_nonneg (by omega)]
        exact Int.ediv_le_self _ (by omega)
      rw [w64 (x := (s.size : Int).tdiv c) (by omega) (by omega)]
      by_cases h3 : (!((decide ((1 : Int) ≤ c) && decide (c ≤ (255 : Int))) && decide ((1 : Int) ≤ (s.size : Int).tdiv c) && decide ((s.size : Int).tdiv c ≤ (255 : Int)))) = true
      · rw [if_pos h3, if_pos h3]
        exact ⟨[], 1, rfl, rfl, by simp⟩
      · rw [if_neg h3, if_neg h3]
        simp at h3 h2
        have hsz : s.size ≤ 65025 := by
          have e1 := Int.mul_tdiv_add_tmod (s.size : Int) c
          have e2 : (s.size : Int).tdiv c = (s.size : Int) / c := Int.tdiv_eq_ediv_of_nonneg (by omega)
          rw [h2] at e1
          have h4 : c * (s.size : Int).tdiv c ≤ 255 * 255 := Int.mul_le_mul (by omega) (by omega) (by omega) (by omega)
          omega
        obtain ⟨l, k1, k2, k3⟩ := out_loops s c hsz (by omega) (by omega)
        have e : List.replicate ((0 : Int)).toNat ByteArray.empty = [] := rfl
        rw [k1, if_pos (by omega), e, k2]
        exact ⟨l, 0, rfl, rfl, k3⟩

theorem texts_self (a : List ByteArray) (h : a.length < 140737488351233) : f_foghornref17_Texts a a = some true := by
  unfold f_foghornref17_Texts
  rw [if_neg (by simp)]
  have := loop_same (f := f_foghornref17_Texts.s1 a a) a (fun x y => !seq x y) (by simp [seq_self]) (by omega) false (fun i => rfl)
  rw [this]; rfl

theorem flip_some (words l : List ByteArray) (h : l.length = words.length) (hl : words.length < 140737488351233) : ∃ z, loop (f_foghornlaw17_WeaveWords.s2 words) (l, (0 : Int)) = some z ∧ z.length = words.length := by
  refine loop_inv (f := f_foghornlaw17_WeaveWords.s2 words) (fun s : List ByteArray × Int => s.1.length = words.length ∧ 0 ≤ s.2 ∧ s.2 ≤ words.length) (fun s => words.length - s.2.toNat) (fun z : List ByteArray => z.length = words.length) ?_ _ ⟨h, by simp, by simp⟩
  rintro ⟨x, k⟩ ⟨h1, h2, h3⟩
  simp only at h1 h2 h3
  simp only [f_foghornlaw17_WeaveWords.s2, f_foghornlaw17_WeaveWords.s2c]
  by_cases hk : k < words.length
  · rw [if_pos (by simpa using hk), w64 (x := (words.length : Int) - 1) (by omega) (by omega), w64 (x := (words.length : Int) - 1 - k) (by omega) (by omega), if_pos (by omega), if_pos (by omega), w64 (x := k + 1) (by omega) (by omega)]
    exact .inl ⟨_, rfl, ⟨by simpa using h1, by simp; omega, by simp; omega⟩, by simp; omega⟩
  · rw [if_neg (by simpa using hk)]
    exact .inr ⟨_, rfl, h1⟩

theorem round_some (words l : List ByteArray) (r : Int) (h : l.length = words.length) (hl : words.length * 16 ≤ 140737488351232) (hr : 0 ≤ r) (hr2 : r < 2) (h0 : r = 0 → l = words) :
    ∃ z, f_foghornlaw17_WeaveWords.s1 words (l, r) = some (.inl (z, r + 1)) ∧ z.length = words.length := by
  obtain ⟨z, h1, h2⟩ := flip_some words l h (by omega)
  refine ⟨z, ?_, h2⟩
  obtain ⟨q, h3, h4⟩ := in_same l
  simp only [f_foghornlaw17_WeaveWords.s1, f_foghornlaw17_WeaveWords.s1c, List.nil_append, List.append_nil, List.length_nil, Nat.zero_add, Int.toNat_natCast]
  have hd : (words ++ [ByteArray.mk #[109, 97, 114, 107]]).drop words.length = [ByteArray.mk #[109, 97, 114, 107]] := by simp
  rw [if_pos (by simpa using hr2), if_pos (by omega), h3, h4, hd, w64 (x := (words.length : Int) + 1) (by omega) (by omega)]
  simp only [Option.bind_some, seq_self, Bool.not_true, bne_self_eq_false, Bool.or_false, Bool.false_eq_true, if_false]
  have hg : gt ((l ++ [ByteArray.mk #[109, 97, 114, 107]]).take ((words.length : Int) + 1).toNat) (words.length : Int) = ByteArray.mk #[109, 97, 114, 107] := by
    rw [List.take_of_length_le (by simp; omega), gt_nat (by simp; omega), List.getElem_append_right (by omega)]
    simp [h]
  rw [if_pos (by simp; omega), if_pos (by simp; omega), hg, seq_self]
  simp only [Option.bind_some, Bool.not_true, Bool.false_eq_true, if_false]
  by_cases hr0 : r = 0
  · rw [h0 hr0] at h1 ⊢
    rw [if_pos (by simp [hr0]), texts_self words (by omega)]
    simp only [Option.bind_some, Bool.not_true, Bool.false_eq_true, if_false, h1]
    rw [w64 (by omega) (by omega)]
  · rw [if_neg (by simp [hr0])]
    simp only [Option.bind_some, Bool.false_eq_true, if_false, h1]
    rw [w64 (by omega) (by omega)]

theorem fill_some (y : List ByteArray) (h : y.length ≤ 255) : ∃ z, loop f_foghornlaw17_WeaveWords.s3 (y, 0) = some z ∧ z.length = y.length := by
  refine loop_inv (fun s : List ByteArray × Int => s.1.length = y.length ∧ 0 ≤ s.2 ∧ s.2 ≤ s.1.length) (fun s => s.1.length - s.2.toNat) (fun z : List ByteArray => z.length = y.length) ?_ _ ⟨rfl, by simp, by simp⟩
  rintro ⟨x, k⟩ ⟨h1, h2, h3⟩
  simp only at h1 h2 h3
  simp only [f_foghornlaw17_WeaveWords.s3, f_foghornlaw17_WeaveWords.s3c]
  by_cases hk : k < x.length
  · rw [if_pos (by simpa using hk), if_pos (by omega), w64 (by omega) (by omega)]
    exact .inl ⟨_, rfl, ⟨by simpa using h1, by simp; omega, by simp; omega⟩, by simp; omega⟩
  · rw [if_neg (by simpa using hk)]
    exact .inr ⟨_, rfl, h1⟩
theorem grow_some (y : List ByteArray) (h : y.length ≤ 255) : ∃ z, loop f_foghornlaw17_WeaveWords.s4 (y, 0) = some z ∧ z.length = y.length + 20 := by
  refine loop_inv (fun s : List ByteArray × Int => 0 ≤ s.2 ∧ s.2 ≤ 20 ∧ s.1.length = y.length + s.2.toNat) (fun s => 20 - s.2.toNat) (fun z : List ByteArray => z.length = y.length + 20) ?_ _ ⟨by simp, by simp, by simp⟩
  rintro ⟨x, k⟩ ⟨h1, h2, h3⟩
  simp only at h1 h2 h3
  simp only [f_foghornlaw17_WeaveWords.s4, f_foghornlaw17_WeaveWords.s4c]
  by_cases hk : k < 20
  · rw [if_pos (by simpa using hk), if_pos (by simp; omega), w64 (by omega) (by omega)]
    exact .inl ⟨_, rfl, ⟨by simp; omega, by simp; omega, by simp; omega⟩, by simp; omega⟩
  · rw [if_neg (by simpa using hk)]
    exact .inr ⟨_, rfl, by omega⟩

theorem words_true (words : List ByteArray) (w0 : ∀ x ∈ words, x.size ≤ maxLen) (r0 : words.length * 16 ≤ 140737488351232) (s : ByteArray) (r1 : s.size ≤ 140737488351232) (c : Int) (w2 : (Lit.int .i64 c).wf = true) :
    f_foghornlaw17_WeaveWords words s c = some true := by
  unfold f_foghornlaw17_WeaveWords
  simp only [List.nil_append, List.append_nil, List.length_nil, Nat.zero_add, Int.toNat_natCast]
  rw [if_pos (by omega), if_pos (by simp; omega), if_pos (by simp; omega), List.take_append_of_le_length (Nat.le_refl _), List.take_of_length_le (Nat.le_refl _)]
  obtain ⟨z1, h1, k1⟩ := round_some words words 0 rfl r0 (by omega) (by omega) (fun _ => rfl)
  obtain ⟨z2, h2, k2⟩ := round_some words z1 1 k1 r0 (by omega) (by omega) (fun h => absurd h (by decide))
  have h3 : f_foghornlaw17_WeaveWords.s1 words (z2, (1 : Int) + 1) = some (.inr (.inl ())) := by
    simp only [f_foghornlaw17_WeaveWords.s1, f_foghornlaw17_WeaveWords.s1c]
    rw [if_neg (by simp)]
  rw [loop_step h1, show (0 : Int) + 1 = 1 from rfl, loop_step h2, loop_done h3]
  obtain ⟨l, e, h4, h5, h6⟩ := out_same s c r1
  obtain ⟨y, h7, h8⟩ := fill_some l h6
  obtain ⟨y2, h9, h10⟩ := grow_some y (by omega)
  simp only [Option.bind_some, sm, h4, h5, texts_self l (by omega), h7, h9, bne_self_eq_false, Bool.false_eq_true, if_false, Bool.not_true, Bool.true_and]
  rw [w64 (by omega) (by omega)]
  simp; omega
end Go.Proofs.Ythoigfonjpmibaa.Words
