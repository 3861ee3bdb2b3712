/- WeaveNames: the plain law. -/
import Derived.Test.YthoigfonjpmibaaG5
import Derived.Test.YthoigfonjpmibaaGlK
set_option linter.unusedVariables false
set_option maxRecDepth 4000
namespace Go.Proofs.Ythoigfonjpmibaa
open GL

/-! ### Rings and looms -/
abbrev Rg := List Int × Int
def qu (r : Rg) : List Int := r.1.drop r.2.toNat ++ r.1.take r.2.toNat
def okR (r : Rg) : Prop := 0 ≤ r.2 ∧ (r.1 = [] ∨ r.2 < (r.1.length : Int))
theorem gt_set_self {α : Type} [Inhabited α] {xs : List α} {i : Int} {y : α} (h0 : 0 ≤ i) (h1 : i < xs.length) : gt (xs.set i.toNat y) i = y := by
  rw [gt_get h0 (by simpa using h1)]; simp
theorem gt_set_ne {α : Type} [Inhabited α] {xs : List α} {i j : Int} {y : α} (h0 : 0 ≤ i) (h1 : 0 ≤ j) (h : i ≠ j) : gt (xs.set i.toNat y) j = gt xs j := by
  unfold gt
  rw [List.getD_eq_getElem?_getD, List.getD_eq_getElem?_getD, List.getElem?_set_ne (by omega)]
theorem set_gt {α : Type} [Inhabited α] {xs : List α} {i : Int} (h0 : 0 ≤ i) (h1 : i < xs.length) : xs.set i.toNat (gt xs i) = xs := by
  apply List.ext_getElem?
  intro j
  by_cases hj : i.toNat = j
  · subst hj; rw [List.getElem?_set_self (by omega), gt_of h0 h1]
  · rw [List.getElem?_set_ne hj]
theorem qu_len (r : Rg) : (qu r).length = r.1.length := by simp [qu]; omega

theorem ring_push {s : LoomS} {i x : Int} (hs : s.1.length = 64) (h0 : 0 ≤ i) (h1 : i < 64) (ok : okR (gt s.1 i)) (hl : (gt s.1 i).1.length ≤ 65536) :
    ∃ r' : Rg, f_weave_ring_push s i x = some (gt (qu (gt s.1 i) ++ [x]) 0, (s.1.set i.toNat r', s.2)) ∧ okR r' ∧ qu r' = (qu (gt s.1 i) ++ [x]).drop 1 ∧ r'.1.length = (gt s.1 i).1.length := by
  have hil : i < (s.1.length : Int) := by omega
  unfold f_weave_ring_push
  by_cases he : (gt s.1 i).1.length = 0
  · have hnil : (gt s.1 i).1 = [] := List.eq_nil_of_length_eq_zero he
    rw [if_pos (by simp [he])]
    have hq : qu (gt s.1 i) = [] := List.eq_nil_of_length_eq_zero (by rw [qu_len]; exact he)
    refine ⟨gt s.1 i, ?_, ok, by rw [hq]; rfl, rfl⟩
    rw [hq, set_gt h0 hil]; rfl
  · have hp := ok.2.resolve_left (fun h => he (by rw [h]; rfl))
    have hp0 := ok.1
    rw [if_neg (fun h => by have := beq_iff_eq.1 h; omega), if_pos ⟨hp0, hp⟩, if_pos ⟨hp0, hp⟩]
    have e1 : gt (s.1.set i.toNat ((gt s.1 i).1.set (gt s.1 i).2.toNat x, (gt s.1 i).2), s.2).1 i = ((gt s.1 i).1.set (gt s.1 i).2.toNat x, (gt s.1 i).2) := gt_set_self h0 hil
    rw [e1]
    simp only [List.length_set]
    rw [if_pos (by omega)]
    generalize gt s.1 i = r at *
    obtain ⟨xs, p⟩ := r
    simp only at hp hp0 he hl ⊢
    obtain ⟨p, rfl⟩ : ∃ n : Nat, p = (n : Int) := ⟨p.toNat, by omega⟩
    have hpl : p < xs.length := by omega
    rw [w64 (x := (p : Int) + 1) (by omega) (by omega)]
    have hm : ((p : Int) + 1).tmod (xs.length : Int) = (if p + 1 = xs.length then 0 else (p : Int) + 1) := by
      rw [Int.tmod_eq_emod_of_nonneg (by omega)]
      split
      · rename_i h
        rw [← h]; simp
      · exact Int.emod_eq_of_lt (by omega) (by omega)
    rw [hm]
    refine ⟨(xs.set p x, if p + 1 = xs.length then 0 else (p : Int) + 1), ?_, ⟨by simp only; split <;> omega, .inr (by simp only [List.length_set]; split <;> omega)⟩, ?_, by simp⟩
    · rw [List.set_set]
      congr 2
      simp only [qu, Int.toNat_natCast]
      rw [List.drop_eq_getElem_cons hpl, gt_nat hpl]
      rfl
    · simp only [qu, Int.toNat_natCast]
      have hd : xs.drop p = xs[p] :: xs.drop (p + 1) := List.drop_eq_getElem_cons hpl
      have hset : xs.set p x = xs.take p ++ x :: xs.drop (p + 1) := by rw [List.set_eq_take_append_cons_drop, if_pos hpl]
      have htl : (xs.take p).length = p := by rw [List.length_take]; omega
      split
      · rename_i h
        rw [hd, hset, List.drop_eq_nil_of_le (show xs.length ≤ p + 1 by omega)]
        simp
      · rename_i h
        have ht : ((p : Int) + 1).toNat = p + 1 := by omega
        rw [ht, hd, hset]
        have e2 : (xs.take p ++ x :: xs.drop (p + 1)).drop (p + 1) = xs.drop (p + 1) := by
          rw [List.drop_append, htl, List.drop_eq_nil_of_le (by omega), show p + 1 - p = 1 by omega]; rfl
        have e3 : (xs.take p ++ x :: xs.drop (p + 1)).take (p + 1) = xs.take p ++ [x] := by
          rw [List.take_append, htl, List.take_of_length_le (by omega), show p + 1 - p = 1 by omega]; rfl
        rw [e2, e3, List.cons_append, List.cons_append, List.drop_succ_cons, List.drop_zero, List.append_assoc]

/-- how many bytes branch i had, behind t pushes -/
def cn (b t i : Nat) : Nat := (t + b - 1 - i) / b
theorem cn_val {b d m i : Nat} (hm : m < b) (hi : i < b) : cn b (b * d + m) i = if i < m then d + 1 else d := by
  unfold cn
  split
  · rw [show b * d + m + b - 1 - i = (m - 1 - i) + b * (d + 1) by rw [Nat.mul_succ]; omega, Nat.add_mul_div_left _ _ (by omega), Nat.div_eq_of_lt (by omega)]; omega
  · rw [show b * d + m + b - 1 - i = (m + b - 1 - i) + b * d by omega, Nat.add_mul_div_left _ _ (by omega), Nat.div_eq_of_lt (by omega)]; omega
theorem cn_at {b t : Nat} (hb : 0 < b) : cn b t (t % b) = t / b := by
  have h := Nat.div_add_mod t b
  have := cn_val (d := t / b) (Nat.mod_lt t hb) (Nat.mod_lt t hb)
  rw [h, if_neg (by omega)] at this
  exact this
theorem cn_next {b t i : Nat} (hb : 0 < b) (hi : i < b) : cn b (t + 1) i = if i = t % b then cn b t i + 1 else cn b t i := by
  have h := Nat.div_add_mod t b
  have hm := Nat.mod_lt t hb
  have k1 := cn_val (d := t / b) hm hi
  rw [h] at k1
  generalize t / b = d at *
  generalize t % b = m at *
  by_cases h1 : m + 1 < b
  · have k2 := cn_val (d := d) h1 hi
    rw [show b * d + (m + 1) = t + 1 by omega] at k2
    rw [k1, k2]
    split <;> split <;> split <;> omega
  · have k2 := cn_val (d := d + 1) (show 0 < b by omega) hi
    rw [show b * (d + 1) + 0 = t + 1 by rw [Nat.mul_succ]; omega] at k2
    rw [k1, k2]
    split <;> split <;> split <;> omega

def hist (L : Nat → Nat) (b : Nat) (inp : Nat → Int) (i c : Nat) : List Int := List.replicate (L i) 0 ++ (List.range c).map fun c => inp (c * b + i)
theorem hist_len (L : Nat → Nat) (b : Nat) (inp : Nat → Int) (i c : Nat) : (hist L b inp i c).length = L i + c := by simp [hist]
theorem hist_next (L : Nat → Nat) (b : Nat) (inp : Nat → Int) (i c : Nat) : hist L b inp i c ++ [inp (c * b + i)] = hist L b inp i (c + 1) := by simp [hist, List.range_succ]

structure LInv (L : Nat → Nat) (b n : Nat) (inp : Nat → Int) (t : Nat) (s : LoomS) : Prop where
  len : s.1.length = 64
  br : s.2.1 = (b : Int)
  st : s.2.2.1 = (n : Int)
  tu : s.2.2.2 = ((t % b : Nat) : Int)
  ok : ∀ i : Nat, i < b → okR (gt s.1 (i : Int)) ∧ (gt s.1 (i : Int)).1.length = L i ∧ qu (gt s.1 (i : Int)) = (hist L b inp i (cn b t i)).drop (cn b t i)

def outp (L : Nat → Nat) (b : Nat) (inp : Nat → Int) (t : Nat) : Int := if t / b < L (t % b) then 0 else inp (t - L (t % b) * b)

theorem push_inv {L : Nat → Nat} {b n t : Nat} {inp : Nat → Int} {s : LoomS} (h : LInv L b n inp t s) (hb : 1 ≤ b) (hb2 : b ≤ 64) (hL : ∀ i, i < b → L i ≤ 65536) :
    ∃ s', f_weave_Loom_Push (some s) (inp t) = some (outp L b inp t, 0, some s') ∧ LInv L b n inp (t + 1) s' := by
  have hm := Nat.mod_lt t (show 0 < b by omega)
  have hdm := Nat.div_add_mod t b
  obtain ⟨o1, o2, o3⟩ := h.ok _ hm
  have hLm := hL _ hm
  obtain ⟨r', e1, e2, e3, e4⟩ := ring_push (x := inp t) h.len (i := ((t % b : Nat) : Int)) (by omega) (by omega) o1 (by omega)
  have hc := cn_at (t := t) (show 0 < b by omega)
  have hx : inp t = inp (t / b * b + t % b) := by rw [Nat.mul_comm, hdm]
  have hqx : qu (gt s.1 ((t % b : Nat) : Int)) ++ [inp t] = (hist L b inp (t % b) (t / b + 1)).drop (t / b) := by
    rw [o3, hc, ← hist_next, hx, List.drop_append_of_le_length (by rw [hist_len]; omega)]
  refine ⟨(s.1.set (t % b) r', s.2.1, s.2.2.1, (((t + 1) % b : Nat) : Int)), ?_, ?_⟩
  · unfold f_weave_Loom_Push
    simp only [Option.isNone_some, Bool.false_eq_true, if_false, Option.bind_some]
    rw [h.tu, if_pos (by omega), e1]
    simp only [Option.bind_some]
    rw [h.br, if_pos (by omega), h.tu, w64 (by omega) (by omega), Int.toNat_natCast]
    have hmod : (((t % b : Nat) : Int) + 1).tmod (b : Int) = (((t + 1) % b : Nat) : Int) := by
      rw [Int.tmod_eq_emod_of_nonneg (by omega), show ((t % b : Nat) : Int) + 1 = ((t % b + 1 : Nat) : Int) by omega]
      rw [show ((t % b + 1 : Nat) : Int) % (b : Int) = (((t % b + 1) % b : Nat) : Int) from rfl, Nat.mod_add_mod]
    rw [hmod]
    congr 2
    rw [hqx]
    have hlt : 0 < ((hist L b inp (t % b) (t / b + 1)).drop (t / b)).length := by rw [List.length_drop, hist_len]; omega
    rw [show (0 : Int) = ((0 : Nat) : Int) from rfl, gt_nat hlt]
    simp only [List.getElem_drop, Nat.add_zero]
    unfold outp hist
    split
    · rename_i hlt2
      rw [List.getElem_append_left (by simpa using hlt2)]; simp
    · rename_i hge
      rw [List.getElem_append_right (by simpa using hge)]
      simp only [List.length_replicate, List.getElem_map, List.getElem_range]
      congr 1
      have hq : t = t / b * b + t % b := by rw [Nat.mul_comm]; omega
      rw [Nat.sub_mul]
      have := Nat.mul_le_mul_right b (show L (t % b) ≤ t / b by omega)
      omega
  · refine ⟨by simpa using h.len, h.br, h.st, rfl, fun i hi => ?_⟩
    rw [cn_next (by omega) hi]
    by_cases hie : i = t % b
    · subst hie
      have hself : gt (s.1.set (t % b) r') ((t % b : Nat) : Int) = r' := by
        have := gt_set_self (xs := s.1) (i := ((t % b : Nat) : Int)) (y := r') (by omega) (by rw [h.len]; omega)
        rwa [Int.toNat_natCast] at this
      simp only [if_true]
      rw [hself]
      refine ⟨e2, by rw [e4, o2], ?_⟩
      rw [e3, hqx, hc, List.drop_drop]
    · have hne : gt (s.1.set (t % b) r') (i : Int) = gt s.1 (i : Int) := by
        have := gt_set_ne (xs := s.1) (i := ((t % b : Nat) : Int)) (j := (i : Int)) (y := r') (by omega) (by omega) (by omega)
        rwa [Int.toNat_natCast] at this
      simp only [hie, if_false]
      rw [hne]
      exact h.ok i hi

theorem start_inv {L : Nat → Nat} {b n : Nat} (inp : Nat → Int) (hb : 1 ≤ b) (hb2 : b ≤ 64) :
    LInv L b n inp 0 ((List.range 64).map fun i => if i < b then (List.replicate (L i) 0, 0) else ([], 0), (b : Int), (n : Int), 0) := by
  refine ⟨by simp, rfl, rfl, by simp, fun i hi => ?_⟩
  have hg : gt ((List.range 64).map fun i => if i < b then ((List.replicate (L i) 0, 0) : Rg) else ([], 0)) (i : Int) = (List.replicate (L i) 0, 0) := by
    rw [gt_nat (by simp; omega)]; simp [hi]
  simp only
  rw [hg]
  have hc : cn b 0 i = 0 := by unfold cn; exact Nat.div_eq_of_lt (by omega)
  refine ⟨⟨by simp, ?_⟩, by simp, by rw [hc]; simp [qu, hist]⟩
  rcases Nat.eq_zero_or_pos (L i) with h | h
  · left; simp [h]
  · right; simp; omega

theorem new_some (b n : Nat) (hb : 1 ≤ b) (hb2 : b ≤ 64) (hn : 1 ≤ n) (hn2 : n ≤ 64) :
    f_weave_New (b : Int) (n : Int) = some (some ((List.range 64).map fun i => if i < b then (List.replicate (i * n) 0, 0) else ([], 0), (b : Int), (n : Int), 0), 0) := by
  unfold f_weave_New f_weave_made
  rw [if_neg (by simp; omega)]
  have key := loop_for (f := f_weave_made.s1 (b : Int) (n : Int)) b (fun k => (((List.range 64).map fun i => if i < k then ((List.replicate (i * n) 0, 0) : Rg) else ([], 0), (b : Int), (n : Int), (0 : Int)) : LoomS))
    ((List.range 64).map fun i => if i < b then (List.replicate (i * n) 0, 0) else ([], 0), (b : Int), (n : Int), (0 : Int)) (fun k hk => ?_) ?_
  · have e0 : ((List.range 64).map fun i => if i < 0 then ((List.replicate (i * n) 0, 0) : Rg) else ([], 0)) = List.replicate 64 ([], 0) := by rfl
    rw [e0] at key
    rw [key]; rfl
  · simp only [f_weave_made.s1, f_weave_made.s1c, f_weave_New_1, Option.bind_some]
    have hkn : k * n ≤ 4096 := Nat.mul_le_mul (show k ≤ 64 by omega) hn2
    have hp : (k : Int) * (n : Int) = ((k * n : Nat) : Int) := (Int.natCast_mul k n).symm
    rw [if_pos (by simpa using hk), hp, w64 (by omega) (by omega), if_pos (by omega), if_pos (by omega), w64 (x := (k : Int) + 1) (by omega) (by omega), Int.toNat_natCast, Int.toNat_natCast]
    have hg : (gt ((List.range 64).map fun i => if i < k then ((List.replicate (i * n) 0, 0) : Rg) else ([], 0)) (k : Int)).2 = 0 := by
      rw [gt_nat (by simp; omega)]; simp
    rw [hg]
    refine congrArg (fun r : List Rg => some (Sum.inl ((r, (b : Int), (n : Int), (0 : Int)), (k : Int) + 1))) ?_
    apply List.ext_getElem
    · simp
    · intro i h1 h2
      simp only [List.length_set, List.length_map, List.length_range] at h1
      rw [List.getElem_set]
      simp only [List.getElem_map, List.getElem_range]
      split
      · rename_i h; subst h; simp
      · rename_i h
        by_cases h3 : i < k
        · rw [if_pos h3, if_pos (by omega)]
        · rw [if_neg h3, if_neg (by omega)]
  · simp only [f_weave_made.s1, f_weave_made.s1c]
    rw [if_neg (by simp)]

theorem run_inv {L : Nat → Nat} {b n t : Nat} {inp : Nat → Int} {s : LoomS} (h : LInv L b n inp t s) (hb : 1 ≤ b) (hb2 : b ≤ 64) (hL : ∀ i, i < b → L i ≤ 65536) (str : ByteArray) (hs : str.size ≤ 32768)
    (hin : ∀ j : Nat, j < str.size → inp (t + j) = gt (sbytes str) (j : Int)) :
    ∃ s', f_weave_Loom_Run (some s) str = some (bstr ((List.range str.size).map fun j => outp L b inp (t + j)), 0, some s') ∧ LInv L b n inp (t + str.size) s' := by
  have hsl := sbytes_len str
  have key : ∀ (k j : Nat) (s : LoomS) (out : List Int), j + k = str.size → LInv L b n inp (t + j) s → out = (List.range j).map (fun j => outp L b inp (t + j)) →
      ∃ s', loop (f_weave_Loom_Run.s1 str) (some s, out, (j : Int)) = some (some s', (List.range str.size).map fun j => outp L b inp (t + j)) ∧ LInv L b n inp (t + str.size) s' := by
    intro k
    induction k with
    | zero =>
      intro j s out hj hi ho
      refine ⟨s, loop_done ?_, by rw [show str.size = j by omega]; exact hi⟩
      simp only [f_weave_Loom_Run.s1, f_weave_Loom_Run.s1c]
      rw [if_neg (by simp; omega), ho, show str.size = j by omega]
    | succ k ih =>
      intro j s out hj hi ho
      obtain ⟨s', e1, e2⟩ := push_inv hi hb hb2 hL
      rw [hin j (by omega)] at e1
      obtain ⟨s'', e3, e4⟩ := ih (j + 1) s' (out ++ [outp L b inp (t + j)]) (by omega) e2 (by rw [ho, List.range_succ, List.map_append]; rfl)
      refine ⟨s'', ?_, e4⟩
      rw [loop_step (s' := (some s', out ++ [outp L b inp (t + j)], ((j + 1 : Nat) : Int)))]
      · exact e3
      · simp only [f_weave_Loom_Run.s1, f_weave_Loom_Run.s1c]
        have hol : out.length = j := by rw [ho]; simp
        rw [if_pos (by simp; omega), if_pos (by omega), e1]
        simp only [Option.bind_some]
        rw [if_pos (by simp; omega), w64 (by omega) (by omega)]; rfl
  obtain ⟨s', e1, e2⟩ := key str.size 0 s [] (by omega) h rfl
  refine ⟨s', ?_, e2⟩
  unfold f_weave_Loom_Run
  simp only [Option.isNone_some, Bool.false_eq_true, if_false, Option.bind_some]
  rw [if_neg (by simp; omega), if_pos (by omega), if_pos (by omega)]
  have e0 : List.replicate ((0 : Int)).toNat (0 : Int) = [] := rfl
  rw [e0, show (0 : Int) = ((0 : Nat) : Int) from rfl, e1]
  rfl
theorem delay_some {L : Nat → Nat} {b n t : Nat} {inp : Nat → Int} {s : LoomS} (h : LInv L b n inp t s) (hb : 1 ≤ b) (hb2 : b ≤ 64) (hn2 : n ≤ 64) : f_weave_Loom_Delay (some s) = some (((b * (b - 1) * n : Nat) : Int), some s) := by
  unfold f_weave_Loom_Delay
  simp only [Option.isNone_some, Bool.false_eq_true, if_false, Option.bind_some]
  have h1 : b * (b - 1) ≤ 4032 := Nat.mul_le_mul hb2 (show b - 1 ≤ 63 by omega)
  have h2 : b * (b - 1) * n ≤ 258048 := Nat.mul_le_mul h1 hn2
  rw [h.br, h.st, w64 (x := (b : Int) - 1) (by omega) (by omega), show (b : Int) - 1 = ((b - 1 : Nat) : Int) by omega, ← Int.natCast_mul, w64 (x := ((b * (b - 1) : Nat) : Int)) (by omega) (by omega), ← Int.natCast_mul, w64 (by omega) (by omega)]


theorem names_true : f_foghornlaw17_WeaveNames = some true := by
  have e1 : f_weave_Loom_Push none 1 = some (0, 2, none) := rfl
  have e2 : f_weave_Loom_Run none (ByteArray.mk #[97]) = some (ByteArray.mk #[], 2, none) := rfl
  have e3 : f_weave_Place 254 254 255 255 = some (65024, 0) := by
    unfold f_weave_Place f_weave_may
    simp only [Option.bind_some]
    rw [if_neg (by decide)]
    rfl
  have e4 : f_weave_Place 255 0 255 255 = some (0, 1) := by
    unfold f_weave_Place f_weave_may
    simp only [Option.bind_some]
    rw [if_pos (by decide)]
  have e5 : f_weave_Out (ByteArray.mk #[]) 1 = some ([], 1) := by
    unfold f_weave_Out f_weave_may
    simp only [Option.bind_some]
    rfl
  have e6 := new_some 1 1 (by omega) (by omega) (by omega) (by omega)
  have hsz : (bstr (mk0 (32769 : Int) (0 : Int))).size = 32769 := by
    have : (bstr (mk0 (32769 : Int) (0 : Int))).size = (mk0 (32769 : Int) (0 : Int)).length := by simp [bstr, ByteArray.size]
    rw [this, mk0_eq, List.length_replicate]; rfl
  have e7 : ∀ s : LoomS, f_weave_Loom_Run (some s) (bstr (mk0 (32769 : Int) (0 : Int))) = some (ByteArray.mk #[], 1, some s) := fun s => by
    unfold f_weave_Loom_Run
    simp only [Option.isNone_some, Bool.false_eq_true, if_false, Option.bind_some]
    rw [if_pos (by rw [hsz]; decide)]
  have e8 : f_weave_Loom_Delay none = some (0, none) := rfl
  unfold f_foghornlaw17_WeaveNames
  rw [e1, e2, e3, e4, e5]
  simp only [Option.bind_some]
  rw [show (1 : Int) = ((1 : Nat) : Int) from rfl, e6]
  simp only [Option.bind_some]
  rw [if_neg (by decide), if_pos (by decide), e7, e8]
  rfl

end Go.Proofs.Ythoigfonjpmibaa
