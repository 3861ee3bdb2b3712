/- The plain law of WeaveLooms: both looms answer alike, step by step. -/
import Derived.Test.YthoigfonjpmibaaG20
import Derived.Test.YthoigfonjpmibaaGlK
import Derived.Test.YthoigfonjpmibaaGlW
set_option linter.unusedVariables false
set_option linter.unusedSimpArgs false
set_option maxRecDepth 100000
set_option maxHeartbeats 1000000
namespace Go.Proofs.Ythoigfonjpmibaa
open Go GL
/-! ### Rings and looms -/
abbrev Rg := List Int × Int
def qu (r : Rg) : List Int := r.1.drop r.2.toNat ++ r.1.take r.2.toNat
def okR (r : Rg) : Prop := 0 ≤ r.2 ∧ (r.1 = [] ∨ r.2 < (r.1.length : Int))
theorem gt_set_self {α : Type} [Inhabited α] {xs : List α} {i : Int} {y : α} (h0 : 0 ≤ i) (h1 : i < xs.length) : gt (xs.set i.toNat y) i = y := by
  rw [gt_get h0 (by simpa using h1)]; simp
theorem gt_set_ne {α : Type} [Inhabited α] {xs : List α} {i j : Int} {y : α} (h0 : 0 ≤ i) (h1 : 0 ≤ j) (h : i ≠ j) : gt (xs.set i.toNat y) j = gt xs j := by
  unfold gt
  rw [List.getD_eq_getElem?_getD, List.getD_eq_getElem?_getD, List.getElem?_set_ne (by omega)]
theorem set_gt {α : Type} [Inhabited α] {xs : List α} {i : Int} (h0 : 0 ≤ i) (h1 : i < xs.length) : xs.set i.toNat (gt xs i) = xs := by
  apply List.ext_getElem?
  intro j
  by_cases hj : i.toNat = j
  · subst hj; rw [List.getElem?_set_self (by omega), gt_of h0 h1]
  · rw [List.getElem?_set_ne hj]
theorem qu_len (r : Rg) : (qu r).length = r.1.length := by simp [qu]; omega

theorem ring_push {s : LoomS} {i x : Int} (hs : s.1.length = 64) (h0 : 0 ≤ i) (h1 : i < 64) (ok : okR (gt s.1 i)) (hl : (gt s.1 i).1.length ≤ 65536) :
    ∃ r' : Rg, f_weave_ring_push s i x = some (gt (qu (gt s.1 i) ++ [x]) 0, (s.1.set i.toNat r', s.2)) ∧ okR r' ∧ qu r' = (qu (gt s.1 i) ++ [x]).drop 1 ∧ r'.1.length = (gt s.1 i).1.length := by
  have hil : i < (s.1.length : Int) := by omega
  unfold f_weave_ring_push
  by_cases he : (gt s.1 i).1.length = 0
  · have hnil : (gt s.1 i).1 = [] := List.eq_nil_of_length_eq_zero he
    rw [if_pos (by simp [he])]
    have hq : qu (gt s.1 i) = [] := List.eq_nil_of_length_eq_zero (by rw [qu_len]; exact he)
    refine ⟨gt s.1 i, ?_, ok, by rw [hq]; rfl, rfl⟩
    rw [hq, set_gt h0 hil]; rfl
  · have hp := ok.2.resolve_left (fun h => he (by rw [h]; rfl))
    have hp0 := ok.1
    rw [if_neg (fun h => by have := beq_iff_eq.1 h; omega), if_pos ⟨hp0, hp⟩, if_pos ⟨hp0, hp⟩]
    have e1 : gt (s.1.set i.toNat ((gt s.1 i).1.set (gt s.1 i).2.toNat x, (gt s.1 i).2), s.2).1 i = ((gt s.1 i).1.set (gt s.1 i).2.toNat x, (gt s.1 i).2) := gt_set_self h0 hil
    rw [e1]
    simp only [List.length_set]
    rw [if_pos (by omega)]
    generalize gt s.1 i = r at *
    obtain ⟨xs, p⟩ := r
    simp only at hp hp0 he hl ⊢
    obtain ⟨p, rfl⟩ : ∃ n : Nat, p = (n : Int) := ⟨p.toNat, by omega⟩
    have hpl : p < xs.length := by omega
    rw [w64 (x := (p : Int) + 1) (by omega) (by omega)]
    have hm : ((p : Int) + 1).tmod (xs.length : Int) = (if p + 1 = xs.length then 0 else (p : Int) + 1) := by
      rw [Int.tmod_eq_emod_of_nonneg (by omega)]
      split
      · rename_i h
        rw [← h]; simp
      · exact Int.emod_eq_of_lt (by omega) (by omega)
    rw [hm]
    refine ⟨(xs.set p x, if p + 1 = xs.length then 0 else (p : Int) + 1), ?_, ⟨by simp only; split <;> omega, .inr (by simp only [List.length_set]; split <;> omega)⟩, ?_, by simp⟩
    · rw [List.set_set]
      congr 2
      simp only [qu, Int.toNat_natCast]
      rw [List.drop_eq_getElem_cons hpl, gt_nat hpl]
      rfl
    · simp only [qu, Int.toNat_natCast]
      have hd : xs.drop p = xs[p] :: xs.drop (p + 1) := List.drop_eq_getElem_cons hpl
      have hset : xs.set p x = xs.take p ++ x :: xs.drop (p + 1) := by rw [List.set_eq_take_append_cons_drop, if_pos hpl]
      have htl : (xs.take p).length = p := by rw [List.length_take]; omega
      split
      · rename_i h
        rw [hd, hset, List.drop_eq_nil_of_le (show xs.length ≤ p + 1 by omega)]
        simp
      · rename_i h
        have ht : ((p : Int) + 1).toNat = p + 1 := by omega
        rw [ht, hd, hset]
        have e2 : (xs.take p ++ x :: xs.drop (p + 1)).drop (p + 1) = xs.drop (p + 1) := by
          rw [List.drop_append, htl, List.drop_eq_nil_of_le (by omega), show p + 1 - p = 1 by omega]; rfl
        have e3 : (xs.take p ++ x :: xs.drop (p + 1)).take (p + 1) = xs.take p ++ [x] := by
          rw [List.take_append, htl, List.take_of_length_le (by omega), show p + 1 - p = 1 by omega]; rfl
        rw [e2, e3, List.cons_append, List.cons_append, List.drop_succ_cons, List.drop_zero, List.append_assoc]

/-! ### Two looms in turns -/
theorem bnd_eq {α β : Type} {o : Option α} {a : α} {f : α → Option β} {r : Option β} (h : o = some a) (h2 : f a = r) : o.bind f = r := by subst h; exact h2
theorem loop_run {S R : Type} {f : S → Option (S ⊕ R)} (n : Nat) (s : Nat → S) (r : R) (h1 : ∀ i, i < n → f (s i) = some (.inl (s (i + 1)))) (h2 : f (s n) = some (.inr r)) {s0 : S} (h0 : s0 = s 0) : loop f s0 = some r := by
  subst h0
  have : ∀ k i : Nat, i + k = n → loop f (s i) = some r := by
    intro k
    induction k with
    | zero => intro i hi; obtain rfl : i = n := by omega
              exact loop_done h2
    | succ k ih => intro i hi; rw [loop_step (h1 i (by omega))]; exact ih (i + 1) (by omega)
  exact this n 0 (by omega)
structure LR (s : LoomS) (Rw : List (List Int)) (Tn St : Int) : Prop where
  len : s.1.length = 64
  br : s.2.1 = (Rw.length : Int)
  st : s.2.2.1 = St
  tu : s.2.2.2 = Tn
  b1 : 1 ≤ Rw.length ∧ Rw.length ≤ 64
  t0 : 0 ≤ Tn ∧ Tn < (Rw.length : Int)
  ok : ∀ i : Nat, i < Rw.length → okR (gt s.1 (i : Int)) ∧ (gt s.1 (i : Int)).1.length ≤ 4096 ∧ qu (gt s.1 (i : Int)) = gt Rw (i : Int)
theorem push_both {s : LoomS} {Rw : List (List Int)} {Tn St : Int} (h : LR s Rw Tn St) (x : Int) :
    ∃ y s' Rw' Tn', f_weave_Loom_Push (some s) x = some (y, 0, some s') ∧ f_foghornref17_Loom_Push Rw Tn St x = some (y, Rw', Tn', St) ∧ LR s' Rw' Tn' St := by
  obtain ⟨h1, h2⟩ := h.t0
  obtain ⟨b1, b2⟩ := h.b1
  obtain ⟨t, rfl⟩ : ∃ t : Nat, Tn = (t : Int) := ⟨Tn.toNat, by omega⟩
  have ht : t < Rw.length := by omega
  obtain ⟨o1, o2, o3⟩ := h.ok t ht
  obtain ⟨r', e1, e2, e3, e4⟩ := ring_push (x := x) h.len (i := (t : Int)) (by omega) (by omega) o1 (by omega)
  have hm : IntKind.i64.wrap ((t : Int) + 1) = (t : Int) + 1 := w64 (by omega) (by omega)
  have hql : (gt Rw (t : Int)).length ≤ 4096 := by rw [← o3, qu_len]; exact o2
  refine ⟨gt (gt Rw (t : Int) ++ [x]) 0, (s.1.set t r', s.2.1, s.2.2.1, ((t : Int) + 1).tmod (Rw.length : Int)), Rw.set t ((gt Rw (t : Int) ++ [x]).drop 1), ((t : Int) + 1).tmod (Rw.length : Int), ?_, ?_, ?_⟩
  · unfold f_weave_Loom_Push
    simp only [Option.isNone_some, Bool.false_eq_true, if_false, Option.bind_some]
    rw [h.tu, if_pos (by omega), e1]
    simp only [Option.bind_some]
    rw [h.br, if_pos (by omega), h.tu, hm, Int.toNat_natCast, o3]
  · unfold f_foghornref17_Loom_Push
    simp only [List.nil_append]
    rw [if_pos (by omega), if_pos (by omega), if_pos (by simp only [List.length_nil]; omega), if_pos (by simp only [List.length_cons, List.length_nil]; omega), if_pos (by simp only [List.length_append, List.length_cons, List.length_nil]; omega), if_pos (by omega), if_pos (by simp only [List.length_append, List.length_cons, List.length_nil]; omega), hm, Int.toNat_natCast]
    rfl
  · have htm : ((t : Int) + 1).tmod (Rw.length : Int) = (((t + 1) % Rw.length : Nat) : Int) := by
      rw [Int.tmod_eq_emod_of_nonneg (by omega)]; rfl
    refine ⟨by simpa using h.len, by simpa using h.br, h.st, rfl, by simpa using h.b1, ?_, fun i hi => ?_⟩
    · have := Nat.mod_lt (t + 1) (show 0 < Rw.length by omega)
      rw [htm, List.length_set]; omega
    · rw [List.length_set] at hi
      by_cases hie : i = t
      · subst hie
        have hself : gt (s.1.set i r') (i : Int) = r' := by
          have := gt_set_self (xs := s.1) (i := (i : Int)) (y := r') (by omega) (by rw [h.len]; omega)
          rwa [Int.toNat_natCast] at this
        have hself2 : gt (Rw.set i ((gt Rw (i : Int) ++ [x]).drop 1)) (i : Int) = (gt Rw (i : Int) ++ [x]).drop 1 := by
          have := gt_set_self (xs := Rw) (i := (i : Int)) (y := (gt Rw (i : Int) ++ [x]).drop 1) (by omega) (by omega)
          rwa [Int.toNat_natCast] at this
        simp only
        rw [hself, hself2]
        exact ⟨e2, by rw [e4]; exact o2, by rw [e3, o3]⟩
      · have hne : gt (s.1.set t r') (i : Int) = gt s.1 (i : Int) := by
          have := gt_set_ne (xs := s.1) (i := (t : Int)) (j := (i : Int)) (y := r') (by omega) (by omega) (by omega)
          rwa [Int.toNat_natCast] at this
        have hne2 : gt (Rw.set t ((gt Rw (t : Int) ++ [x]).drop 1)) (i : Int) = gt Rw (i : Int) := by
          have := gt_set_ne (xs := Rw) (i := (t : Int)) (j := (i : Int)) (y := (gt Rw (t : Int) ++ [x]).drop 1) (by omega) (by omega) (by omega)
          rwa [Int.toNat_natCast] at this
        simp only
        rw [hne, hne2]
        exact h.ok i hi
theorem bt_gt {s : ByteArray} {j : Nat} (hj : j < s.size) : bt s (j : Int) = gt (sbytes s) (j : Int) := by
  have hl : j < s.data.toList.length := by simpa using hj
  rw [gt_nat (by rw [sbytes_len]; exact hj)]
  unfold bt sbytes
  simp [List.getD_eq_getElem?_getD, hl]
  rw [Array.getElem?_eq_getElem (by simpa using hl)]; rfl
theorem run_both {s : LoomS} {Rw : List (List Int)} {Tn St : Int} (h : LR s Rw Tn St) (str : ByteArray) :
    ∃ y e s' Rw' Tn', f_weave_Loom_Run (some s) str = some (y, e, some s') ∧ f_foghornref17_Loom_Run Rw Tn St str = some (y, e, Rw', Tn', St) ∧ LR s' Rw' Tn' St := by
  unfold f_weave_Loom_Run f_foghornref17_Loom_Run
  simp only [Option.isNone_some, Bool.false_eq_true, if_false, Option.bind_some]
  by_cases hc : (32768 : Int) < (str.size : Int)
  · exact ⟨ByteArray.mk #[], 1, s, Rw, Tn, by rw [if_pos (by simpa using hc)], by rw [if_pos (by simpa using hc)], h⟩
  have hsl := sbytes_len str
  have key : ∀ (k j : Nat) (s : LoomS) (Rw : List (List Int)) (Tn : Int) (out : List Int), j + k = str.size → out.length = j → LR s Rw Tn St →
      ∃ out' s' Rw' Tn', loop (f_weave_Loom_Run.s1 str) (some s, out, (j : Int)) = some (some s', out') ∧ loop (f_foghornref17_Loom_Run.s1 str) (Rw, Tn, St, out, (j : Int)) = some (Rw', Tn', St, out') ∧ LR s' Rw' Tn' St := by
    intro k
    induction k with
    | zero =>
      intro j s Rw Tn out hj ho h
      refine ⟨out, s, Rw, Tn, loop_done ?_, loop_done ?_, h⟩
      · simp only [f_weave_Loom_Run.s1, f_weave_Loom_Run.s1c]
        rw [if_neg (by simp; omega)]
      · simp only [f_foghornref17_Loom_Run.s1, f_foghornref17_Loom_Run.s1c]
        rw [if_neg (by simp; omega)]
    | succ k ih =>
      intro j s Rw Tn out hj ho h
      obtain ⟨y, s', Rw', Tn', e1, e2, e3⟩ := push_both h (gt (sbytes str) (j : Int))
      obtain ⟨out', s'', Rw'', Tn'', g1, g2, g3⟩ := ih (j + 1) s' Rw' Tn' (out ++ [y]) (by omega) (by simp [ho]) e3
      refine ⟨out', s'', Rw'', Tn'', ?_, ?_, g3⟩
      · rw [loop_step (s' := (some s', out ++ [y], ((j + 1 : Nat) : Int)))]
        · exact g1
        · simp only [f_weave_Loom_Run.s1, f_weave_Loom_Run.s1c]
          rw [if_pos (by simp; omega), if_pos (by omega), e1]
          simp only [Option.bind_some]
          rw [if_pos (by simp; omega), w64 (by omega) (by omega)]; rfl
      · rw [loop_step (s' := (Rw', Tn', St, out ++ [y], ((j + 1 : Nat) : Int)))]
        · exact g2
        · simp only [f_foghornref17_Loom_Run.s1, f_foghornref17_Loom_Run.s1c]
          rw [if_pos (by simp; omega), if_pos (by omega), bt_gt (by omega), e2]
          simp only [Option.bind_some]
          rw [if_pos (by simp; omega), w64 (by omega) (by omega)]; rfl
  obtain ⟨out', s', Rw', Tn', e1, e2, e3⟩ := key str.size 0 s Rw Tn [] (by omega) rfl h
  refine ⟨bstr out', 0, s', Rw', Tn', ?_, ?_, e3⟩
  · rw [if_neg (by simp; omega), if_pos (by omega), if_pos (by omega)]
    have e0 : List.replicate ((0 : Int)).toNat (0 : Int) = [] := rfl
    rw [e0]
    have e1' : loop (f_weave_Loom_Run.s1 str) (some s, [], 0) = some (some s', out') := e1
    rw [e1']; rfl
  · rw [if_neg (by simp; omega)]
    have e2' : loop (f_foghornref17_Loom_Run.s1 str) (Rw, Tn, St, [], 0) = some (Rw', Tn', St, out') := e2
    rw [e2']; rfl
theorem delay_both {s : LoomS} {Rw : List (List Int)} {Tn St : Int} (h : LR s Rw Tn St) : ∃ d, f_weave_Loom_Delay (some s) = some d ∧ f_foghornref17_Loom_Delay Rw Tn St = some d := by
  refine ⟨_, ?_, rfl⟩
  unfold f_weave_Loom_Delay
  simp only [Option.isNone_some, Bool.false_eq_true, if_false, Option.bind_some]
  rw [h.br, h.st]

/-- how a loom begins -/
def mkLoom (hd : Nat → Nat) (b n : Nat) : LoomS := ((List.range 64).map fun i => if i < b then ((List.replicate (hd i * n) 0, 0) : Rg) else ([], 0), (b : Int), (n : Int), 0)
def mkRows (hd : Nat → Nat) (j n : Nat) : List (List Int) := (List.range j).map fun i => List.replicate (hd i * n) (0 : Int)
theorem mk_LR {hd : Nat → Nat} {b n : Nat} (hb : 1 ≤ b) (hb2 : b ≤ 64) (hn2 : n ≤ 64) (hh : ∀ i, i < b → hd i ≤ 63) : LR (mkLoom hd b n) (mkRows hd b n) 0 (n : Int) := by
  refine ⟨by simp [mkLoom], by simp [mkLoom, mkRows], rfl, rfl, by simp [mkRows]; omega, by simp [mkRows]; omega, fun i hi => ?_⟩
  have hi' : i < b := by simpa [mkRows] using hi
  have hg : gt (mkLoom hd b n).1 (i : Int) = (List.replicate (hd i * n) 0, 0) := by
    unfold mkLoom
    rw [gt_nat (by simp; omega)]; simp [hi']
  have hg2 : gt (mkRows hd b n) (i : Int) = List.replicate (hd i * n) 0 := by
    unfold mkRows
    rw [gt_nat (by simpa using hi')]; simp
  have hm : hd i * n ≤ 63 * 64 := Nat.mul_le_mul (hh i hi') hn2
  rw [hg, hg2]
  refine ⟨⟨by simp, ?_⟩, by simp; omega, by simp [qu]⟩
  rcases Nat.eq_zero_or_pos (hd i * n) with h | h
  · left; simp [h]
  · right; simp; omega
theorem loom_next {hd : Nat → Nat} {b n k : Nat} (hk : k < b) (hb2 : b ≤ 64) : (((List.range 64).map fun i => if i < k then ((List.replicate (hd i * n) 0, 0) : Rg) else ([], 0)).set k (List.replicate (hd k * n) 0, 0)) = ((List.range 64).map fun i => if i < k + 1 then ((List.replicate (hd i * n) 0, 0) : Rg) else ([], 0)) := by
  apply List.ext_getElem
  · simp
  · intro i h1 h2
    simp only [List.length_set, List.length_map, List.length_range] at h1
    rw [List.getElem_set]
    simp only [List.getElem_map, List.getElem_range]
    split
    · rename_i h; subst h; simp
    · rename_i h
      by_cases h3 : i < k
      · rw [if_pos h3, if_pos (by omega)]
      · rw [if_neg h3, if_neg (by omega)]
theorem loom_z {hd : Nat → Nat} {n k : Nat} (hk : k < 64) : (gt ((List.range 64).map fun i => if i < k then ((List.replicate (hd i * n) 0, 0) : Rg) else ([], 0)) (k : Int)).2 = 0 := by
  rw [gt_nat (by simp; omega)]; simp
theorem New_ok {b n : Nat} (hb : 1 ≤ b) (hb2 : b ≤ 64) (hn : 1 ≤ n) (hn2 : n ≤ 64) : f_weave_New (b : Int) (n : Int) = some (some (mkLoom (fun i => i) b n), 0) := by
  unfold f_weave_New f_weave_made
  rw [if_neg (by simp; omega)]
  have key := loop_run (f := f_weave_made.s1 (b : Int) (n : Int)) b (fun k => ((((List.range 64).map fun i => if i < k then ((List.replicate (i * n) 0, 0) : Rg) else ([], 0), (b : Int), (n : Int), (0 : Int)) : LoomS), (k : Int)))
    (mkLoom (fun i => i) b n) (fun k hk => ?_) ?_ (s0 := ((List.replicate 64 ([], 0), (b : Int), (n : Int), 0), 0)) rfl
  · rw [key]; rfl
  · simp only [f_weave_made.s1, f_weave_made.s1c, f_weave_New_1, Option.bind_some]
    have hkn : k * n ≤ 4096 := Nat.mul_le_mul (show k ≤ 64 by omega) hn2
    have hp : (k : Int) * (n : Int) = ((k * n : Nat) : Int) := (Int.natCast_mul k n).symm
    rw [if_pos (by simpa using hk), hp, w64 (by omega) (by omega), if_pos (by omega), if_pos (by omega), w64 (x := (k : Int) + 1) (by omega) (by omega), Int.toNat_natCast, Int.toNat_natCast]
    have := loom_z (hd := fun i => i) (n := n) (k := k) (by omega)
    have h2 := loom_next (hd := fun i => i) (n := n) hk hb2
    rw [this, h2]; rfl
  · simp only [f_weave_made.s1, f_weave_made.s1c]
    rw [if_neg (by simp)]; rfl
theorem Undo_ok {b n : Nat} (hb : 1 ≤ b) (hb2 : b ≤ 64) (hn : 1 ≤ n) (hn2 : n ≤ 64) : f_weave_Undo (b : Int) (n : Int) = some (some (mkLoom (fun i => b - 1 - i) b n), 0) := by
  unfold f_weave_Undo f_weave_made_40
  rw [if_neg (by simp; omega)]
  have key := loop_run (f := f_weave_made_40.s1 (b : Int) (n : Int) (b : Int)) b (fun k => ((((List.range 64).map fun i => if i < k then ((List.replicate ((b - 1 - i) * n) 0, 0) : Rg) else ([], 0), (b : Int), (n : Int), (0 : Int)) : LoomS), (k : Int)))
    (mkLoom (fun i => b - 1 - i) b n) (fun k hk => ?_) ?_ (s0 := ((List.replicate 64 ([], 0), (b : Int), (n : Int), 0), 0)) rfl
  · rw [key]; rfl
  · simp only [f_weave_made_40.s1, f_weave_made_40.s1c, f_weave_Undo_1, Option.bind_some]
    have hkn : (b - 1 - k) * n ≤ 4096 := Nat.mul_le_mul (show b - 1 - k ≤ 64 by omega) hn2
    have e0 : IntKind.i64.wrap (IntKind.i64.wrap ((b : Int) - 1) - (k : Int)) = ((b - 1 - k : Nat) : Int) := by rw [w64 (x := (b : Int) - 1) (by omega) (by omega), w64 (by omega) (by omega)]; omega
    have hp : ((b - 1 - k : Nat) : Int) * (n : Int) = (((b - 1 - k) * n : Nat) : Int) := (Int.natCast_mul _ n).symm
    rw [if_pos (by simpa using hk), e0, hp, w64 (x := (((b - 1 - k) * n : Nat) : Int)) (by omega) (by omega), if_pos (by omega), if_pos (by omega), w64 (x := (k : Int) + 1) (by omega) (by omega), Int.toNat_natCast, Int.toNat_natCast]
    have := loom_z (hd := fun i => b - 1 - i) (n := n) (k := k) (by omega)
    have h2 := loom_next (hd := fun i => b - 1 - i) (n := n) hk hb2
    rw [this, h2]; rfl
  · simp only [f_weave_made_40.s1, f_weave_made_40.s1c]
    rw [if_neg (by simp)]; rfl
theorem rows_next (hd : Nat → Nat) (k n : Nat) : mkRows hd k n ++ [List.replicate (hd k * n) (0 : Int)] = mkRows hd (k + 1) n := by simp [mkRows, List.range_succ]
theorem NewR_ok {b n : Nat} (u : Bool) (hb : 1 ≤ b) (hb2 : b ≤ 64) (hn : 1 ≤ n) (hn2 : n ≤ 64) :
    f_foghornref17_New (b : Int) (n : Int) u = some (some (mkRows (if u = true then fun i => b - 1 - i else fun i => i) b n, 0, (n : Int)), 0) := by
  unfold f_foghornref17_New
  rw [if_neg (by simp; omega)]
  refine bnd_eq (a := (mkRows (if u = true then fun i => b - 1 - i else fun i => i) b n, (0 : Int), (n : Int))) (loop_run b (fun k => (mkRows (if u = true then fun i => b - 1 - i else fun i => i) k n, (0 : Int), (n : Int), (k : Int))) _ (fun k hk => ?_) ?_ rfl) rfl
  · simp only [f_foghornref17_New.s1, f_foghornref17_New.s1c]
    rw [if_pos (by simpa using hk)]
    have hj : ∀ h : Nat, h ≤ 63 → f_foghornref17_New.j1 (n : Int) (mkRows (if u = true then fun i => b - 1 - i else fun i => i) k n) 0 (n : Int) (k : Int) (h : Int) = some (.inl (mkRows (if u = true then fun i => b - 1 - i else fun i => i) k n ++ [List.replicate (h * n) (0 : Int)], 0, (n : Int), ((k + 1 : Nat) : Int))) := by
      intro h hh
      have hkn : h * n ≤ 4096 := Nat.mul_le_mul (show h ≤ 64 by omega) hn2
      have hp : (h : Int) * (n : Int) = ((h * n : Nat) : Int) := (Int.natCast_mul _ n).symm
      have hl : (mkRows (if u = true then fun i => b - 1 - i else fun i => i) k n).length = k := by simp [mkRows]
      unfold f_foghornref17_New.j1
      rw [hp, w64 (x := ((h * n : Nat) : Int)) (by omega) (by omega), if_pos (by omega), if_pos (by rw [hl]; omega), w64 (by omega) (by omega), Int.toNat_natCast]; rfl
    have hr := rows_next (if u = true then fun i => b - 1 - i else fun i => i) k n
    cases u with
    | true =>
      simp only [if_true] at hj hr ⊢
      have e0 : IntKind.i64.wrap (IntKind.i64.wrap ((b : Int) - 1) - (k : Int)) = ((b - 1 - k : Nat) : Int) := by rw [w64 (x := (b : Int) - 1) (by omega) (by omega), w64 (by omega) (by omega)]; omega
      rw [e0, hj (b - 1 - k) (by omega), hr]
    | false =>
      simp only [Bool.false_eq_true, if_false] at hj hr ⊢
      rw [hj k (by omega), hr]
  · simp only [f_foghornref17_New.s1, f_foghornref17_New.s1c]
    rw [if_neg (by simp)]
abbrev RL := List (List Int) × Int × Int
def OR (a : Option LoomS) (m : Option RL) : Prop := (a = none ∧ m = none) ∨ ∃ s q, a = some s ∧ m = some q ∧ LR s q.1 q.2.1 q.2.2
theorem new_OR (b n : Int) : ∃ a m e, f_weave_New b n = some (a, e) ∧ f_foghornref17_New b n false = some (m, e) ∧ OR a m := by
  by_cases h : ((((decide (b < (1 : Int))) || (decide ((64 : Int) < b))) || (decide (n < (1 : Int)))) || (decide ((64 : Int) < n))) = true
  · refine ⟨none, none, 1, ?_, ?_, .inl ⟨rfl, rfl⟩⟩
    · unfold f_weave_New f_weave_made; rw [if_pos h]; rfl
    · unfold f_foghornref17_New; rw [if_pos h]
  · simp at h
    obtain ⟨b, rfl⟩ : ∃ m : Nat, b = (m : Int) := ⟨b.toNat, by omega⟩
    obtain ⟨n, rfl⟩ : ∃ m : Nat, n = (m : Int) := ⟨n.toNat, by omega⟩
    exact ⟨_, _, 0, New_ok (by omega) (by omega) (by omega) (by omega), NewR_ok false (by omega) (by omega) (by omega) (by omega), .inr ⟨_, _, rfl, rfl, mk_LR (by omega) (by omega) (by omega) (fun i hi => (by omega : i ≤ 63))⟩⟩
theorem undo_OR (b n : Int) : ∃ a m e, f_weave_Undo b n = some (a, e) ∧ f_foghornref17_New b n true = some (m, e) ∧ OR a m := by
  by_cases h : ((((decide (b < (1 : Int))) || (decide ((64 : Int) < b))) || (decide (n < (1 : Int)))) || (decide ((64 : Int) < n))) = true
  · refine ⟨none, none, 1, ?_, ?_, .inl ⟨rfl, rfl⟩⟩
    · unfold f_weave_Undo f_weave_made_40; rw [if_pos h]; rfl
    · unfold f_foghornref17_New; rw [if_pos h]
  · simp at h
    obtain ⟨b, rfl⟩ : ∃ m : Nat, b = (m : Int) := ⟨b.toNat, by omega⟩
    obtain ⟨n, rfl⟩ : ∃ m : Nat, n = (m : Int) := ⟨n.toNat, by omega⟩
    exact ⟨_, _, 0, Undo_ok (by omega) (by omega) (by omega) (by omega), NewR_ok true (by omega) (by omega) (by omega) (by omega), .inr ⟨_, _, rfl, rfl, mk_LR (by omega) (by omega) (by omega) (fun i hi => (by omega : _ - 1 - i ≤ 63))⟩⟩
theorem seq_refl (s : ByteArray) : seq s s = true := by simp [seq]
theorem looms_true (B : Int) (w0 : (Lit.int .i64 B).wf = true) (N : Int) (w1 : (Lit.int .i64 N).wf = true) (O : Int) (w2 : (Lit.int .i64 O).wf = true) (D : Int) (w3 : (Lit.int .i64 D).wf = true)
    (l : List (Int × Int × Int × ByteArray)) {g1 g2 : Prop} (w4 : g1) (r4 : g2) : f_foghornlaw17_WeaveLooms B N O D l = some true := by
  unfold f_foghornlaw17_WeaveLooms
  obtain ⟨a, m, e, a1, a2, a3⟩ := new_OR B N
  obtain ⟨b, n, f, b1, b2, b3⟩ := undo_OR O D
  rw [a1, b1]
  simp only [Option.bind_some]
  rw [a2, b2]
  simp only [Option.bind_some]
  have hn1 : ((a.isNone) != (m.isNone)) = false := by rcases a3 with ⟨rfl, rfl⟩ | ⟨s, q, rfl, rfl, _⟩ <;> rfl
  have hn2 : ((b.isNone) != (n.isNone)) = false := by rcases b3 with ⟨rfl, rfl⟩ | ⟨s, q, rfl, rfl, _⟩ <;> rfl
  rw [hn1, hn2, if_neg (by simp)]
  have main : ∀ k i : Nat, i + k = min l.length 300 → ∀ a b m n, OR a m → OR b n → loop (f_foghornlaw17_WeaveLooms.s1 l) (a, b, m, n, (i : Int)) = some (.inl ()) := by
    intro k
    induction k with
    | zero =>
      intro i hi a b m n ha hb
      refine loop_done ?_
      simp only [f_foghornlaw17_WeaveLooms.s1, f_foghornlaw17_WeaveLooms.s1c]
      rw [if_neg (by simp; omega)]
    | succ k ih =>
      intro i hi a b m n ha hb
      have hil : i < l.length := by omega
      have key : ∃ a' b' m' n', f_foghornlaw17_WeaveLooms.s1 l (a, b, m, n, (i : Int)) = some (.inl (a', b', m', n', ((i + 1 : Nat) : Int))) ∧ OR a' m' ∧ OR b' n' := by
        have hw : IntKind.i64.wrap ((i : Int) + 1) = ((i + 1 : Nat) : Int) := by rw [w64 (by omega) (by omega)]; omega
        have hci : 0 ≤ (i : Int) ∧ (i : Int) < (l.length : Int) := by omega
        simp only [f_foghornlaw17_WeaveLooms.s1, f_foghornlaw17_WeaveLooms.s1c]
        rw [if_pos (by simp; omega), if_pos hci, hw]
        generalize gt l (i : Int) = x
        by_cases hwho : (x.2.1 != (0 : Int)) = true
        · rw [if_pos hwho]
          rcases hb with ⟨rfl, rfl⟩ | ⟨s, q, rfl, rfl, hq⟩
          · exact ⟨a, none, m, none, rfl, ha, .inl ⟨rfl, rfl⟩⟩
          · simp only [Option.isNone_some, Bool.false_eq_true, if_false, Option.bind_some]
            rw [if_pos hci]
            by_cases h0 : (x.1 == (0 : Int)) = true
            · obtain ⟨y, s', Rw', Tn', e1, e2, e3⟩ := push_both hq x.2.2.1
              obtain ⟨d, d1, d2⟩ := delay_both e3
              rw [if_pos h0, if_pos hci, e1]
              simp only [Option.bind_some]
              rw [if_neg (by decide), if_pos hci, e2]
              simp only [Option.bind_some, bne_self_eq_false, Bool.false_eq_true, if_false]
              rw [d1]
              simp only [Option.bind_some]
              rw [d2]
              simp only [Option.bind_some, bne_self_eq_false, Bool.false_eq_true, if_false]
              exact ⟨_, _, _, _, rfl, ha, .inr ⟨_, _, rfl, rfl, e3⟩⟩
            rw [if_neg h0]
            by_cases h1 : (x.1 == (1 : Int)) = true
            · obtain ⟨y, e, s', Rw', Tn', e1, e2, e3⟩ := run_both hq x.2.2.2
              obtain ⟨d, d1, d2⟩ := delay_both e3
              rw [if_pos h1, if_pos hci, e1]
              simp only [Option.bind_some]
              rw [if_pos hci, e2]
              simp only [Option.bind_some, seq_refl, bne_self_eq_false, Bool.not_true, Bool.or_self, Bool.false_eq_true, if_false]
              rw [d1]
              simp only [Option.bind_some]
              rw [d2]
              simp only [Option.bind_some, bne_self_eq_false, Bool.false_eq_true, if_false]
              exact ⟨_, _, _, _, rfl, ha, .inr ⟨_, _, rfl, rfl, e3⟩⟩
            rw [if_neg h1]
            obtain ⟨d, d1, d2⟩ := delay_both hq
            rw [d1]
            simp only [Option.bind_some]
            rw [d2]
            simp only [Option.bind_some, bne_self_eq_false, Bool.false_eq_true, if_false]
            exact ⟨_, _, _, _, rfl, ha, .inr ⟨_, _, rfl, rfl, hq⟩⟩
        · rw [if_neg hwho]
          rcases ha with ⟨rfl, rfl⟩ | ⟨s, q, rfl, rfl, hq⟩
          · exact ⟨none, b, none, n, rfl, .inl ⟨rfl, rfl⟩, hb⟩
          · simp only [Option.isNone_some, Bool.false_eq_true, if_false, Option.bind_some]
            rw [if_pos hci]
            by_cases h0 : (x.1 == (0 : Int)) = true
            · obtain ⟨y, s', Rw', Tn', e1, e2, e3⟩ := push_both hq x.2.2.1
              obtain ⟨d, d1, d2⟩ := delay_both e3
              rw [if_pos h0, if_pos hci, e1]
              simp only [Option.bind_some]
              rw [if_neg (by decide), if_pos hci, e2]
              simp only [Option.bind_some, bne_self_eq_false, Bool.false_eq_true, if_false]
              rw [d1]
              simp only [Option.bind_some]
              rw [d2]
              simp only [Option.bind_some, bne_self_eq_false, Bool.false_eq_true, if_false]
              exact ⟨_, _, _, _, rfl, .inr ⟨_, _, rfl, rfl, e3⟩, hb⟩
            rw [if_neg h0]
            by_cases h1 : (x.1 == (1 : Int)) = true
            · obtain ⟨y, e, s', Rw', Tn', e1, e2, e3⟩ := run_both hq x.2.2.2
              obtain ⟨d, d1, d2⟩ := delay_both e3
              rw [if_pos h1, if_pos hci, e1]
              simp only [Option.bind_some]
              rw [if_pos hci, e2]
              simp only [Option.bind_some, seq_refl, bne_self_eq_false, Bool.not_true, Bool.or_self, Bool.false_eq_true, if_false]
              rw [d1]
              simp only [Option.bind_some]
              rw [d2]
              simp only [Option.bind_some, bne_self_eq_false, Bool.false_eq_true, if_false]
              exact ⟨_, _, _, _, rfl, .inr ⟨_, _, rfl, rfl, e3⟩, hb⟩
            rw [if_neg h1]
            obtain ⟨d, d1, d2⟩ := delay_both hq
            rw [d1]
            simp only [Option.bind_some]
            rw [d2]
            simp only [Option.bind_some, bne_self_eq_false, Bool.false_eq_true, if_false]
            exact ⟨_, _, _, _, rfl, .inr ⟨_, _, rfl, rfl, hq⟩, hb⟩
      obtain ⟨a', b', m', n', h1, h2, h3⟩ := key
      rw [loop_step h1]
      exact ih (i + 1) (by omega) a' b' m' n' h2 h3
  have h0 := main (min l.length 300) 0 (by omega) a b m n a3 b3
  have h0' : loop (f_foghornlaw17_WeaveLooms.s1 l) (a, b, m, n, 0) = some (.inl ()) := h0
  rw [h0']
  rfl
end Go.Proofs.Ythoigfonjpmibaa
