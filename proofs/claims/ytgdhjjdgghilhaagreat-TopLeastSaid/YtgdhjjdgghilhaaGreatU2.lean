/- Loads -/
import Derived.Test.YtgdhjjdgghilhaaGreatU1
import Derived.Test.YtgdhjjdgghilhaaGreatGlW
set_option linter.unusedVariables false
set_option linter.unusedSimpArgs false
set_option maxRecDepth 8000
set_option exponentiation.threshold 3000
namespace Go.Proofs.YtgdhjjdgghilhaaGreat
open GL Go

theorem mod_ok (x : Int) {n : Int} (h0 : 0 < n) (h1 : n ≤ 100000) : f_foghorntop_mod x n = some (x % n) := by
  unfold f_foghorntop_mod
  rw [if_pos (by omega)]
  have e := Int.tmod_eq_emod (a := x) (b := n)
  have b1 := Int.emod_nonneg x (show n ≠ 0 by omega)
  have b2 := Int.emod_lt_of_pos x h0
  split at e
  · rw [if_neg (by rw [decide_eq_true_eq]; omega), e]; congr 1; omega
  · rename_i hc
    rw [Int.natAbs_of_nonneg (by omega)] at e
    rw [if_pos (by rw [decide_eq_true_eq]; omega), e, w64 (by omega) (by omega)]
    congr 1; omega
namespace LD
theorem loop_ex {S R : Type} {f : S → Option (S ⊕ R)} (n : Nat) (I : Nat → S → Prop) (O : R → Prop) {s : S} (h0 : I 0 s)
    (h1 : ∀ i, i < n → ∀ s, I i s → ∃ s', f s = some (.inl s') ∧ I (i + 1) s') (h2 : ∀ s, I n s → ∃ r, f s = some (.inr r) ∧ O r) : ∃ r, loop f s = some r ∧ O r := by
  have : ∀ k i, i + k = n → ∀ s, I i s → ∃ r, loop f s = some r ∧ O r := by
    intro k
    induction k with
    | zero =>
      intro i hi s hs
      obtain rfl : i = n := by omega
      obtain ⟨r, e, o⟩ := h2 s hs
      exact ⟨r, loop_done e, o⟩
    | succ k ih =>
      intro i hi s hs
      obtain ⟨s', e, hs'⟩ := h1 i (by omega) s hs
      rw [loop_step e]
      exact ih (i + 1) (by omega) s' hs'
  exact this n 0 (by omega) s h0
theorem gt_set {α : Type} [Inhabited α] {L : List α} {i j : Int} (hi : 0 ≤ i) (hl : i < L.length) (hj : 0 ≤ j) (v : α) : gt (L.set i.toNat v) j = if i = j then v else gt L j := by
  unfold gt
  rw [List.getD_eq_getElem?_getD, List.getD_eq_getElem?_getD]
  split
  · rename_i h
    subst h
    rw [List.getElem?_set_self (by omega)]; rfl
  · rw [List.getElem?_set_ne (by omega)]
theorem gt_rep {α : Type} [Inhabited α] {n : Nat} {j : Int} (h0 : 0 ≤ j) (h : j < n) (x : α) : gt (List.replicate n x) j = x := by
  rw [gt_get h0 (by simpa using h)]; simp
def TK : List Int := [8, 7, 6, 5, 4, 2, 0]
def en (b : Int) : Int := gt EN b
theorem tk_cases {b : Int} (h : b ∈ TK) : b = 8 ∨ b = 7 ∨ b = 6 ∨ b = 5 ∨ b = 4 ∨ b = 2 ∨ b = 0 := by simpa [TK] using h
theorem en_tk {b : Int} (h : b ∈ TK) : 0 ≤ b ∧ b ≤ 8 ∧ 0 ≤ en b ∧ en b ≤ 170 := by
  rcases tk_cases h with rfl | rfl | rfl | rfl | rfl | rfl | rfl <;> decide
structure WOK (w : List Int) : Prop where
  n1 : 1 ≤ w.length
  n2 : w.length ≤ 40
  h : ∀ x ∈ w, 1 ≤ x ∧ x ≤ 50
structure BOK (n : Nat) (b : List Int) : Prop where
  l : b.length = n
  h : ∀ x ∈ b, x ∈ TK
def tot : List Int → Int
  | [] => 0
  | b :: bs => b + tot bs
def cost : List Int → List Int → Int
  | w :: ws, b :: bs => w * en b + cost ws bs
  | _, _ => 0
theorem may_ok {w : List Int} (h : ∀ x ∈ w, 1 ≤ x ∧ x ≤ 50) (hl : w.length ≤ 40) : f_load_may w = some true := by
  have e : loop (f_slices_IndexFunc_int_int.s1 w) (0 : Int) = some (Sum.inl ()) :=
    loop_for1 w.length _ (fun i hi => by
      have b := h _ (gt_mem (xs := w) (i := (i : Int)) (by omega) (by omega))
      simp only [f_slices_IndexFunc_int_int.s1, f_slices_IndexFunc_int_int.s1c, f_load_may_1]
      rw [if_pos (by rw [decide_eq_true_eq]; omega), if_pos (by omega), Option.bind_some,
        if_neg (by simp only [Bool.or_eq_true, decide_eq_true_eq]; omega), w64 (by omega) (by omega)]
      rfl)
    (by
      simp only [f_slices_IndexFunc_int_int.s1, f_slices_IndexFunc_int_int.s1c]
      rw [if_neg (by rw [decide_eq_true_eq]; omega)])
  unfold f_load_may f_slices_ContainsFunc_int_int f_slices_IndexFunc_int_int
  rw [e]
  rfl
theorem has_ok {b : Int} (h : b ∈ TK) : f_load_has b = some true := by
  unfold f_load_has
  rw [energies_ok]
  rcases tk_cases h with rfl | rfl | rfl | rfl | rfl | rfl | rfl <;> rfl
theorem mul_le {w b : Int} (hw : 1 ≤ w ∧ w ≤ 50) (hb : b ∈ TK) : 0 ≤ w * en b ∧ w * en b ≤ 8500 := by
  obtain ⟨_, _, h1, h2⟩ := en_tk hb
  constructor
  · exact Int.mul_nonneg (by omega) h1
  · calc w * en b ≤ 50 * en b := Int.mul_le_mul_of_nonneg_right hw.2 h1
      _ ≤ 8500 := by omega
theorem cost_ok {w b : Int} (hw : 1 ≤ w ∧ w ≤ 50) (hb : b ∈ TK) : f_load_Cost w b = some (w * en b, 0) := by
  have h := mul_le hw hb
  obtain ⟨h0, h8, _, _⟩ := en_tk hb
  unfold f_load_Cost
  rw [may_ok (w := [w]) (by intro x hx; simp only [List.mem_singleton] at hx; subst hx; exact hw) (by simp), has_ok hb, energies_ok]
  simp only [Option.bind_some, Bool.not_true, Bool.false_eq_true, if_false]
  rw [if_pos (by omega)]
  show some (IntKind.i64.wrap (w * en b), (0 : Int)) = _
  rw [w64 (by omega) (by omega)]
theorem tot_append : ∀ (l m : List Int), tot (l ++ m) = tot l + tot m
  | [], m => by simp [tot]
  | b :: l, m => by
    show b + tot (l ++ m) = b + tot l + tot m
    rw [tot_append l m]; omega
theorem cost_append : ∀ (w l v m : List Int), w.length = l.length → cost (w ++ v) (l ++ m) = cost w l + cost v m
  | [], [], v, m, _ => by simp [cost]
  | w :: ws, b :: l, v, m, h => by
    show w * en b + cost (ws ++ v) (l ++ m) = w * en b + cost ws l + cost v m
    rw [cost_append ws l v m (by simpa using h)]; omega
  | [], b :: l, _, _, h => by simp at h
  | w :: ws, [], _, _, h => by simp at h
theorem tot_le : ∀ b : List Int, (∀ x ∈ b, x ∈ TK) → 0 ≤ tot b ∧ tot b ≤ 8 * (b.length : Int)
  | [], _ => by simp [tot]
  | x :: b, h => by
    have h1 := en_tk (h x (by simp))
    have h2 := tot_le b (fun y hy => h y (by simp [hy]))
    simp only [tot, List.length_cons]
    omega
theorem cost_le : ∀ w b : List Int, (∀ x ∈ w, 1 ≤ x ∧ x ≤ 50) → (∀ x ∈ b, x ∈ TK) → 0 ≤ cost w b ∧ cost w b ≤ 8500 * (w.length : Int)
  | [], b, _, _ => by simp [cost]
  | w :: ws, [], _, _ => by simp only [cost, List.length_cons]; omega
  | w :: ws, x :: b, h, k => by
    have h1 := mul_le (h w (by simp)) (k x (by simp))
    have h2 := cost_le ws b (fun y hy => h y (by simp [hy])) (fun y hy => k y (by simp [hy]))
    simp only [cost, List.length_cons]
    omega
theorem take_gt {α : Type} [Inhabited α] {l : List α} {k : Nat} (h : k < l.length) : l.take (k + 1) = l.take k ++ [gt l (k : Int)] := by
  rw [List.take_add_one, List.getElem?_eq_getElem h, gt_nat h]; rfl
theorem check_ok {w b : List Int} (hw : WOK w) (hb : BOK w.length b) : f_load_Check w b = some ((b, tot b, cost w b), 0) := by
  obtain ⟨n1, n2, hh⟩ := hw
  obtain ⟨hl, hk⟩ := hb
  obtain ⟨r, er, rfl⟩ := loop_ex (f := f_load_Check.s1 w b) w.length (fun k s => s = (b, tot (b.take k), cost (w.take k) (b.take k), (k : Int)))
    (fun r => r = Sum.inl (b, tot b, cost w b)) (s := (b, 0, 0, 0)) (by simp [tot, cost])
    (fun k hkk s hs => by
      subst hs
      have b1 := hh _ (gt_mem (xs := w) (i := (k : Int)) (by omega) (by omega))
      have b2 := hk _ (gt_mem (xs := b) (i := (k : Int)) (by omega) (by omega))
      have b3 := mul_le b1 b2
      have b4 := en_tk b2
      have c1 := tot_le (b.take k) (fun x hx => hk x (List.mem_of_mem_take hx))
      have c2 := cost_le (w.take k) (b.take k) (fun x hx => hh x (List.mem_of_mem_take hx)) (fun x hx => hk x (List.mem_of_mem_take hx))
      rw [List.length_take] at c1 c2
      simp only [f_load_Check.s1, f_load_Check.s1c]
      rw [if_pos (by rw [decide_eq_true_eq]; omega), if_pos (by omega), if_pos (by omega), cost_ok b1 b2, Option.bind_some]
      simp only [bne_self_eq_false, Bool.false_eq_true, if_false]
      rw [w64 (by omega) (by omega), w64 (by omega) (by omega), w64 (by omega) (by omega)]
      refine ⟨_, rfl, ?_⟩
      rw [take_gt (l := b) (by omega), take_gt (l := w) hkk, tot_append, cost_append _ _ _ _ (by simp [List.length_take, hl])]
      simp [tot, cost])
    (fun s hs => by
      subst hs
      simp only [f_load_Check.s1, f_load_Check.s1c]
      rw [if_neg (by rw [decide_eq_true_eq]; omega), List.take_of_length_le (by omega), List.take_of_length_le (by omega)]
      exact ⟨_, rfl, rfl⟩)
  unfold f_load_Check f_load_carriers f_slices_Clone_int_int
  rw [may_ok hh n2, Option.bind_some, Option.bind_some]
  have e0 : (decide ((1 : Int) ≤ (w.length : Int)) && decide ((w.length : Int) ≤ 256)) = true := by
    simp only [Bool.and_eq_true, decide_eq_true_eq]; omega
  simp only [e0, Bool.not_true, Bool.false_eq_true, if_false, Option.bind_some]
  rw [if_neg (by simp [hl]), if_pos (by omega), if_pos (by simp; omega), Option.bind_some]
  simp only [List.nil_append]
  rw [er]
  rfl
def INF : Int := 1152921504606846976
structure Row (w r : List Int) : Prop where
  l : r.length = 2049
  le : ∀ b, BOK w.length b → gt r (tot b) ≤ cost w b
  ex : ∀ n : Int, 0 ≤ n → n < 2049 → gt r n = INF ∨ ∃ b, BOK w.length b ∧ tot b = n ∧ cost w b = gt r n
structure PRow (y : Int) (nx : List Int) (S : Int → Int → Prop) (r : List Int) : Prop where
  l : r.length = 2049
  le : ∀ m b, S m b → gt r (m + b) ≤ gt nx m + y * en b
  ex : ∀ n : Int, 0 ≤ n → n < 2049 → gt r n = INF ∨ ∃ m b, 0 ≤ m ∧ m < 2049 ∧ b ∈ TK ∧ gt nx m ≠ INF ∧ m + b = n ∧ gt nx m + y * en b = gt r n
theorem imin_le1 (x y : Int) : imin x y ≤ x := by unfold imin; split <;> omega
theorem imin_le2 (x y : Int) : imin x y ≤ y := by unfold imin; split <;> omega
theorem imin_or (x y : Int) : imin x y = x ∨ imin x y = y := by unfold imin; split <;> simp
theorem PRow.step {y : Int} {nx r : List Int} {S : Int → Int → Prop} (h : PRow y nx S r) (hS : ∀ m b, S m b → 0 ≤ m + b) {m b : Int} (h0 : 0 ≤ m) (h1 : m + b < 2049) (hb : b ∈ TK) (hn : gt nx m ≠ INF) :
    PRow y nx (fun m' b' => S m' b' ∨ (m' = m ∧ b' = b)) (r.set (m + b).toNat (imin (gt r (m + b)) (gt nx m + y * en b))) := by
  have b0 := en_tk hb
  have hl := h.l
  refine ⟨by rw [List.length_set]; exact hl, fun m' b' hs => ?_, fun n n0 n1 => ?_⟩
  · have hp : 0 ≤ m' + b' := by
      rcases hs with hs | ⟨rfl, rfl⟩
      · exact hS _ _ hs
      · omega
    rw [gt_set (by omega) (by omega) hp]
    split
    · rename_i e
      rcases hs with hs | ⟨rfl, rfl⟩
      · have := h.le _ _ hs
        rw [← e] at this
        exact Int.le_trans (imin_le1 _ _) this
      · exact imin_le2 _ _
    · rename_i e
      rcases hs with hs | ⟨rfl, rfl⟩
      · exact h.le _ _ hs
      · exact absurd rfl e
  · rw [gt_set (by omega) (by omega) n0]
    split
    · rename_i e
      rcases imin_or (gt r (m + b)) (gt nx m + y * en b) with e' | e'
      · rw [e', e]
        exact h.ex n n0 n1
      · rw [e']
        exact .inr ⟨m, b, h0, by omega, hb, hn, e, rfl⟩
    · exact h.ex n n0 n1
theorem PRow.weaken {y : Int} {nx r : List Int} {S S' : Int → Int → Prop} (h : PRow y nx S r) (hs : ∀ m b, S' m b → S m b) : PRow y nx S' r :=
  ⟨h.l, fun m b k => h.le m b (hs m b k), h.ex⟩
theorem Row.of {y : Int} {w nx r : List Int} (hw : ∀ x ∈ w, 1 ≤ x ∧ x ≤ 50) (hl : w.length ≤ 40) (hn : Row w nx)
    (h : PRow y nx (fun m b => 0 ≤ m ∧ m < 8 * (w.length : Int) + 1 ∧ b ∈ TK ∧ gt nx m ≠ INF) r) : Row (y :: w) r := by
  refine ⟨h.l, fun b hb => ?_, fun n n0 n1 => ?_⟩
  · obtain ⟨l, k⟩ := hb
    cases b with
    | nil => simp at l
    | cons b bs =>
      have k' : ∀ x ∈ bs, x ∈ TK := fun x hx => k x (by simp [hx])
      have l' : bs.length = w.length := by simpa using l
      have t := tot_le bs k'
      have c := cost_le w bs hw k'
      have e := hn.le bs ⟨l', k'⟩
      have f := h.le (tot bs) b ⟨t.1, by omega, k b (by simp), fun e' => by rw [e'] at e; unfold INF at e; omega⟩
      rw [show tot (b :: bs) = tot bs + b by simp only [tot]; omega]
      simp only [cost]
      omega
  · rcases h.ex n n0 n1 with e | ⟨m, b, m0, m1, hb, hi, e1, e2⟩
    · exact .inl e
    · rcases hn.ex m m0 m1 with e | ⟨bs, hbs, e3, e4⟩
      · exact absurd e hi
      · refine .inr ⟨b :: bs, ⟨by simp [hbs.l], fun x hx => ?_⟩, by simp only [tot]; omega, by simp only [cost]; omega⟩
        rcases List.mem_cons.1 hx with rfl | hx
        · exact hb
        · exact hbs.h x hx
theorem Row.lt {w r : List Int} (hw : ∀ x ∈ w, 1 ≤ x ∧ x ≤ 50) (hl : w.length ≤ 40) (h : Row w r) {n : Int} (h0 : 0 ≤ n) (h1 : n < 2049) (hi : gt r n ≠ INF) : 0 ≤ gt r n ∧ gt r n ≤ 340000 := by
  rcases h.ex n h0 h1 with e | ⟨b, hb, e1, e2⟩
  · exact absurd e hi
  · have := cost_le w b hw hb.h
    omega
theorem tk_get {i : Int} (h0 : 0 ≤ i) (h1 : i < 7) : gt TK i ∈ TK := gt_mem h0 (by simpa [TK] using h1)
theorem tk_len : ((TK.length : Nat) : Int) = 7 := rfl
theorem set_get {α : Type} [Inhabited α] {L : List α} {i : Int} (h0 : 0 ≤ i) (h1 : i < L.length) (v : α) : gt (L.set i.toNat v) i = v := by
  rw [gt_set h0 h1 h0, if_pos rfl]
theorem set_set {α : Type} (L : List α) (i : Nat) (u v : α) : (L.set i u).set i v = L.set i v := by simp
theorem s6_ok {Q2 : List (List Int)} {y : Int} (hy : 1 ≤ y ∧ y ≤ 50) {w nx r : List Int} (hw : ∀ x ∈ w, 1 ≤ x ∧ x ≤ 50) (hl : w.length ≤ 40) (hn : Row w nx) {tab tb : List (List Int)} {i m : Int} (i0 : 0 ≤ i) (i1 : i + 1 < tab.length) (hT : tab.length ≤ 41)
    (htb : gt tb (i + 1) = nx) (m0 : 0 ≤ m) (m1 : m ≤ 320) (hi : gt nx m ≠ INF) {S : Int → Int → Prop} (hS : ∀ m b, S m b → 0 ≤ m + b) (hp : PRow y nx S r) :
    ∃ r', loop (f_load_made.s6 EN (TK, Q2) i y tb m) (tab.set i.toNat r, 0) = some (tab.set i.toNat r') ∧ PRow y nx (fun m' b' => S m' b' ∨ (m' = m ∧ b' ∈ TK)) r' := by
  have hc := Row.lt hw hl hn m0 (by omega) hi
  obtain ⟨q, eq, r', rfl, h⟩ := loop_ex (f := f_load_made.s6 EN (TK, Q2) i y tb m) 7
    (fun k s => s.2 = (k : Int) ∧ ∃ r', s.1 = tab.set i.toNat r' ∧ PRow y nx (fun m' b' => S m' b' ∨ (m' = m ∧ ∃ j : Nat, j < k ∧ b' = gt TK (j : Int))) r')
    (fun q => ∃ r', q = tab.set i.toNat r' ∧ PRow y nx (fun m' b' => S m' b' ∨ (m' = m ∧ b' ∈ TK)) r')
    (s := (tab.set i.toNat r, 0)) ⟨rfl, r, rfl, hp.weaken (fun m' b' h => by
      rcases h with h | ⟨_, j, hj, _⟩
      · exact h
      · omega)⟩
    (fun k hk s hs => by
      obtain ⟨T, c⟩ := s
      obtain ⟨hc', r', hT, hr⟩ := hs
      simp only at hc' hT
      subst hc' hT
      have b1 := tk_get (i := (k : Int)) (by omega) (by omega)
      have b2 := en_tk b1
      have b3 := mul_le hy b1
      have hS' : ∀ m' b', (S m' b' ∨ (m' = m ∧ ∃ j : Nat, j < k ∧ b' = gt TK (j : Int))) → 0 ≤ m' + b' := by
        intro m' b' h
        rcases h with h | ⟨rfl, j, hj, rfl⟩
        · exact hS _ _ h
        · have := en_tk (tk_get (i := (j : Int)) (by omega) (by omega))
          omega
      simp only [f_load_made.s6, f_load_made.s6c, List.length_set]
      rw [if_pos (by rw [decide_eq_true_eq, tk_len]; omega), if_pos (by rw [tk_len]; omega), if_pos (by omega), w64 (x := m + gt TK (k : Int)) (by omega) (by omega),
        if_pos (by omega), if_pos (by omega), if_pos (by omega), if_pos (by omega), w64 (x := i + 1) (by omega) (by omega), htb,
        show gt EN (gt TK (k : Int)) = en (gt TK (k : Int)) from rfl, w64 (x := y * en (gt TK (k : Int))) (by omega) (by omega), w64 (x := gt nx m + _) (by omega) (by omega),
        w64 (x := (k : Int) + 1) (by omega) (by omega), set_get i0 (by omega), set_set]
      refine ⟨_, rfl, rfl, _, rfl, (hr.step hS' m0 (by omega) b1 hi).weaken ?_⟩
      intro m' b' h
      rcases h with h | ⟨h, j, hj, e⟩
      · exact .inl (.inl h)
      · by_cases hjk : j = k
        · subst hjk; exact .inr ⟨h, e⟩
        · exact .inl (.inr ⟨h, j, by omega, e⟩))
    (fun s hs => by
      obtain ⟨T, c⟩ := s
      obtain ⟨hc', r', hT, hr⟩ := hs
      simp only at hc' hT
      subst hc' hT
      simp only [f_load_made.s6, f_load_made.s6c]
      rw [if_neg (by rw [decide_eq_true_eq, tk_len]; omega)]
      refine ⟨_, rfl, r', rfl, hr.weaken ?_⟩
      intro m' b' h
      rcases h with h | ⟨h, e⟩
      · exact .inl h
      · obtain ⟨j, hj, rfl⟩ : ∃ j : Nat, j < 7 ∧ b' = gt TK (j : Int) := by
          rcases tk_cases e with rfl | rfl | rfl | rfl | rfl | rfl | rfl
          · exact ⟨0, by decide, rfl⟩
          · exact ⟨1, by decide, rfl⟩
          · exact ⟨2, by decide, rfl⟩
          · exact ⟨3, by decide, rfl⟩
          · exact ⟨4, by decide, rfl⟩
          · exact ⟨5, by decide, rfl⟩
          · exact ⟨6, by decide, rfl⟩
        exact .inr ⟨h, j, hj, rfl⟩)
  exact ⟨r', eq, h⟩
theorem b4_ok {w : List Int} {y : Int} (hy : 1 ≤ y ∧ y ≤ 50) {v nx : List Int} (hv : ∀ x ∈ v, 1 ≤ x ∧ x ≤ 50) (hl : v.length ≤ 39) (hn : Row v nx) {tab : List (List Int)} {i : Int} (i0 : 0 ≤ i) (hT : (tab.length : Int) ≤ 41) (i1 : i + 1 < tab.length)
    (hw : (w.length : Int) - i - 1 = v.length) (hw' : w.length ≤ 40) {Q : List Int × List (List Int)} (hQ : Q.1 = TK)
    (hnx : gt tab (i + 1) = nx) (hr : gt tab i = List.replicate 2049 INF) : ∃ r, f_load_made.b4 w EN Q tab i y = some (tab.set i.toNat r) ∧ Row (y :: v) r := by
  obtain ⟨Q1, Q2⟩ := Q
  simp only at hQ
  subst hQ
  have e8 : IntKind.i64.wrap (IntKind.i64.wrap (8 * IntKind.i64.wrap (IntKind.i64.wrap ((w.length : Int) - i) - 1)) + 1) = 8 * (v.length : Int) + 1 := by
    rw [w64 (x := (w.length : Int) - i) (by omega) (by omega), w64 (x := (w.length : Int) - i - 1) (by omega) (by omega), hw, w64 (x := 8 * (v.length : Int)) (by omega) (by omega), w64 (by omega) (by omega)]
  have step : ∀ (t : List (List Int)) (m : Int), f_load_made.s5 w EN (TK, Q2) i y (t, m) = f_load_made.s5c w EN (TK, Q2) i y t m := fun _ _ => rfl
  obtain ⟨q, eq, r, rfl, h⟩ := loop_ex (f := f_load_made.s5 w EN (TK, Q2) i y) (8 * v.length + 1)
    (fun k s => s.2 = (k : Int) ∧ ∃ r, s.1 = tab.set i.toNat r ∧ PRow y nx (fun m b => 0 ≤ m ∧ m < (k : Int) ∧ b ∈ TK ∧ gt nx m ≠ INF) r)
    (fun q => ∃ r, q = tab.set i.toNat r ∧ PRow y nx (fun m b => 0 ≤ m ∧ m < 8 * (v.length : Int) + 1 ∧ b ∈ TK ∧ gt nx m ≠ INF) r)
    (s := (tab, 0)) ⟨rfl, gt tab i, by rw [gt_get i0 (by omega), List.set_getElem_self], by
      rw [hr]
      refine ⟨by simp, fun m b h => by omega, fun n n0 n1 => .inl (gt_rep n0 (by omega) _)⟩⟩
    (fun k hk s hs => by
      obtain ⟨T, c⟩ := s
      obtain ⟨hc', r', hT', hr⟩ := hs
      simp only at hc' hT'
      subst hc' hT'
      have en' : gt (tab.set i.toNat r') (i + 1) = nx := by rw [gt_set i0 (by omega) (by omega), if_neg (by omega), hnx]
      rw [step]
      unfold f_load_made.s5c
      rw [e8, if_pos (by rw [decide_eq_true_eq]; omega), w64 (x := i + 1) (by omega) (by omega), if_pos (by rw [List.length_set]; omega), if_pos (by omega), en']
      rw [w64 (x := (k : Int) + 1) (by omega) (by omega)]
      by_cases hi : gt nx (k : Int) = INF
      · rw [if_pos (by rw [hi]; rfl)]
        refine ⟨_, rfl, rfl, r', rfl, hr.weaken ?_⟩
        rintro m b ⟨h0, h1, h2, h3⟩
        refine ⟨h0, ?_, h2, h3⟩
        have : m ≠ (k : Int) := fun e => h3 (e ▸ hi)
        omega
      · rw [if_neg (by simpa [INF] using hi)]
        obtain ⟨r2, e2, h2⟩ := s6_ok hy (w := v) hv (by omega) hn (tab := tab) (tb := tab.set i.toNat r') (Q2 := Q2) i0 i1 (by omega) en' (m := (k : Int)) (by omega) (by omega) hi (by
          rintro m b ⟨h0, h1, h2, h3⟩
          have := en_tk h2
          omega) hr
        rw [e2]
        refine ⟨_, rfl, rfl, r2, rfl, h2.weaken ?_⟩
        rintro m b ⟨h0, h1, h2, h3⟩
        by_cases hm : m = (k : Int)
        · exact .inr ⟨hm, h2⟩
        · exact .inl ⟨h0, by omega, h2, h3⟩)
    (fun s hs => by
      obtain ⟨T, c⟩ := s
      obtain ⟨hc', r', hT', hr⟩ := hs
      simp only at hc' hT'
      subst hc' hT'
      rw [step]
      unfold f_load_made.s5c
      rw [e8, if_neg (by rw [decide_eq_true_eq]; omega)]
      refine ⟨_, rfl, r', rfl, hr.weaken ?_⟩
      rintro m b ⟨h0, h1, h2, h3⟩
      exact ⟨h0, by omega, h2, h3⟩)
  refine ⟨r, ?_, Row.of hv (by omega) hn h⟩
  unfold f_load_made.b4
  rw [eq]
  rfl
structure Tab (w : List Int) (m : Nat) (tab : List (List Int)) : Prop where
  l : tab.length = w.length + 1
  r : ∀ j : Nat, m ≤ j → j ≤ w.length → Row (w.drop j) (gt tab (j : Int))
  i : ∀ j : Nat, j < m → gt tab (j : Int) = List.replicate 2049 INF
theorem rb_ok {w : List Int} (hw : WOK w) {Q : List Int × List (List Int)} (hQ : Q.1 = TK) : ∀ (m : Nat), m ≤ w.length → ∀ tab, Tab w m tab → ∃ tab', rb (f_load_made.b4 w EN Q) w m tab = some tab' ∧ Tab w 0 tab'
  | 0, _, tab, h => ⟨tab, rfl, h⟩
  | m + 1, hm, tab, h => by
    have hn2 := hw.n2
    have hl := h.l
    have ed : w.drop m = gt w (m : Int) :: w.drop (m + 1) := by rw [List.drop_eq_getElem_cons (by omega), gt_nat (by omega)]
    obtain ⟨r, e, hr⟩ := b4_ok (w := w) (y := gt w (m : Int)) (hw.h _ (gt_mem (by omega) (by omega))) (v := w.drop (m + 1)) (nx := gt tab ((m + 1 : Nat) : Int)) (fun x hx => hw.h x (List.mem_of_mem_drop hx)) (by rw [List.length_drop]; omega)
      (h.r (m + 1) (Nat.le_refl _) hm) (tab := tab) (i := (m : Int)) (by omega) (by omega) (by omega) (by rw [List.length_drop]; omega) hn2 hQ rfl (h.i m (by omega))
    rw [rb, e, Option.bind_some]
    rw [Int.toNat_natCast]
    refine rb_ok hw hQ m (by omega) _ ⟨by rw [List.length_set]; exact hl, fun j h1 h2 => ?_, fun j hj => ?_⟩
    · rw [← Int.toNat_natCast m, gt_set (by omega) (by omega) (by omega)]
      split
      · rename_i e'
        obtain rfl : m = j := by omega
        rw [ed]; exact hr
      · exact h.r j (by omega) h2
    · rw [← Int.toNat_natCast m, gt_set (by omega) (by omega) (by omega), if_neg (by omega)]
      exact h.i j (by omega)
theorem s3_ok {tk : List Int} {tab : List (List Int)} {t : Int} (t0 : 0 ≤ t) (t1 : t < tab.length) (hr : (gt tab t).length = 2049) :
    loop (f_load_made.s3 t) (tk, tab, 0) = some (tk, tab.set t.toNat (List.replicate 2049 INF)) := by
  obtain ⟨q, eq, rfl⟩ := loop_ex (f := f_load_made.s3 t) 2049 (fun k s => s.1 = tk ∧ s.2.2 = (k : Int) ∧ s.2.1 = tab.set t.toNat (List.replicate k INF ++ (gt tab t).drop k)) (fun q => q = (tk, tab.set t.toNat (List.replicate 2049 INF)))
    (s := (tk, tab, 0)) ⟨rfl, rfl, by
      show tab = _
      rw [List.replicate_zero, List.nil_append, List.drop_zero, gt_get t0 t1, List.set_getElem_self]⟩
    (fun k hk s hs => by
      obtain ⟨a, T, c⟩ := s
      obtain ⟨h1, h2, h3⟩ := hs
      simp only at h1 h2 h3
      subst h1 h2 h3
      simp only [f_load_made.s3, f_load_made.s3c]
      rw [if_pos (by rw [decide_eq_true_eq]; omega), if_pos (by rw [List.length_set]; omega), if_pos (by omega), w64 (by omega) (by omega)]
      refine ⟨_, rfl, rfl, rfl, ?_⟩
      show (tab.set t.toNat _).set t.toNat _ = _
      rw [set_set, set_get t0 t1, Int.toNat_natCast]
      congr 1
      rw [List.set_append_right _ _ (by simp), List.length_replicate, Nat.sub_self, List.drop_eq_getElem_cons (by omega), List.set_cons_zero, List.replicate_succ']
      simp [INF])
    (fun s hs => by
      obtain ⟨a, T, c⟩ := s
      obtain ⟨h1, h2, h3⟩ := hs
      simp only at h1 h2 h3
      subst h1 h2 h3
      simp only [f_load_made.s3, f_load_made.s3c]
      rw [if_neg (by rw [decide_eq_true_eq]; omega), List.drop_of_length_le (by omega), List.append_nil]
      exact ⟨_, rfl, rfl⟩)
  exact eq
theorem s2_ok {tk : List Int} {n : Nat} (hn : n ≤ 41) {Q : List Int × List (List Int)} (hQ : Q.2.length = n) :
    loop (f_load_made.s2 Q) (tk, List.replicate n (List.replicate 2049 (0 : Int)), 0) = some (tk, List.replicate n (List.replicate 2049 INF)) := by
  obtain ⟨q, eq, rfl⟩ := loop_ex (f := f_load_made.s2 Q) n (fun k s => s.1 = tk ∧ s.2.2 = (k : Int) ∧ s.2.1 = List.replicate k (List.replicate 2049 INF) ++ List.replicate (n - k) (List.replicate 2049 (0 : Int))) (fun q => q = (tk, List.replicate n (List.replicate 2049 INF)))
    (s := (tk, List.replicate n (List.replicate 2049 (0 : Int)), 0)) ⟨rfl, rfl, by simp⟩
    (fun k hk s hs => by
      obtain ⟨a, T, c⟩ := s
      obtain ⟨h1, h2, h3⟩ := hs
      simp only at h1 h2 h3
      subst h1 h2 h3
      have hlen : (List.replicate k (List.replicate 2049 INF) ++ List.replicate (n - k) (List.replicate 2049 (0 : Int))).length = n := by simp; omega
      have hg : gt (List.replicate k (List.replicate 2049 INF) ++ List.replicate (n - k) (List.replicate 2049 (0 : Int))) (k : Int) = List.replicate 2049 (0 : Int) := by
        rw [gt_nat (by rw [hlen]; exact hk), List.getElem_append_right (by simp)]; simp
      simp only [f_load_made.s2, f_load_made.s2c]
      rw [if_pos (by rw [decide_eq_true_eq]; omega), s3_ok (by omega) (by rw [hlen]; omega) (by rw [hg, List.length_replicate]), Option.bind_some, w64 (by omega) (by omega)]
      refine ⟨_, rfl, rfl, rfl, ?_⟩
      show List.set _ _ _ = _
      rw [Int.toNat_natCast, List.set_append_right _ _ (by simp), List.length_replicate, Nat.sub_self, show n - k = (n - (k + 1)) + 1 by omega, List.replicate_succ (n := n - (k + 1)), List.set_cons_zero, List.replicate_succ' (n := k)]
      simp)
    (fun s hs => by
      obtain ⟨a, T, c⟩ := s
      obtain ⟨h1, h2, h3⟩ := hs
      simp only at h1 h2 h3
      subst h1 h2 h3
      simp only [f_load_made.s2, f_load_made.s2c]
      rw [if_neg (by rw [decide_eq_true_eq]; omega), Nat.sub_self, List.replicate_zero, List.append_nil]
      exact ⟨_, rfl, rfl⟩)
  exact eq
theorem s1_ok (T : List (List Int)) : loop (f_load_made.s1 false EN) ([], T, 8) = some (TK, T) := by
  have h : loopN (f_load_made.s1 false EN) 10 ([], T, 8) = some (TK, T) := rfl
  exact loop_iff.2 ⟨10, h⟩
theorem made_ok {w : List Int} (hw : WOK w) : ∃ tab, f_load_made w false = some (TK, tab) ∧ Tab w 0 tab := by
  have n1 := hw.n1
  have n2 := hw.n2
  have e1 : IntKind.i64.wrap ((w.length : Int) + 1) = ((w.length + 1 : Nat) : Int) := by rw [w64 (by omega) (by omega)]; rfl
  have hg : gt (List.replicate (w.length + 1) (List.replicate 2049 INF)) (w.length : Int) = List.replicate 2049 INF := gt_rep (by omega) (by omega) _
  have hg0 : gt (List.replicate (w.length + 1) (List.replicate 2049 INF)) (w.length : Int) = List.replicate 2049 INF := hg
  obtain ⟨tab, e, h⟩ := rb_ok hw (Q := (TK, List.replicate (w.length + 1) (List.replicate 2049 INF))) rfl w.length (Nat.le_refl _)
    ((List.replicate (w.length + 1) (List.replicate 2049 INF)).set w.length ((List.replicate 2049 INF).set 0 0))
    ⟨by simp, fun j h1 h2 => by
      obtain rfl : j = w.length := by omega
      rw [List.drop_length, ← Int.toNat_natCast w.length, Int.toNat_natCast w.length, show List.set _ w.length ((List.replicate 2049 INF).set 0 0) = List.set (List.replicate (w.length + 1) (List.replicate 2049 INF)) ((w.length : Int)).toNat ((List.replicate 2049 INF).set 0 0) by rw [Int.toNat_natCast],
        set_get (by omega) (by rw [List.length_replicate]; omega)]
      refine ⟨by simp, fun b hb => ?_, fun n m0 m1 => ?_⟩
      · have : b = [] := List.eq_nil_of_length_eq_zero hb.l
        subst this
        show gt ((List.replicate 2049 INF).set ((0 : Int)).toNat 0) 0 ≤ 0
        rw [set_get (by omega) (by rw [List.length_replicate]; omega)]; exact Int.le_refl _
      · show gt ((List.replicate 2049 INF).set ((0 : Int)).toNat 0) n = INF ∨ _
        by_cases hn : 0 = n
        · subst hn
          exact .inr ⟨[], ⟨rfl, by simp⟩, rfl, rfl⟩
        · rw [gt_set (by omega) (by rw [List.length_replicate]; omega) m0, if_neg hn]
          exact .inl (gt_rep m0 (by omega) _),
      fun j hj => by
        rw [show List.set _ w.length ((List.replicate 2049 INF).set 0 0) = List.set (List.replicate (w.length + 1) (List.replicate 2049 INF)) ((w.length : Int)).toNat ((List.replicate 2049 INF).set 0 0) by rw [Int.toNat_natCast],
          gt_set (by omega) (by rw [List.length_replicate]; omega) (by omega), if_neg (by omega)]
        exact gt_rep (by omega) (by omega) _⟩
  refine ⟨tab, ?_, h⟩
  unfold f_load_made f_slices_Backward_int_int
  rw [e1, if_pos (by omega), energies_ok, Option.bind_some, Int.toNat_natCast, s1_ok, Option.bind_some, s2_ok (by omega) (by simp), Option.bind_some, if_pos (by simp; omega), Option.bind_some, Int.toNat_natCast]
  simp only [hg]
  rw [show ((0 : Int)).toNat = 0 from rfl, e]
  rfl
theorem tab_get {w : List Int} {tab : List (List Int)} (h : Tab w 0 tab) {j : Int} (h0 : 0 ≤ j) (h1 : j ≤ w.length) : Row (w.drop j.toNat) (gt tab j) := by
  have := h.r j.toNat (by omega) (by omega)
  rw [Int.toNat_of_nonneg h0] at this
  exact this
theorem first1_ok {w tk : List Int} {tab : List (List Int)} {b n i y : Int} (hb : b ∈ TK) (n0 : 0 ≤ n) (n1 : n < 2049) (i0 : 0 ≤ i) (i1 : i + 1 < tab.length) (hT : (tab.length : Int) ≤ 41)
    (hy : 1 ≤ y ∧ y ≤ 50) (hn : ∀ m, 0 ≤ m → m < 2049 → gt (gt tab (i + 1)) m ≠ INF → 0 ≤ gt (gt tab (i + 1)) m ∧ gt (gt tab (i + 1)) m ≤ 340000) (hi : ∀ m, 0 ≤ m → m < 2049 → gt (gt tab (i + 1)) m ≤ INF) :
    f_load_table_first_1 b n w tk tab i y EN = some (decide (b ≤ n ∧ gt (gt tab (i + 1)) (n - b) ≠ INF ∧ gt (gt tab (i + 1)) (n - b) + y * en b = gt (gt tab i) n)) := by
  have b0 := en_tk hb
  have b1 := mul_le hy hb
  unfold f_load_table_first_1
  rw [w64 (x := i + 1) (by omega) (by omega), w64 (x := n - b) (by omega) (by omega)]
  by_cases h1 : b ≤ n
  · have hi' := hi (n - b) (by omega) (by omega)
    rw [if_pos (by rw [decide_eq_true_eq]; exact h1), if_pos (by omega), if_pos (by omega), Option.bind_some]
    by_cases h2 : gt (gt tab (i + 1)) (n - b) = INF
    · rw [if_neg (by rw [h2]; simp [INF]), Option.bind_some]
      simp [h2]
    · have h3 := hn (n - b) (by omega) (by omega) h2
      unfold INF at hi' h2
      rw [if_pos (by rw [decide_eq_true_eq]; omega), if_pos (by omega), if_pos (by omega), if_pos (by omega), if_pos (by omega), if_pos (by omega), Option.bind_some,
        show gt EN b = en b from rfl, w64 (x := y * en b) (by omega) (by omega), w64 (by omega) (by omega)]
      unfold INF
      simp [h1, h2, ← Bool.beq_eq_decide_eq]
  · rw [if_neg (by rw [decide_eq_true_eq]; exact h1), Option.bind_some, if_neg (by decide), Option.bind_some]
    simp [h1]
theorem Row.inf {w r : List Int} (hw : ∀ x ∈ w, 1 ≤ x ∧ x ≤ 50) (hl : w.length ≤ 40) (h : Row w r) {n : Int} (h0 : 0 ≤ n) (h1 : n < 2049) : gt r n ≤ INF := by
  by_cases e : gt r n = INF
  · omega
  · have := h.lt hw hl h0 h1 e
    unfold INF; omega
theorem index_ok {w : List Int} {tab : List (List Int)} {n i y : Int} (n0 : 0 ≤ n) (n1 : n < 2049) (i0 : 0 ≤ i) (i1 : i + 1 < tab.length) (hT : (tab.length : Int) ≤ 41)
    (hy : 1 ≤ y ∧ y ≤ 50) (hn : ∀ m, 0 ≤ m → m < 2049 → gt (gt tab (i + 1)) m ≠ INF → 0 ≤ gt (gt tab (i + 1)) m ∧ gt (gt tab (i + 1)) m ≤ 340000) (hi : ∀ m, 0 ≤ m → m < 2049 → gt (gt tab (i + 1)) m ≤ INF)
    {b : Int} (hb : b ∈ TK) (h1 : b ≤ n) (h2 : gt (gt tab (i + 1)) (n - b) ≠ INF) (h3 : gt (gt tab (i + 1)) (n - b) + y * en b = gt (gt tab i) n) :
    ∃ j : Int, f_slices_IndexFunc_int_int_74 TK n w TK tab i y EN = some j ∧ 0 ≤ j ∧ j < 7 ∧ gt TK j ≤ n ∧ gt (gt tab (i + 1)) (n - gt TK j) ≠ INF ∧ gt (gt tab (i + 1)) (n - gt TK j) + y * en (gt TK j) = gt (gt tab i) n := by
  obtain ⟨k, hk, rfl⟩ : ∃ k : Nat, k < 7 ∧ b = gt TK (k : Int) := by
    rcases tk_cases hb with rfl | rfl | rfl | rfl | rfl | rfl | rfl
    · exact ⟨0, by decide, rfl⟩
    · exact ⟨1, by decide, rfl⟩
    · exact ⟨2, by decide, rfl⟩
    · exact ⟨3, by decide, rfl⟩
    · exact ⟨4, by decide, rfl⟩
    · exact ⟨5, by decide, rfl⟩
    · exact ⟨6, by decide, rfl⟩
  obtain ⟨r, er, j, rfl, hj⟩ := loop_inv (f := f_slices_IndexFunc_int_int_74.s1 TK n w TK tab i y EN) (fun s => 0 ≤ s ∧ s ≤ (k : Int)) (fun s => ((k : Int) - s).toNat)
    (fun r => ∃ j : Int, r = Sum.inr j ∧ 0 ≤ j ∧ j < 7 ∧ gt TK j ≤ n ∧ gt (gt tab (i + 1)) (n - gt TK j) ≠ INF ∧ gt (gt tab (i + 1)) (n - gt TK j) + y * en (gt TK j) = gt (gt tab i) n)
    (fun s ⟨s0, s1⟩ => by
      have b1 := tk_get (i := s) s0 (by omega)
      simp only [f_slices_IndexFunc_int_int_74.s1, f_slices_IndexFunc_int_int_74.s1c]
      rw [if_pos (by rw [decide_eq_true_eq, tk_len]; omega), if_pos (by rw [tk_len]; omega), first1_ok b1 n0 n1 i0 i1 hT hy hn hi, Option.bind_some]
      by_cases c : gt TK s ≤ n ∧ gt (gt tab (i + 1)) (n - gt TK s) ≠ INF ∧ gt (gt tab (i + 1)) (n - gt TK s) + y * en (gt TK s) = gt (gt tab i) n
      · rw [if_pos (by rw [decide_eq_true_eq]; exact c)]
        exact .inr ⟨_, rfl, s, rfl, s0, by omega, c⟩
      · rw [if_neg (by rw [decide_eq_true_eq]; exact c), w64 (by omega) (by omega)]
        have : s ≠ (k : Int) := fun e => c (e ▸ ⟨h1, h2, h3⟩)
        exact .inl ⟨_, rfl, ⟨by omega, by omega⟩, by omega⟩)
    0 ⟨by omega, by omega⟩
  unfold f_slices_IndexFunc_int_int_74
  rw [er]
  exact ⟨j, rfl, hj⟩
theorem first_ok {w : List Int} (hw : WOK w) {tab : List (List Int)} (h : Tab w 0 tab) {n : Int} (n0 : 0 ≤ n) (n1 : n ≤ 320) (hi : gt (gt tab 0) n ≠ INF) :
    ∃ b, f_load_table_first w TK tab n = some (b, n, gt (gt tab 0) n) ∧ BOK w.length b ∧ tot b = n ∧ cost w b = gt (gt tab 0) n := by
  have hn1 := hw.n1
  have hn2 := hw.n2
  have hl := h.l
  have hd : ∀ j : Int, ∀ x ∈ w.drop j.toNat, 1 ≤ x ∧ x ≤ 50 := fun j x hx => hw.h x (List.mem_of_mem_drop hx)
  obtain ⟨r, er, b, rfl, h1, h2, h3⟩ := loop_ex (f := f_load_table_first.s1 w TK tab EN) w.length
    (fun k s => ∃ b m, s = (m, b, n, gt (gt tab 0) n, (k : Int)) ∧ BOK k b ∧ 0 ≤ m ∧ tot b + m = n ∧ gt (gt tab (k : Int)) m ≠ INF ∧ cost (w.take k) b + gt (gt tab (k : Int)) m = gt (gt tab 0) n)
    (fun r => ∃ b, r = (b, n, gt (gt tab 0) n) ∧ BOK w.length b ∧ tot b = n ∧ cost w b = gt (gt tab 0) n)
    (s := (n, [], n, gt (gt tab 0) n, 0)) ⟨[], n, rfl, ⟨rfl, by simp⟩, n0, by simp [tot], hi, by simp [cost]⟩
    (fun k hk s hs => by
      obtain ⟨b, m, rfl, hb, m0, hm, hi', hc⟩ := hs
      have tb := tot_le b hb.h
      have hbl := hb.l
      have rk := tab_get h (j := (k : Int)) (by omega) (by omega)
      have rk1 := tab_get h (j := (k : Int) + 1) (by omega) (by omega)
      rw [Int.toNat_natCast] at rk
      rw [show ((k : Int) + 1).toNat = k + 1 by omega] at rk1
      have hy := hw.h _ (gt_mem (xs := w) (i := (k : Int)) (by omega) (by omega))
      have hlen : (w.drop (k + 1)).length ≤ 40 := by rw [List.length_drop]; omega
      have hd1 : ∀ x ∈ w.drop (k + 1), 1 ≤ x ∧ x ≤ 50 := fun x hx => hw.h x (List.mem_of_mem_drop hx)
      have ed : w.drop k = gt w (k : Int) :: w.drop (k + 1) := by rw [List.drop_eq_getElem_cons hk, gt_nat hk]
      have hn := fun m (a : 0 ≤ m) (b : m < 2049) c => Row.lt hd1 hlen rk1 (n := m) a b c
      have hinf := fun m (a : 0 ≤ m) (b : m < 2049) => Row.inf hd1 hlen rk1 (n := m) a b
      obtain ⟨j, ej, j0, j7, jn, ji, je⟩ : ∃ j : Int, f_slices_IndexFunc_int_int_74 TK m w TK tab (k : Int) (gt w (k : Int)) EN = some j ∧ 0 ≤ j ∧ j < 7 ∧ gt TK j ≤ m ∧ gt (gt tab ((k : Int) + 1)) (m - gt TK j) ≠ INF ∧ gt (gt tab ((k : Int) + 1)) (m - gt TK j) + gt w (k : Int) * en (gt TK j) = gt (gt tab (k : Int)) m := by
        rw [ed] at rk
        rcases rk.ex m m0 (by omega) with e | ⟨bs, hbs, e1, e2⟩
        · exact absurd e hi'
        · obtain ⟨bl, bk⟩ := hbs
          cases bs with
          | nil => simp at bl
          | cons c cs =>
            have kc := bk c (by simp)
            have kcs : BOK (w.drop (k + 1)).length cs := ⟨by simpa using bl, fun x hx => bk x (by simp [hx])⟩
            have tc := en_tk kc
            have tcs := tot_le cs kcs.h
            have cl := cost_le (w.drop (k + 1)) cs hd1 kcs.h
            have l1 := rk1.le cs kcs
            simp only [tot] at e1
            simp only [cost] at e2
            have hmc : m - c = tot cs := by omega
            have ne : gt (gt tab ((k : Int) + 1)) (tot cs) ≠ INF := fun e => by rw [e] at l1; unfold INF at l1; omega
            have eq' : gt (gt tab ((k : Int) + 1)) (tot cs) = cost (w.drop (k + 1)) cs := by
              rcases rk1.ex (tot cs) tcs.1 (by omega) with e | ⟨ds, hds, e3, e4⟩
              · exact absurd e ne
              · have l2 := rk.le (c :: ds) ⟨by simp [hds.l], fun x hx => by
                  rcases List.mem_cons.1 hx with rfl | hx
                  · exact kc
                  · exact hds.h x hx⟩
                simp only [tot, cost] at l2
                rw [e3, show c + tot cs = m by omega] at l2
                omega
            exact index_ok m0 (by omega) (by omega) (by omega) (by omega) hy hn hinf kc (by omega) (by rw [hmc]; exact ne) (by rw [hmc, eq']; omega)
      have b1 := tk_get j0 j7
      have b2 := en_tk b1
      simp only [f_load_table_first.s1, f_load_table_first.s1c]
      rw [if_pos (by rw [decide_eq_true_eq]; omega), if_pos (by omega), ej, Option.bind_some, if_pos (by rw [tk_len]; omega), if_pos (by rw [hbl, List.length_singleton]; omega), if_pos (by rw [tk_len]; omega),
        w64 (x := m - gt TK j) (by omega) (by omega), w64 (x := (k : Int) + 1) (by omega) (by omega)]
      refine ⟨_, rfl, b ++ [gt TK j], m - gt TK j, rfl, ⟨by rw [List.length_append, hbl]; rfl, fun x hx => ?_⟩, by omega, ?_, ji, ?_⟩
      · rcases List.mem_append.1 hx with hx | hx
        · exact hb.h x hx
        · simp only [List.mem_singleton] at hx; subst hx; exact b1
      · rw [tot_append]; simp only [tot]; omega
      · rw [take_gt hk, cost_append _ _ _ _ (by rw [List.length_take, hbl]; omega)]
        simp only [cost]
        show _ + gt (gt tab ((k : Int) + 1)) (m - gt TK j) = _
        omega)
    (fun s hs => by
      obtain ⟨b, m, rfl, hb, m0, hm, hi', hc⟩ := hs
      have tb := tot_le b hb.h
      simp only [f_load_table_first.s1, f_load_table_first.s1c]
      rw [if_neg (by rw [decide_eq_true_eq]; omega)]
      have rk := tab_get h (j := (w.length : Int)) (by omega) (by omega)
      rw [Int.toNat_natCast, List.drop_length] at rk
      rcases rk.ex m m0 (by omega) with e | ⟨bs, hbs, e1, e2⟩
      · exact absurd e hi'
      · have : bs = [] := List.eq_nil_of_length_eq_zero hbs.l
        subst this
        simp only [tot, cost] at e1 e2
        rw [List.take_of_length_le (Nat.le_refl _)] at hc
        exact ⟨_, rfl, b, rfl, hb, by omega, by omega⟩)
  refine ⟨b, ?_, h1, h2, h3⟩
  unfold f_load_table_first
  rw [if_pos (by omega), if_pos (by omega), energies_ok, Option.bind_some, er]
  rfl
theorem most_ok {w : List Int} (hw : WOK w) {p : Int} (p0 : 0 ≤ p) (p1 : p < 20000) :
    ∃ b, f_load_Most w p = some ((b, tot b, cost w b), 0) ∧ BOK w.length b ∧ cost w b ≤ p ∧ ∀ b', BOK w.length b' → cost w b' ≤ p → tot b' ≤ tot b := by
  have hn1 := hw.n1
  have hn2 := hw.n2
  obtain ⟨tab, et, h⟩ := made_ok hw
  have hl := h.l
  have r0 := tab_get h (j := 0) (by omega) (by omega)
  rw [show ((0 : Int)).toNat = 0 from rfl, List.drop_zero] at r0
  have z0 : ∀ k : Nat, tot (List.replicate k (0 : Int)) = 0 := fun k => by
    induction k with
    | zero => rfl
    | succ k ih => rw [List.replicate_succ]; simp only [tot]; omega
  have z1 : ∀ v : List Int, cost v (List.replicate v.length (0 : Int)) = 0 := fun v => by
    induction v with
    | nil => rfl
    | cons x v ih =>
      rw [List.length_cons, List.replicate_succ]
      simp only [cost]
      rw [ih, show en 0 = 0 from rfl]; omega
  have hz := r0.le (List.replicate w.length (0 : Int)) ⟨by simp, fun x hx => by rw [List.eq_of_mem_replicate hx]; decide⟩
  rw [z0, z1] at hz
  obtain ⟨n, en', hn, hp⟩ := loop_inv (f := f_load_at.s1 p (TK, tab)) (fun s => 0 ≤ s ∧ s ≤ 8 * (w.length : Int) ∧ ∀ m, s < m → m ≤ 8 * (w.length : Int) → p < gt (gt tab 0) m) (fun s => s.toNat)
    (fun n => (0 ≤ n ∧ n ≤ 8 * (w.length : Int) ∧ ∀ m, n < m → m ≤ 8 * (w.length : Int) → p < gt (gt tab 0) m) ∧ gt (gt tab 0) n ≤ p)
    (fun s ⟨s0, s1, s2⟩ => by
      simp only [f_load_at.s1, f_load_at.s1c]
      rw [if_pos (by omega), if_pos (by omega)]
      by_cases c : p < gt (gt tab 0) s
      · rw [if_pos (by rw [decide_eq_true_eq]; exact c), w64 (by omega) (by omega)]
        have : s ≠ 0 := fun e => by rw [e] at c; omega
        exact .inl ⟨_, rfl, ⟨by omega, by omega, fun m h1 h2 => by
          by_cases e : m = s
          · rw [e]; exact c
          · exact s2 m (by omega) h2⟩, by omega⟩
      · rw [if_neg (by rw [decide_eq_true_eq]; exact c)]
        exact .inr ⟨_, rfl, ⟨s0, s1, s2⟩, by omega⟩)
    (8 * (w.length : Int)) ⟨by omega, by omega, fun m h1 h2 => by omega⟩
  obtain ⟨⟨n0, n1, n2⟩, hp⟩ := And.intro hn hp
  obtain ⟨b, eb, hb, t1, t2⟩ := first_ok hw h (n := n) n0 (by omega) (fun e => by rw [e] at hp; unfold INF at hp; omega)
  refine ⟨b, ?_, hb, by omega, fun b' hb' hc => ?_⟩
  · have e0 : (decide ((1 : Int) ≤ (w.length : Int)) && decide ((w.length : Int) ≤ 256)) = true := by
      simp only [Bool.and_eq_true, decide_eq_true_eq]; omega
    unfold f_load_Most f_load_at f_load_carriers
    rw [may_ok hw.h hn2, e0]
    simp only [Option.bind_some, Bool.not_true, Bool.false_eq_true, if_false, Bool.false_or]
    rw [if_neg (by simp only [Bool.or_eq_true, decide_eq_true_eq]; omega), et, Option.bind_some, w64 (by omega) (by omega), en', Option.bind_some, eb, t1, t2]
    rfl
  · rw [t1]
    by_cases c : tot b' ≤ n
    · exact c
    · have tb := tot_le b' hb'.h
      have bl := hb'.l
      have := n2 (tot b') (by omega) (by omega)
      have := r0.le b' hb'
      omega
def tk0 : List Int := [0, 2, 4, 5, 6, 7, 8]
theorem loaded_ok (weights bits : List Int) (power : Int) : f_foghorntop_loaded weights bits power = some true := by
  have en : imin (imin (weights.length : Int) (bits.length : Int)) 40 = ((min (min weights.length bits.length) 40 : Nat) : Int) := by
    rw [imin_nat, show (40 : Int) = ((40 : Nat) : Int) from rfl, imin_nat]
  generalize hN : min (min weights.length bits.length) 40 = N at en
  have l1 : N ≤ weights.length := by omega
  have l2 : N ≤ bits.length := by omega
  have l3 : N ≤ 40 := by omega
  obtain ⟨r, er, a, b, rfl, ha, ha', hb1⟩ := loop_ex (f := f_foghorntop_loaded.s1 weights bits) N
    (fun k s => ∃ a b, s = (a, b, (k : Int)) ∧ a.length = k ∧ (∀ x ∈ a, 1 ≤ x ∧ x ≤ 50) ∧ BOK k b)
    (fun r => ∃ a b, r = (a, b) ∧ a.length = N ∧ (∀ x ∈ a, 1 ≤ x ∧ x ≤ 50) ∧ BOK N b) (s := ([], [], 0))
    ⟨[], [], rfl, rfl, by simp, ⟨rfl, by simp⟩⟩
    (fun k hk s hs => by
      obtain ⟨a, b, rfl, h1, h2, h3⟩ := hs
      have hbl := h3.l
      have m1 := Int.emod_nonneg (gt weights (k : Int)) (show (50 : Int) ≠ 0 by decide)
      have m2 := Int.emod_lt_of_pos (gt weights (k : Int)) (show (0 : Int) < 50 by decide)
      have m3 := Int.emod_nonneg (gt bits (k : Int)) (show (7 : Int) ≠ 0 by decide)
      have m4 := Int.emod_lt_of_pos (gt bits (k : Int)) (show (0 : Int) < 7 by decide)
      have ht : gt ([(0 : Int), (2 : Int), (4 : Int), (5 : Int), (6 : Int), (7 : Int), (8 : Int)]) (gt bits (k : Int) % 7) ∈ TK := by
        have : gt tk0 (gt bits (k : Int) % 7) ∈ tk0 := gt_mem m3 (by simpa [tk0] using m4)
        have h' : ∀ x ∈ tk0, x ∈ TK := by decide
        exact h' _ this
      simp only [f_foghorntop_loaded.s1, f_foghorntop_loaded.s1c]
      rw [en, if_pos (by rw [decide_eq_true_eq]; omega), if_pos (by omega), mod_ok _ (by decide) (by decide), Option.bind_some, w64 (x := 1 + _) (by omega) (by omega), if_pos (by rw [h1, List.length_singleton]; omega), if_pos (by omega),
        mod_ok _ (by decide) (by decide), Option.bind_some, if_pos (by simp only [List.length_cons, List.length_nil]; omega), if_pos (by rw [hbl, List.length_singleton]; omega), w64 (by omega) (by omega)]
      refine ⟨_, rfl, _, _, rfl, by rw [List.length_append, h1]; rfl, fun x hx => ?_, ⟨by rw [List.length_append, hbl]; rfl, fun x hx => ?_⟩⟩
      · rcases List.mem_append.1 hx with hx | hx
        · exact h2 x hx
        · simp only [List.mem_singleton] at hx; subst hx; omega
      · rcases List.mem_append.1 hx with hx | hx
        · exact h3.h x hx
        · simp only [List.mem_singleton] at hx; subst hx; exact ht)
    (fun s hs => by
      obtain ⟨a, b, rfl, h1, h2, h3⟩ := hs
      simp only [f_foghorntop_loaded.s1, f_foghorntop_loaded.s1c]
      rw [en, if_neg (by rw [decide_eq_true_eq]; omega)]
      exact ⟨_, rfl, a, b, rfl, h1, h2, h3⟩)
  unfold f_foghorntop_loaded
  rw [er, Option.bind_some, en]
  by_cases h0 : N = 0
  · rw [if_pos (by rw [h0]; rfl)]
  · rw [if_neg (by simp; omega), mod_ok _ (by decide) (by decide), Option.bind_some]
    have p0 := Int.emod_nonneg power (show (20000 : Int) ≠ 0 by decide)
    have p1 := Int.emod_lt_of_pos power (show (0 : Int) < 20000 by decide)
    generalize power % 20000 = p at p0 p1
    have wok : WOK a := ⟨by omega, by omega, ha'⟩
    rw [← ha] at hb1
    obtain ⟨m, em, hm, hc, hbest⟩ := most_ok wok p0 p1
    rw [check_ok wok hb1, Option.bind_some, em, Option.bind_some, check_ok wok hm, Option.bind_some]
    simp only [bne_self_eq_false, Bool.false_or, Bool.or_false]
    rw [if_neg (by rw [decide_eq_true_eq]; omega)]
    congr 1
    rw [Bool.or_eq_true, decide_eq_true_eq, decide_eq_true_eq]
    by_cases c : p < cost a b
    · exact .inl c
    · exact .inr (hbest b hb1 (by omega))

end LD
end Go.Proofs.YtgdhjjdgghilhaaGreat
