/- HardNames: the plain law. -/
import Derived.Test.YthajdlihjobcoaaU6
set_option linter.unusedVariables false
set_option linter.unusedSimpArgs false
set_option maxRecDepth 8000
namespace Go.Proofs.Ythajdlihjobcoaa
open GL

theorem path_no {c o t : Int} {ms : List Int} (h : f_hard_fits c o t ms = some false) : f_hard_Path c o t ms = some ([], 0, 1) := by
  unfold f_hard_Path
  rw [h]; rfl
theorem cw : CodeOK 3 7 5 := ⟨by decide, by decide, by decide, by decide, by decide, by decide, by decide⟩
/-- lengths that don't fit -/
theorem fits_len {n a b : Nat} (h : CodeOK n a b) {ms : List Int} (hl : ms.length < 140737488351233) (hb : 32768 < ms.length ∨ ms.length % 2 = 1 ∨ ms.length < 2 * (n - 1)) : f_hard_fits (n : Int) (a : Int) (b : Int) ms = some false := by
  have h1 := h.n2; have h2 := h.n7
  unfold f_hard_fits
  rw [check_ok h]
  simp only [Option.bind_some]
  have e1 : ((ms.length : Int)).tmod 2 = ((ms.length % 2 : Nat) : Int) := by rw [show (2 : Int) = ((2 : Nat) : Int) from rfl, tmod_nat]
  rw [e1, w64 (x := (n : Int) - 1) (by omega) (by omega), w64 (by omega) (by omega), if_pos]
  simp only [Bool.or_eq_true, bne_iff_ne, ne_eq, decide_eq_true_eq]
  omega
theorem fits_mark {n a b : Nat} (h : CodeOK n a b) {ms : List Int} (hl : ms.length < 140737488351233) (hb : ∃ m ∈ ms, 2 < m) : f_hard_fits (n : Int) (a : Int) (b : Int) ms = some false := by
  unfold f_hard_fits
  rw [check_ok h]
  simp only [Option.bind_some]
  split
  · rfl
  · rw [contains_ok ms hl, decide_eq_true hb]; rfl
theorem un_gone (b : Bool) : un b 2 = 0 := by unfold un; simp
theorem gt_rep (k i : Nat) (h : i < k) : gt (List.replicate k (2 : Int)) (i : Int) = 2 := by rw [gt_nat (by simpa using h)]; simp
theorem cst_gone {n a b k t s : Nat} (c : Bool) (h : 2 * t + 1 < k) : cst n a b (List.replicate k 2) t s c = 0 := by
  unfold cst
  rw [gt_rep k (2 * t) (by omega), gt_rep k (2 * t + 1) (by omega), un_gone, un_gone]
theorem nx0 (n : Nat) : nx n 0 false = 0 := by simp [nx, al]
theorem D_gone {n a b T N F : Nat} : ∀ k, k ≤ T → D n a b (List.replicate (2 * T) 2) T N F k 0 = 0
  | 0, _ => by simp [D]
  | k + 1, h => by
    have ih := D_gone (n := n) (a := a) (b := b) (T := T) (N := N) (F := F) k (by omega)
    simp only [D]
    rw [cst_gone (k := 2 * T) (t := T - (k + 1)) false (by omega), nx0, ih]
    split <;> simp
theorem pst_gone {n a b T N F : Nat} : ∀ t, t ≤ N → N ≤ T → pst n a b (List.replicate (2 * T) 2) T N F t = 0 ∧ (t < N → bitOf n a b (List.replicate (2 * T) 2) T N F t 0 = false) := by
  intro t ht hN
  have hb : ∀ t, t < N → bitOf n a b (List.replicate (2 * T) 2) T N F t 0 = false := fun t ht => by
    unfold bitOf
    rw [cst_gone false (by omega), nx0, D_gone _ (by omega), D_gone _ (by omega)]
    simp
  refine ⟨?_, hb t⟩
  induction t with
  | zero => rfl
  | succ t ih =>
    simp only [pst]
    rw [ih (by omega), hb t (by omega), nx0]
theorem path_gone {n a b T N : Nat} (h : CodeOK n a b) (ht : T = N + (n - 1)) (hm : T ≤ 16384) : f_hard_Path (n : Int) (a : Int) (b : Int) (List.replicate (2 * T) 2) = some (List.replicate N false, 0, 0) := by
  have hf : Fit n a b (List.replicate (2 * T) 2) T N := ⟨h, by simp, ht, hm, fun m hm => by rw [List.eq_of_mem_replicate hm]; decide⟩
  rw [path_ok hf, D_gone T (Nat.le_refl _)]
  have : msgN n a b (List.replicate (2 * T) 2) T N 1048576 N = List.replicate N false := by
    apply List.ext_getElem
    · simp [msgN]
    · intro i h1 h2
      simp only [msgN, List.length_map, List.length_range] at h1
      obtain ⟨h3, h4⟩ := pst_gone (n := n) (a := a) (b := b) (F := 1048576) i (Nat.le_of_lt h1) (show N ≤ T by omega)
      simp only [msgN, List.getElem_map, List.getElem_range, List.getElem_replicate]
      rw [h3, h4 h1]
  rw [this]; rfl
theorem take_rep {α : Type} (k i : Nat) (z : α) (h : i ≤ k) : ((List.replicate k z).drop 0).take (i - 0) = List.replicate i z := by
  simp; omega
theorem gone_loop : loop f_foghornlaw22_HardNames.s1 (List.replicate 32770 0, 0) = some (List.replicate 32770 2) := by
  have := loop_for (f := f_foghornlaw22_HardNames.s1) 32770 (fun t => List.replicate t 2 ++ List.replicate (32770 - t) 0) (List.replicate 32770 2) (fun t ht => ?_) ?_
  · rw [← this]
    congr 2
  · simp only [f_foghornlaw22_HardNames.s1, f_foghornlaw22_HardNames.s1c]
    have hl : (List.replicate t (2 : Int) ++ List.replicate (32770 - t) 0).length = 32770 := by simp only [List.length_append, List.length_replicate]; omega
    rw [hl, if_pos (by rw [decide_eq_true_eq]; omega), if_pos (by omega), w64 (by omega) (by omega), Int.toNat_natCast, List.set_append_right _ _ (by simp only [List.length_replicate]; omega)]
    have e2 : List.replicate (32770 - t) (0 : Int) = 0 :: List.replicate (32770 - (t + 1)) 0 := by
      rw [← List.replicate_succ]; congr 1; omega
    rw [e2, List.replicate_succ', List.append_assoc]
    simp only [List.length_replicate, Nat.sub_self, List.set_cons_zero]
    rfl
  · simp only [f_foghornlaw22_HardNames.s1, f_foghornlaw22_HardNames.s1c]
    have hl : (List.replicate 32770 (2 : Int) ++ List.replicate (32770 - 32770) 0).length = 32770 := by simp only [List.length_append, List.length_replicate]
    rw [hl, if_neg (by rw [decide_eq_true_eq]; omega), Nat.sub_self]
    simp only [List.replicate_zero, List.append_nil]
def K64 : List Bool := true :: List.replicate 63 false
theorem K64_at (i : Nat) : keepAt K64 i = decide (i % 64 = 0) := by
  unfold keepAt
  rw [show (K64.length : Int) = ((64 : Nat) : Int) from rfl, tmod_nat]
  have hm := Nat.mod_lt i (show 0 < 64 by decide)
  generalize i % 64 = j at *
  rw [gt_nat (by simpa [K64] using hm)]
  cases j with
  | zero => rfl
  | succ j =>
    simp only [K64, List.getElem_cons_succ, List.getElem_replicate]
    simp
theorem K64_cnt : ∀ i, cnt K64 i = (i + 63) / 64
  | 0 => rfl
  | i + 1 => by
    rw [cnt, K64_cnt i, K64_at]
    by_cases h : i % 64 = 0
    · rw [if_pos (by simpa using h)]; omega
    · rw [if_neg (by simpa using h)]; omega
theorem nm_hl : (List.replicate 32770 (2 : Int)).length = 32770 := List.length_replicate ..
theorem nm_hl3 : ((List.replicate 32770 (2 : Int)).set ((0 : Int)).toNat 3).length = 32770 := by rw [List.length_set, nm_hl]
theorem nm_p1 : f_hard_Path 3 7 5 (((List.replicate 32770 (2 : Int)).drop 0).take (((32768 : Int)).toNat - 0)) = some (List.replicate 16382 false, 0, 0) := by
  rw [show ((32768 : Int)).toNat = 2 * 16384 from rfl, take_rep 32770 (2 * 16384) 2 (by omega)]
  exact path_gone (n := 3) (a := 7) (b := 5) (T := 16384) (N := 16382) cw (by omega) (by omega)
theorem nm_p2 : f_hard_Path 3 7 5 (List.replicate 32770 (2 : Int)) = some ([], 0, 1) := path_no (fits_len (n := 3) (a := 7) (b := 5) cw (by rw [nm_hl]; omega) (.inl (by rw [nm_hl]; omega)))
theorem nm_p3 : f_hard_Path 3 7 5 (((List.replicate 32770 (2 : Int)).drop 0).take (((2 : Int)).toNat - 0)) = some ([], 0, 1) := by
  rw [show ((2 : Int)).toNat = 2 from rfl, take_rep 32770 2 2 (by omega)]
  exact path_no (fits_len (n := 3) (a := 7) (b := 5) cw (by decide) (by decide))
theorem nm_p4 : f_hard_Path 3 7 5 (((List.replicate 32770 (2 : Int)).drop 0).take (((4 : Int)).toNat - 0)) = some ([], 0, 0) := by
  rw [show ((4 : Int)).toNat = 2 * 2 from rfl, take_rep 32770 (2 * 2) 2 (by omega)]
  exact path_gone (n := 3) (a := 7) (b := 5) (T := 2) (N := 0) cw (by omega) (by omega)
theorem nm_p5 : f_hard_Path 3 7 5 (((List.replicate 32770 (2 : Int)).drop 0).take (((5 : Int)).toNat - 0)) = some ([], 0, 1) := by
  rw [show ((5 : Int)).toNat = 5 from rfl, take_rep 32770 5 2 (by omega)]
  exact path_no (fits_len (n := 3) (a := 7) (b := 5) cw (by decide) (by decide))
theorem nm_p6 : f_hard_Path 3 3 3 (((List.replicate 32770 (2 : Int)).drop 0).take (((6 : Int)).toNat - 0)) = some ([], 0, 1) := by
  apply path_no
  unfold f_hard_fits
  rw [show f_trellis_Code_Check 3 3 3 = some 1 from by decide +kernel]
  rfl
theorem nm_p7 : f_hard_Path 3 7 5 ((((List.replicate 32770 (2 : Int)).set ((0 : Int)).toNat 3).drop 0).take (((6 : Int)).toNat - 0)) = some ([], 0, 1) := by
  rw [show ((0 : Int)).toNat = 0 from rfl, show ((6 : Int)).toNat = 6 from rfl]
  have e : ((((List.replicate 32770 (2 : Int)).set 0 3).drop 0).take (6 - 0)) = [3, 2, 2, 2, 2, 2] := by
    rw [show (32770 : Nat) = 32769 + 1 from rfl, List.replicate_succ, List.set_cons_zero, List.drop_zero, Nat.sub_zero, List.take_succ_cons, List.take_replicate]; rfl
  rw [e]
  exact path_no (fits_mark (n := 3) (a := 7) (b := 5) cw (by decide) (by decide))
theorem nm_hl2 : (List.replicate 16382 false).length = 16382 := List.length_replicate ..
theorem nm_fl : loop (f_foghornlaw22_HardNames.s2 (List.replicate 16382 false, 0, 0)) 0 = some (.inl ()) := by
  refine loop_for1 16382 (Sum.inl ()) (fun i hi => ?_) ?_
  · simp only [f_foghornlaw22_HardNames.s2, f_foghornlaw22_HardNames.s2c]
    have hg : gt (List.replicate 16382 false) (i : Int) = false := by rw [gt_nat (by rw [nm_hl2]; exact hi), List.getElem_replicate]
    rw [nm_hl2, if_pos (by rw [decide_eq_true_eq]; omega), if_pos (by omega), hg, if_neg (by simp), w64 (by omega) (by omega)]; rfl
  · simp only [f_foghornlaw22_HardNames.s2, f_foghornlaw22_HardNames.s2c]
    rw [nm_hl2, if_neg (by rw [decide_eq_true_eq]; omega)]
theorem nm_k65' : ((List.replicate 65 false).set 0 true).length = 65 := rfl
theorem nm_k65 : (List.replicate 65 false).length = 65 := rfl
theorem nm_kk2 : (((List.replicate 65 false).set 0 true).drop (((1 : Int)).toNat)).take (((2 : Int)).toNat - ((1 : Int)).toNat) = [false] := by decide
theorem nm_kk : (((List.replicate 65 false).set 0 true).drop 0).take (((64 : Int)).toNat - 0) = K64 := by decide
theorem nm_t1 : f_hard_Thin [] ((List.replicate 65 false).set 0 true) = some ([], 1) := by
  unfold f_hard_Thin
  rw [if_neg (by simp), pattern_hard _ (by rw [nm_k65']; omega), nm_k65']
  simp
theorem nm_hz1 : (List.replicate 32769 false).length = 32769 := List.length_replicate ..
theorem nm_hz : (List.replicate 32768 false).length = 32768 := List.length_replicate ..
theorem nm_t3 : f_hard_Thin (List.replicate 32769 false) K64 = some ([], 1) := by
  unfold f_hard_Thin
  rw [if_pos (by rw [nm_hz1]; decide)]
  rfl
theorem nm_f2 : f_hard_Fill [] [false] 1 = some ([], 1) := by
  unfold f_hard_Fill
  rw [pattern_hard _ (by decide)]
  simp
theorem nm_f3 : f_hard_Fill [] [] 0 = some ([], 1) := by
  unfold f_hard_Fill
  rw [pattern_hard _ (by decide)]
  simp
set_option maxRecDepth 1000000 in
theorem bind_eq {α β : Type} {x : Option α} {v : α} {f : α → Option β} {r : Option β} (h : x = some v) (k : f v = r) : x.bind f = r := by rw [h]; exact k
theorem ite_eq {α : Type} {c : Prop} [Decidable c] {x y r : α} (h : c) (k : x = r) : ite c x y = r := by rw [if_pos h]; exact k
theorem ite_eqN {α : Type} {c : Prop} [Decidable c] {x y r : α} (h : ¬ c) (k : y = r) : ite c x y = r := by rw [if_neg h]; exact k
theorem sm_eqL {α β γ : Type} {a : α} {f : α → γ} {g : β → γ} {r : γ} (k : f a = r) : sm (Sum.inl a : α ⊕ β) f g = r := k
theorem nm_short : f_foghornlaw22_short = some (3, 7, 5) := rfl
theorem nm_mk (n : Int) (m : Nat) (z : Bool) (h : n = (m : Int)) : mk0 n z = List.replicate m z := by rw [mk0_eq, h, Int.toNat_natCast]
theorem nm_mkI (n : Int) (m : Nat) (z : Int) (h : n = (m : Int)) : mk0 n z = List.replicate m z := by rw [mk0_eq, h, Int.toNat_natCast]
theorem nm_t2 : f_hard_Thin (List.replicate 32768 false) K64 = some (thinL (List.replicate 32768 false) K64 32768, 0) := by
  have t2 := thin_ok (List.replicate 32768 false) K64 (by rw [nm_hz]; omega) (by decide) (by decide)
  rw [nm_hz] at t2
  exact t2
theorem nm_tl : (thinL (List.replicate 32768 false) K64 32768).length = 512 := by
  rw [thinL_len, K64_cnt]
theorem nm_f1 : f_hard_Fill (thinL (List.replicate 32768 false) K64 32768) K64 32768 = some ((List.range 32768).map (mkF (thinL (List.replicate 32768 false) K64 32768) K64), 0) :=
  fill_ok (thinL (List.replicate 32768 false) K64 32768) K64 32768 (Nat.le_refl _) (by rw [nm_tl]; omega) (by decide) (by decide) (by rw [nm_tl, K64_cnt])
theorem nm_g1 : loop f_foghornlaw22_HardNames.s1 (mk0 32770 0, 0) = some (List.replicate 32770 2) := by
  rw [nm_mkI 32770 32770 0 rfl]; exact gone_loop
theorem nm_c {x y : Nat} {l : List Int} (h : l.length = y) (k : x ≤ y) : 0 ≤ (x : Int) ∧ (x : Int) ≤ (l.length : Int) := by rw [h]; omega
theorem nm_b65 : mk0 65 false = List.replicate 65 false := nm_mk 65 65 false rfl
theorem nm_set : (mk0 65 false).set ((0 : Int)).toNat true = (List.replicate 65 false).set 0 true := by rw [nm_b65]; rfl
theorem nm_T1 : f_hard_Thin [] ((mk0 65 false).set ((0 : Int)).toNat true) = some ([], 1) := by rw [nm_set]; exact nm_t1
theorem nm_keep : ((((mk0 65 false).set ((0 : Int)).toNat true).drop 0).take (((64 : Int)).toNat - 0)) = K64 := by rw [nm_set]; exact nm_kk
theorem nm_keep2 : ((((mk0 65 false).set ((0 : Int)).toNat true).drop (((1 : Int)).toNat)).take (((2 : Int)).toNat - ((1 : Int)).toNat)) = [false] := by rw [nm_set]; exact nm_kk2
theorem nm_setlen : ((mk0 65 false).set ((0 : Int)).toNat true).length = 65 := by rw [nm_set]; exact nm_k65'
theorem nm_T2 : f_hard_Thin (mk0 32768 false) ((((mk0 65 false).set ((0 : Int)).toNat true).drop 0).take (((64 : Int)).toNat - 0)) = some (thinL (List.replicate 32768 false) K64 32768, 0) := by
  rw [nm_keep, nm_mk 32768 32768 false rfl]; exact nm_t2
theorem nm_T3 : f_hard_Thin (mk0 32769 false) ((((mk0 65 false).set ((0 : Int)).toNat true).drop 0).take (((64 : Int)).toNat - 0)) = some ([], 1) := by
  rw [nm_keep, nm_mk 32769 32769 false rfl]; exact nm_t3
theorem nm_F1 : f_hard_Fill (thinL (List.replicate 32768 false) K64 32768) ((((mk0 65 false).set ((0 : Int)).toNat true).drop 0).take (((64 : Int)).toNat - 0)) 32768 = some ((List.range 32768).map (mkF (thinL (List.replicate 32768 false) K64 32768) K64), 0) := by
  rw [nm_keep]; exact nm_f1
theorem nm_F2 : f_hard_Fill [] ((((mk0 65 false).set ((0 : Int)).toNat true).drop (((1 : Int)).toNat)).take (((2 : Int)).toNat - ((1 : Int)).toNat)) 1 = some ([], 1) := by
  rw [nm_keep2]; exact nm_f2
theorem nm_end : ((((((((((1 : Int) == 1) && ((0 : Int) == 0)) && ((1 : Int) == 1)) && ((0 : Int) == 0)) && ((1 : Int) == 1)) && ((1 : Int) == 1)) && (((thinL (List.replicate 32768 false) K64 32768).length : Int) == 512)) && ((((List.range 32768).map (mkF (thinL (List.replicate 32768 false) K64 32768) K64)).length : Int) == 32768))) = true := by
  rw [nm_tl, List.length_map, List.length_range]; rfl
theorem nm_some {b : Bool} (h : b = true) : some b = some true := by rw [h]
theorem nm_cl {m k : Nat} {l : List Int} (h : l.length = m) (hk : k ≤ m) : (k : Int) ≤ (l.length : Int) := by rw [h]; omega
theorem names_true : f_foghornlaw22_HardNames = some true := by
  unfold f_foghornlaw22_HardNames
  refine bind_eq works_true ?_
  refine ite_eqN (by decide) ?_
  refine ite_eq (by omega) ?_
  refine bind_eq nm_g1 ?_
  refine bind_eq nm_short ?_
  refine ite_eq ⟨by omega, nm_cl (k := 32768) nm_hl (by omega)⟩ ?_
  refine bind_eq nm_p1 ?_
  refine bind_eq nm_short ?_
  refine bind_eq nm_p2 ?_
  refine bind_eq nm_short ?_
  refine ite_eq ⟨by omega, nm_cl (k := 2) nm_hl (by omega)⟩ ?_
  refine bind_eq nm_p3 ?_
  refine bind_eq nm_short ?_
  refine ite_eq ⟨by omega, nm_cl (k := 4) nm_hl (by omega)⟩ ?_
  refine bind_eq nm_p4 ?_
  refine bind_eq nm_short ?_
  refine ite_eq ⟨by omega, nm_cl (k := 5) nm_hl (by omega)⟩ ?_
  refine bind_eq nm_p5 ?_
  refine ite_eq ⟨by omega, nm_cl (k := 6) nm_hl (by omega)⟩ ?_
  refine bind_eq nm_p6 ?_
  refine ite_eq ⟨by omega, nm_cl (k := 1) nm_hl (by omega)⟩ ?_
  refine bind_eq nm_short ?_
  refine ite_eq ⟨by omega, nm_cl (k := 6) nm_hl3 (by omega)⟩ ?_
  refine bind_eq nm_p7 ?_
  refine ite_eqN (fun hc => ?_) ?_
  · have e1 : (((List.replicate 16382 false).length : Int) != 16382) = false := by rw [nm_hl2]; rfl
    have hc' : ((((((((((((0 : Int) != 0) || ((1 : Int) != 1)) || ((1 : Int) != 1)) || ((0 : Int) != 0)) || ((1 : Int) != 1)) || ((1 : Int) != 1)) || ((1 : Int) != 1)) || ((0 : Int) != 0)) || (((List.replicate 16382 false).length : Int) != 16382)) || ((([] : List Bool).length : Int) != 0))) = true := hc
    rw [e1] at hc'
    exact absurd hc' (by decide)
  refine bind_eq nm_fl ?_
  refine sm_eqL ?_
  refine ite_eq (by omega) ?_
  refine ite_eq ⟨by omega, by rw [nm_b65]; decide⟩ ?_
  refine bind_eq nm_T1 ?_
  refine ite_eq (by omega) ?_
  refine ite_eq ⟨by omega, by rw [nm_setlen]; omega⟩ ?_
  refine bind_eq nm_T2 ?_
  refine ite_eq (by omega) ?_
  refine ite_eq ⟨by omega, by rw [nm_setlen]; omega⟩ ?_
  refine bind_eq nm_T3 ?_
  refine ite_eq ⟨by omega, by rw [nm_setlen]; omega⟩ ?_
  refine bind_eq nm_F1 ?_
  refine ite_eq ⟨by omega, by omega, by rw [nm_setlen]; omega⟩ ?_
  refine bind_eq nm_F2 ?_
  refine bind_eq nm_f3 ?_
  dsimp only
  rw [nm_tl, List.length_map, List.length_range]
  rfl

end Go.Proofs.Ythajdlihjobcoaa
