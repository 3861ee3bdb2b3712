/- The functions foghorn foghornlaw28.AgainLean: what each answers, as a plain function, and that its call answers it; printed by gen.py. -/
import Derived.Test.YtmdigffgmohcnaaProg
import Derived.Test.YtmdigffgmohcnaaGlUb
import Derived.KernelRfl
import Derived.Test.YtmdigffgmohcnaaG5p1
set_option linter.unusedVariables false
set_option linter.unusedSimpArgs false
set_option maxRecDepth 100000
set_option maxHeartbeats 4000000
namespace Go.Proofs.Ytmdigffgmohcnaa
open GL
noncomputable def f_foghornlaw28_works  : Option Bool := ((f_again_NewSender (2 : Int) (5 : Int)).bind fun q1 => ((f_again_NewReceiver (2 : Int)).bind fun q5 => (if ((((q1.2 != (0 : Int)) || (q5.2 != (0 : Int))) || ((q1.1).isNone)) || ((q5.1).isNone)) = true then (some false) else ((q1.1).bind fun s15 => ((f_again_Sender_Offer s15.1 s15.2.1 s15.2.2.1 s15.2.2.2.1 s15.2.2.2.2 (ByteArray.mk #[97])).bind fun q19 => ((f_again_Sender_Tick q19.2.1 q19.2.2.1 q19.2.2.2.1 q19.2.2.2.2.1 q19.2.2.2.2.2 (0 : Int)).bind fun q24 => ((if (((q19.1 != (0 : Int)) || (q24.2.1 != (0 : Int))) || ((q24.1.length : Int) != (1 : Int))) = true then (some true) else (if 0 ≤ (0 : Int) ∧ (0 : Int) < (q24.1.length : Int) then (some (!seq ((gt q24.1 (0 : Int)).2.2.2) (ByteArray.mk #[97]))) else none)).bind fun z37 => ((if z37 = true then (some true) else (if 0 ≤ (0 : Int) ∧ (0 : Int) < (q24.1.length : Int) then (some ((gt q24.1 (0 : Int)).1 != (1 : Int))) else none)).bind fun z41 => (if z41 = true then (some false) else (if 0 ≤ (0 : Int) ∧ (0 : Int) < (q24.1.length : Int) then ((q5.1).bind fun s44 => ((f_again_Receiver_Take s44.1 s44.2.1 s44.2.2 ((gt q24.1 (0 : Int)).1) ((gt q24.1 (0 : Int)).2.1) ((gt q24.1 (0 : Int)).2.2.1) ((gt q24.1 (0 : Int)).2.2.2)).bind fun q48 => ((if ((q48.2.2.1 == (0 : Int)) && ((q48.1.length : Int) == (1 : Int))) = true then (if 0 ≤ (0 : Int) ∧ (0 : Int) < (q48.1.length : Int) then (some (seq (gt q48.1 (0 : Int)) (ByteArray.mk #[97]))) else none) else (some false)).bind fun z61 => ((if ((z61 && (q48.2.1.2.1 == (1 : Int))) && (q48.2.1.1 == (2 : Int))) = true then ((f_again_Sender_Hear q24.2.2.1 q24.2.2.2.1 q24.2.2.2.2.1 q24.2.2.2.2.2.1 q24.2.2.2.2.2.2 q48.2.1.1 q48.2.1.2.1 q48.2.1.2.2.1 q48.2.1.2.2.2).bind fun q73 => (some ((q73.1 == (0 : Int)), q73.2.1, q73.2.2.1, q73.2.2.2.1, q73.2.2.2.2.1, q73.2.2.2.2.2))) else (some (false, q24.2.2.1, q24.2.2.2.1, q24.2.2.2.2.1, q24.2.2.2.2.2.1, q24.2.2.2.2.2.2))).bind fun z72 => ((if z72.1 = true then ((f_again_Sender_Left z72.2.1 z72.2.2.1 z72.2.2.2.1 z72.2.2.2.2.1 z72.2.2.2.2.2).bind fun q81 => (some (q81 == (0 : Int)))) else (some false)).bind fun z80 => ((if z80 = true then ((f_again_Receiver_Handed q48.2.2.2.1 q48.2.2.2.2.1).bind fun q96 => (some (q96 == (1 : Int)))) else (some false)).bind fun z95 => (some z95))))))) else none))))))))))
theorem f_foghornlaw28_works_c {S : Nat → Prop} {w0 w : World} {ow : List Res} (hp : Hp S w0 w ow) {r : Bool} (h : f_foghornlaw28_works = some r) :
   Calls Try.prog 27 #[] w (fun e w' => e = .returned (.bool r) ∧ Hp S w0 w' (ow)) := by
  unfold f_foghornlaw28_works at h
  refine enter (n := 113) (args := []) Try.func27 rfl rfl (Nat.le_of_ble_eq_true rfl) fun a hf => ?_
  replace hf : Fr 113 a [] := hf
  refine wp_mono (Q := fun e a w => e = .ret ∧ Fr 113 a [(0, .bool r)] ∧ Hp S w0 w (ow)) ?_ ?_
  rotate_left
  ·
   rintro e a w ⟨rfl, hf, hp⟩
   exact ret1 hf rfl rfl ⟨rfl, hp⟩
  refine wp_seq ?_
  refine wp_reg ?_
  refine st_assign hf rfl rfl (by decide) ?_
  clear hf; intro a ha hf; clear ha
  refine st_nil hf ?_
  refine th_n ?_
  refine wp_seq ?_
  refine wp_reg ?_
  obtain ⟨q1, hcall2, h⟩ := bnd h
  refine st_call hf (by decide) Try.func15 rfl rfl rfl rfl rfl (f_again_NewSender_c hp _ _ hcall2) ?_
  rintro _ w ⟨v3, rfl, hp0⟩
  clear hp; have hp := hp0; clear hp0
  replace hp : Hp _ _ _ (Res.opt pk79 v3 q1.1 :: ow) := hp
  refine ⟨_, rfl, ?_⟩
  clear hf; intro a hf
  refine st_move hf rfl rfl (by decide) ?_
  clear hf; intro a ha hf; clear ha
  refine st_extract hf (by decide) rfl rfl rfl ?_
  clear hf; intro a ha hf; clear ha
  refine st_extract hf (by decide) rfl rfl rfl ?_
  clear hf; intro a ha hf; clear ha
  refine st_assign hf rfl rfl (by decide) ?_
  clear hf; intro a ha hf; clear ha
  refine st_assign hf rfl rfl (by decide) ?_
  clear hf; intro a ha hf; clear ha
  refine st_nil hf ?_
  refine th_n ?_
  refine wp_seq ?_
  refine wp_reg ?_
  obtain ⟨q5, hcall6, h⟩ := bnd h
  refine st_call hf (by decide) Try.func8 rfl rfl rfl rfl rfl (f_again_NewReceiver_c hp _ hcall6) ?_
  rintro _ w ⟨v7, rfl, hp0⟩
  clear hp; have hp := hp0; clear hp0
  replace hp : Hp _ _ _ (Res.opt pk74 v7 q5.1 :: _ :: ow) := hp
  refine ⟨_, rfl, ?_⟩
  clear hf; intro a hf
  refine st_move hf rfl rfl (by decide) ?_
  clear hf; intro a ha hf; clear ha
  refine st_extract hf (by decide) rfl rfl rfl ?_
  clear hf; intro a ha hf; clear ha
  refine st_extract hf (by decide) rfl rfl rfl ?_
  clear hf; intro a ha hf; clear ha
  refine st_assign hf rfl rfl (by decide) ?_
  clear hf; intro a ha hf; clear ha
  refine st_assign hf rfl rfl (by decide) ?_
  clear hf; intro a ha hf; clear ha
  refine st_nil hf ?_
  refine th_n ?_
  refine wp_seq ?_
  refine wp_seq ?_
  refine wp_reg ?_
  refine st_move hf rfl rfl (by decide) ?_
  clear hf; intro a ha hf; clear ha
  refine st_ineq hf (by decide) rfl rfl rfl ?_
  clear hf; intro a ha hf; clear ha
  refine st_move hf rfl rfl (by decide) ?_
  clear hf; intro a ha hf; clear ha
  refine wpList_cut 3 (fun a w => Fr 113 a [(1, v3), (3, v7), (24, .bool ((q1.2 != (0 : Int)) || (q5.2 != (0 : Int))))] ∧ Hp S w0 w (Res.opt pk74 v7 q5.1 :: Res.opt pk79 v3 q1.1 :: ow)) ?_ ?_
  ·
   rcases Bool.eq_false_or_eq_true (q1.2 != (0 : Int)) with hb10 | hb10
   ·
    refine st_skip hf (wantN hf rfl rfl hb10) rfl (by decide) ?_ rfl
    clear hf; intro a hf
    refine st_skip hf (wantN hf rfl rfl hb10) rfl (by decide) ?_ rfl
    clear hf; intro a hf
    refine st_pick (v := .bool true) hf rfl rfl (fun hb' => ?_) (fun hb' => ?_) (by decide) ?_
    · rfl
    · exact absurd (hb10.symm.trans hb') (by decide)
    clear hf; intro a ha hf; clear ha
    refine st_nil hf (th_n ?_)
    exact ⟨hf.sub ⟨rfl, rfl, (by rw [hb10]; rfl), trivial⟩, hp⟩
   refine st_move hf (wantY hf rfl rfl hb10) rfl (by decide) ?_
   clear hf; intro a ha hf; clear ha
   refine st_ineq hf (by decide) (wantY hf rfl rfl hb10) rfl rfl ?_
   clear hf; intro a ha hf; clear ha
   refine st_pick (v := .bool (q5.2 != (0 : Int))) hf rfl rfl (fun hb' => ?_) (fun hb' => ?_) (by decide) ?_
   · exact absurd (hb10.symm.trans hb') (by decide)
   · rfl
   clear hf; intro a ha hf; clear ha
   refine st_nil hf (th_n ?_)
   exact ⟨hf.sub ⟨rfl, rfl, (by rw [hb10]; rfl), trivial⟩, hp⟩
  rintro a w ⟨hf, hp⟩
  refine st_move hf rfl rfl (by decide) ?_
  clear hf; intro a ha hf; clear ha
  refine wpList_cut 3 (fun a w => Fr 113 a [(1, v3), (3, v7), (28, .bool (((q1.2 != (0 : Int)) || (q5.2 != (0 : Int))) || ((q1.1).isNone)))] ∧ Hp S w0 w (Res.opt pk74 v7 q5.1 :: Res.opt pk79 v3 q1.1 :: ow)) ?_ ?_
  ·
   rcases Bool.eq_false_or_eq_true ((q1.2 != (0 : Int)) || (q5.2 != (0 : Int))) with hb12 | hb12
   ·
    refine st_skip hf (wantN hf rfl rfl hb12) rfl (by decide) ?_ rfl
    clear hf; intro a hf
    refine st_skip hf (wantN hf rfl rfl hb12) rfl (by decide) ?_ rfl
    clear hf; intro a hf
    refine st_pick (v := .bool true) hf rfl rfl (fun hb' => ?_) (fun hb' => ?_) (by decide) ?_
    · rfl
    · exact absurd (hb12.symm.trans hb') (by decide)
    clear hf; intro a ha hf; clear ha
    refine st_nil hf (th_n ?_)
    exact ⟨hf.sub ⟨rfl, rfl, (by rw [hb12]; rfl), trivial⟩, hp⟩
   refine st_move hf (wantY hf rfl rfl hb12) rfl (by decide) ?_
   clear hf; intro a ha hf; clear ha
   refine st_peql hf (by decide) Try.underlying44 (wantY hf rfl rfl hb12) rfl rfl (hp.nilB (i := 1) rfl) ?_
   clear hf; intro a ha hf; clear ha
   refine st_pick (v := .bool ((q1.1).isNone)) hf rfl rfl (fun hb' => ?_) (fun hb' => ?_) (by decide) ?_
   · exact absurd (hb12.symm.trans hb') (by decide)
   · rfl
   clear hf; intro a ha hf; clear ha
   refine st_nil hf (th_n ?_)
   exact ⟨hf.sub ⟨rfl, rfl, (by rw [hb12]; rfl), trivial⟩, hp⟩
  rintro a w ⟨hf, hp⟩
  refine st_move hf rfl rfl (by decide) ?_
  clear hf; intro a ha hf; clear ha
  refine wpList_cut 3 (fun a w => Fr 113 a [(1, v3), (3, v7), (32, .bool ((((q1.2 != (0 : Int)) || (q5.2 != (0 : Int))) || ((q1.1).isNone)) || ((q5.1).isNone)))] ∧ Hp S w0 w (Res.opt pk74 v7 q5.1 :: Res.opt pk79 v3 q1.1 :: ow)) ?_ ?_
  ·
   rcases Bool.eq_false_or_eq_true (((q1.2 != (0 : Int)) || (q5.2 != (0 : Int))) || ((q1.1).isNone)) with hb14 | hb14
   ·
    refine st_skip hf (wantN hf rfl rfl hb14) rfl (by decide) ?_ rfl
    clear hf; intro a hf
    refine st_skip hf (wantN hf rfl rfl hb14) rfl (by decide) ?_ rfl
    clear hf; intro a hf
    refine st_pick (v := .bool true) hf rfl rfl (fun hb' => ?_) (fun hb' => ?_) (by decide) ?_
    · rfl
    · exact absurd (hb14.symm.trans hb') (by decide)
    clear hf; intro a ha hf; clear ha
    refine st_nil hf (th_n ?_)
    exact ⟨hf.sub ⟨rfl, rfl, (by rw [hb14]; rfl), trivial⟩, hp⟩
   refine st_move hf (wantY hf rfl rfl hb14) rfl (by decide) ?_
   clear hf; intro a ha hf; clear ha
   refine st_peql hf (by decide) Try.underlying23 (wantY hf rfl rfl hb14) rfl rfl (hp.nilB (i := 0) rfl) ?_
   clear hf; intro a ha hf; clear ha
   refine st_pick (v := .bool ((q5.1).isNone)) hf rfl rfl (fun hb' => ?_) (fun hb' => ?_) (by decide) ?_
   · exact absurd (hb14.symm.trans hb') (by decide)
   · rfl
   clear hf; intro a ha hf; clear ha
   refine st_nil hf (th_n ?_)
   exact ⟨hf.sub ⟨rfl, rfl, (by rw [hb14]; rfl), trivial⟩, hp⟩
  rintro a w ⟨hf, hp⟩
  refine st_nil hf ?_
  refine th_n ?_
  refine wp_if hf rfl (fun hb => ?_) (fun hb => ?_)
  ·
   replace h := ifT h hb
   refine wp_seq ?_
   refine wp_reg ?_
   refine st_assign hf rfl rfl (by decide) ?_
   clear hf; intro a ha hf; clear ha
   refine st_nil hf ?_
   refine th_n ?_
   refine wp_ret ?_
   refine th_r ?_
   obtain rfl := Option.some.inj h
   have hp : Hp _ _ _ (ow) := Hp.sel (pre := [Res.opt pk74 v7 q5.1, Res.opt pk79 v3 q1.1]) (tail := ow) (rs' := []) hp [] (by decide) (by simp) rfl
   exact ⟨rfl, ⟨hf.sub ⟨rfl, trivial⟩, hp⟩⟩
  replace h := ifF h hb
  refine wp_skip ?_
  refine th_n ?_
  refine wp_seq ?_
  refine wp_reg ?_
  refine st_move hf rfl rfl (by decide) ?_
  clear hf; intro a ha hf; clear ha
  obtain ⟨s15, hs16, h⟩ := bnd h
  have hp : Hp _ _ _ (_ :: _ :: ow) := Hp.sel (pre := [Res.opt pk74 v7 q5.1, Res.opt pk79 v3 q1.1]) (tail := ow) (rs' := [Res.opt pk79 v3 q1.1, Res.opt pk74 v7 q5.1]) hp [1, 0] (by decide) (by simp) rfl
  replace hp : Hp _ _ _ (pk79.R v3 s15 :: _ :: ow) := hp.optSome hs16
  obtain ⟨v17, hp⟩ := pk79_in hp
  replace hp : Hp _ _ _ (Res.obj 79 v3 [.int .i64 s15.1, .int .i64 s15.2.1, .int .i64 s15.2.2.1, .int .i64 s15.2.2.2.1, v17] :: Res.sl (Ek.pair Ek.str (Ek.pair Ek.bool (Ek.pair (Ek.int .i64) Ek.bool))) 81 v17 s15.2.2.2.2 :: _ :: ow) := hp
  obtain ⟨q19, hcall20, h⟩ := bnd h
  have hp21 : Hp _ _ _ (Res.sl (Ek.pair Ek.str (Ek.pair Ek.bool (Ek.pair (Ek.int .i64) Ek.bool))) 81 v17 s15.2.2.2.2 :: Res.obj 79 v3 [.int .i64 s15.1, .int .i64 s15.2.1, .int .i64 s15.2.2.1, .int .i64 s15.2.2.2.1, v17] :: Res.opt pk74 v7 q5.1 :: ow) := Hp.sel (pre := [Res.obj 79 v3 [.int .i64 s15.1, .int .i64 s15.2.1, .int .i64 s15.2.2.1, .int .i64 s15.2.2.2.1, v17], Res.sl (Ek.pair Ek.str (Ek.pair Ek.bool (Ek.pair (Ek.int .i64) Ek.bool))) 81 v17 s15.2.2.2.2, Res.opt pk74 v7 q5.1]) (tail := ow) (rs' := [Res.sl (Ek.pair Ek.str (Ek.pair Ek.bool (Ek.pair (Ek.int .i64) Ek.bool))) 81 v17 s15.2.2.2.2, Res.obj 79 v3 [.int .i64 s15.1, .int .i64 s15.2.1, .int .i64 s15.2.2.1, .int .i64 s15.2.2.2.1, v17], Res.opt pk74 v7 q5.1]) hp [1, 0, 2] (by decide) (by simp) rfl
  refine st_call hf (by decide) Try.func17 rfl rfl rfl rfl rfl (f_again_Sender_Offer_c _ _ _ _ _ _ _ _ hp21 hcall20) ?_
  rintro _ w ⟨v22, rfl, hp0⟩
  clear hp; have hp := hp0; clear hp0
  replace hp : Hp _ _ _ (Res.sl (Ek.pair Ek.str (Ek.pair Ek.bool (Ek.pair (Ek.int .i64) Ek.bool))) 81 v22 q19.2.2.2.2.2 :: Res.obj 79 v3 [.int .i64 q19.2.1, .int .i64 q19.2.2.1, .int .i64 q19.2.2.2.1, .int .i64 q19.2.2.2.2.1, v22] :: _ :: ow) := hp
  refine ⟨_, rfl, ?_⟩
  clear hf; intro a hf
  refine st_assign hf rfl rfl (by decide) ?_
  clear hf; intro a ha hf; clear ha
  refine st_nil hf ?_
  refine th_n ?_
  refine wp_seq ?_
  refine wp_reg ?_
  refine st_move hf rfl rfl (by decide) ?_
  clear hf; intro a ha hf; clear ha
  obtain ⟨q24, hcall25, h⟩ := bnd h
  have hp26 : Hp _ _ _ (Res.sl (Ek.pair Ek.str (Ek.pair Ek.bool (Ek.pair (Ek.int .i64) Ek.bool))) 81 v22 q19.2.2.2.2.2 :: Res.obj 79 v3 [.int .i64 q19.2.1, .int .i64 q19.2.2.1, .int .i64 q19.2.2.2.1, .int .i64 q19.2.2.2.2.1, v22] :: Res.opt pk74 v7 q5.1 :: ow) := Hp.sel (pre := [Res.sl (Ek.pair Ek.str (Ek.pair Ek.bool (Ek.pair (Ek.int .i64) Ek.bool))) 81 v22 q19.2.2.2.2.2, Res.obj 79 v3 [.int .i64 q19.2.1, .int .i64 q19.2.2.1, .int .i64 q19.2.2.2.1, .int .i64 q19.2.2.2.2.1, v22], Res.opt pk74 v7 q5.1]) (tail := ow) (rs' := [Res.sl (Ek.pair Ek.str (Ek.pair Ek.bool (Ek.pair (Ek.int .i64) Ek.bool))) 81 v22 q19.2.2.2.2.2, Res.obj 79 v3 [.int .i64 q19.2.1, .int .i64 q19.2.2.1, .int .i64 q19.2.2.2.1, .int .i64 q19.2.2.2.2.1, v22], Res.opt pk74 v7 q5.1]) hp [0, 1, 2] (by decide) (by simp) rfl
  refine st_call hf (by decide) Try.func19 rfl rfl rfl rfl rfl (f_again_Sender_Tick_c _ _ _ _ _ _ _ _ hp26 hcall25) ?_
  rintro _ w ⟨v27, v28, rfl, hp0⟩
  clear hp; have hp := hp0; clear hp0
  replace hp : Hp _ _ _ (Res.sl (Ek.pair (Ek.int .u8) (Ek.pair (Ek.int .u8) (Ek.pair Ek.bool Ek.str))) 31 v27 q24.1 :: Res.sl (Ek.pair Ek.str (Ek.pair Ek.bool (Ek.pair (Ek.int .i64) Ek.bool))) 81 v28 q24.2.2.2.2.2.2 :: Res.obj 79 v3 [.int .i64 q24.2.2.1, .int .i64 q24.2.2.2.1, .int .i64 q24.2.2.2.2.1, .int .i64 q24.2.2.2.2.2.1, v28] :: _ :: ow) := hp
  refine ⟨_, rfl, ?_⟩
  clear hf; intro a hf
  refine st_move hf rfl rfl (by decide) ?_
  clear hf; intro a ha hf; clear ha
  refine st_extract hf (by decide) rfl rfl rfl ?_
  clear hf; intro a ha hf; clear ha
  refine st_extract hf (by decide) rfl rfl rfl ?_
  clear hf; intro a ha hf; clear ha
  refine st_assign hf rfl rfl (by decide) ?_
  clear hf; intro a ha hf; clear ha
  refine st_assign hf rfl rfl (by decide) ?_
  clear hf; intro a ha hf; clear ha
  refine st_nil hf ?_
  refine th_n ?_
  refine wp_seq ?_
  refine wp_seq ?_
  refine wp_reg ?_
  refine st_move hf rfl rfl (by decide) ?_
  clear hf; intro a ha hf; clear ha
  refine st_ineq hf (by decide) rfl rfl rfl ?_
  clear hf; intro a ha hf; clear ha
  refine st_move hf rfl rfl (by decide) ?_
  clear hf; intro a ha hf; clear ha
  refine wpList_cut 3 (fun a w => Fr 113 a [(1, v3), (3, v7), (6, v27), (45, .bool ((q19.1 != (0 : Int)) || (q24.2.1 != (0 : Int))))] ∧ Hp S w0 w (Res.sl (Ek.pair (Ek.int .u8) (Ek.pair (Ek.int .u8) (Ek.pair Ek.bool Ek.str))) 31 v27 q24.1 :: Res.sl (Ek.pair Ek.str (Ek.pair Ek.bool (Ek.pair (Ek.int .i64) Ek.bool))) 81 v28 q24.2.2.2.2.2.2 :: Res.obj 79 v3 [.int .i64 q24.2.2.1, .int .i64 q24.2.2.2.1, .int .i64 q24.2.2.2.2.1, .int .i64 q24.2.2.2.2.2.1, v28] :: Res.opt pk74 v7 q5.1 :: ow)) ?_ ?_
  ·
   rcases Bool.eq_false_or_eq_true (q19.1 != (0 : Int)) with hb32 | hb32
   ·
    refine st_skip hf (wantN hf rfl rfl hb32) rfl (by decide) ?_ rfl
    clear hf; intro a hf
    refine st_skip hf (wantN hf rfl rfl hb32) rfl (by decide) ?_ rfl
    clear hf; intro a hf
    refine st_pick (v := .bool true) hf rfl rfl (fun hb' => ?_) (fun hb' => ?_) (by decide) ?_
    · rfl
    · exact absurd (hb32.symm.trans hb') (by decide)
    clear hf; intro a ha hf; clear ha
    refine st_nil hf (th_n ?_)
    exact ⟨hf.sub ⟨rfl, rfl, rfl, (by rw [hb32]; rfl), trivial⟩, hp⟩
   refine st_move hf (wantY hf rfl rfl hb32) rfl (by decide) ?_
   clear hf; intro a ha hf; clear ha
   refine st_ineq hf (by decide) (wantY hf rfl rfl hb32) rfl rfl ?_
   clear hf; intro a ha hf; clear ha
   refine st_pick (v := .bool (q24.2.1 != (0 : Int))) hf rfl rfl (fun hb' => ?_) (fun hb' => ?_) (by decide) ?_
   · exact absurd (hb32.symm.trans hb') (by decide)
   · rfl
   clear hf; intro a ha hf; clear ha
   refine st_nil hf (th_n ?_)
   exact ⟨hf.sub ⟨rfl, rfl, rfl, (by rw [hb32]; rfl), trivial⟩, hp⟩
  rintro a w ⟨hf, hp⟩
  refine st_move hf rfl rfl (by decide) ?_
  clear hf; intro a ha hf; clear ha
  refine wpList_cut 4 (fun a w => Fr 113 a [(1, v3), (3, v7), (6, v27), (50, .bool (((q19.1 != (0 : Int)) || (q24.2.1 != (0 : Int))) || ((q24.1.length : Int) != (1 : Int))))] ∧ Hp S w0 w (Res.sl (Ek.pair (Ek.int .u8) (Ek.pair (Ek.int .u8) (Ek.pair Ek.bool Ek.str))) 31 v27 q24.1 :: Res.sl (Ek.pair Ek.str (Ek.pair Ek.bool (Ek.pair (Ek.int .i64) Ek.bool))) 81 v28 q24.2.2.2.2.2.2 :: Res.obj 79 v3 [.int .i64 q24.2.2.1, .int .i64 q24.2.2.2.1, .int .i64 q24.2.2.2.2.1, .int .i64 q24.2.2.2.2.2.1, v28] :: Res.opt pk74 v7 q5.1 :: ow)) ?_ ?_
  ·
   rcases Bool.eq_false_or_eq_true ((q19.1 != (0 : Int)) || (q24.2.1 != (0 : Int))) with hb34 | hb34
   ·
    refine st_skip hf (wantN hf rfl rfl hb34) rfl (by decide) ?_ rfl
    clear hf; intro a hf
    refine st_skip hf (wantN hf rfl rfl hb34) rfl (by decide) ?_ rfl
    clear hf; intro a hf
    refine st_skip hf (wantN hf rfl rfl hb34) rfl (by decide) ?_ rfl
    clear hf; intro a hf
    refine st_pick (v := .bool true) hf rfl rfl (fun hb' => ?_) (fun hb' => ?_) (by decide) ?_
    · rfl
    · exact absurd (hb34.symm.trans hb') (by decide)
    clear hf; intro a ha hf; clear ha
    refine st_nil hf (th_n ?_)
    exact ⟨hf.sub ⟨rfl, rfl, rfl, (by rw [hb34]; rfl), trivial⟩, hp⟩
   refine st_move hf (wantY hf rfl rfl hb34) rfl (by decide) ?_
   clear hf; intro a ha hf; clear ha
   refine st_len (E := (Ek.pair (Ek.int .u8) (Ek.pair (Ek.int .u8) (Ek.pair Ek.bool Ek.str)))) hf (by decide) Try.underlying54 (wantY hf rfl rfl hb34) rfl (hp.sl (i := 0) rfl) ?_
   clear hf; intro a ha hf; clear ha
   refine st_ineq hf (by decide) (wantY hf rfl rfl hb34) rfl rfl ?_
   clear hf; intro a ha hf; clear ha
   refine st_pick (v := .bool ((q24.1.length : Int) != (1 : Int))) hf rfl rfl (fun hb' => ?_) (fun hb' => ?_) (by decide) ?_
   · exact absurd (hb34.symm.trans hb') (by decide)
   · rfl
   clear hf; intro a ha hf; clear ha
   refine st_nil hf (th_n ?_)
   exact ⟨hf.sub ⟨rfl, rfl, rfl, (by rw [hb34]; rfl), trivial⟩, hp⟩
  rintro a w ⟨hf, hp⟩
  refine st_move hf rfl rfl (by decide) ?_
  clear hf; intro a ha hf; clear ha
  obtain ⟨z37, hz35, h⟩ := bnd h
  refine wpList_cut 6 (fun a w => Fr 113 a [(1, v3), (3, v7), (6, v27), (57, .bool z37)] ∧ Hp S w0 w (Res.sl (Ek.pair (Ek.int .u8) (Ek.pair (Ek.int .u8) (Ek.pair Ek.bool Ek.str))) 31 v27 q24.1 :: Res.sl (Ek.pair Ek.str (Ek.pair Ek.bool (Ek.pair (Ek.int .i64) Ek.bool))) 81 v28 q24.2.2.2.2.2.2 :: Res.obj 79 v3 [.int .i64 q24.2.2.1, .int .i64 q24.2.2.2.1, .int .i64 q24.2.2.2.2.1, .int .i64 q24.2.2.2.2.2.1, v28] :: Res.opt pk74 v7 q5.1 :: ow)) ?_ ?_
  ·
   rcases Bool.eq_false_or_eq_true (((q19.1 != (0 : Int)) || (q24.2.1 != (0 : Int))) || ((q24.1.length : Int) != (1 : Int))) with hb36 | hb36
   ·
    replace hz35 := ifT hz35 hb36
    refine st_skip hf (wantN hf rfl rfl hb36) rfl (by decide) ?_ rfl
    clear hf; intro a hf
    refine st_skip hf (wantN hf rfl rfl hb36) rfl (by decide) ?_ rfl
    clear hf; intro a hf
    refine st_skip hf (wantN hf rfl rfl hb36) rfl (by decide) ?_ rfl
    clear hf; intro a hf
    refine st_skip hf (wantN hf rfl rfl hb36) rfl (by decide) ?_ rfl
    clear hf; intro a hf
    refine st_skip hf (wantN hf rfl rfl hb36) rfl (by decide) ?_ rfl
    clear hf; intro a hf
    obtain rfl := Option.some.inj hz35
    refine st_pick (v := .bool true) hf rfl rfl (fun hb' => ?_) (fun hb' => ?_) (by decide) ?_
    · rfl
    · exact absurd (hb36.symm.trans hb') (by decide)
    clear hf; intro a ha hf; clear ha
    refine st_nil hf (th_n ?_)
    exact ⟨hf.sub ⟨rfl, rfl, rfl, rfl, trivial⟩, hp⟩
   replace hz35 := ifF hz35 hb36
   refine st_move hf (wantY hf rfl rfl hb36) rfl (by decide) ?_
   clear hf; intro a ha hf; clear ha
   obtain ⟨hc38, hz35⟩ := chk hz35
   refine st_index (E := (Ek.pair (Ek.int .u8) (Ek.pair (Ek.int .u8) (Ek.pair Ek.bool Ek.str)))) hf (by decide) Try.underlying54 elt31 (wantY hf rfl rfl hb36) rfl rfl (hp.sl (i := 0) rfl) hc38.1 hc38.2 ?_
   clear hf; intro a ha hf; clear ha
   refine st_faP (off := 3) (sz := 1) hf (by decide) (by kernel_rfl) (by decide) (wantY hf rfl rfl hb36) rfl (Sl.isP (hp.sl (i := 0) rfl) hc38.1 hc38.2) ?_
   clear hf; intro a ha hf; clear ha
   refine st_ldQ (F := Ek.str) (yv := (gt q24.1 (0 : Int)).2.2.2) hf (by decide) pl9 (fun x => .string x) (fun _ _ h => h) (wantY hf rfl rfl hb36) rfl (Sl.part (E := (Ek.pair (Ek.int .u8) (Ek.pair (Ek.int .u8) (Ek.pair Ek.bool Ek.str)))) (F := Ek.str) (o := 3) (Sub.comp (Sub.snd (E := (Ek.int .u8)) (F := (Ek.pair (Ek.int .u8) (Ek.pair Ek.bool Ek.str)))) (Sub.comp (Sub.snd (E := (Ek.int .u8)) (F := (Ek.pair Ek.bool Ek.str))) (Sub.snd (E := Ek.bool) (F := Ek.str)))) (hp.sl (i := 0) rfl) hc38.1 hc38.2) ?_
   clear hf; intro a ha hf; clear ha
   refine st_sneq hf (by decide) (wantY hf rfl rfl hb36) rfl rfl ?_
   clear hf; intro a ha hf; clear ha
   obtain rfl := Option.some.inj hz35
   refine st_pick (v := .bool (!seq ((gt q24.1 (0 : Int)).2.2.2) (ByteArray.mk #[97]))) hf rfl rfl (fun hb' => ?_) (fun hb' => ?_) (by decide) ?_
   · exact absurd (hb36.symm.trans hb') (by decide)
   · rfl
   clear hf; intro a ha hf; clear ha
   refine st_nil hf (th_n ?_)
   exact ⟨hf.sub ⟨rfl, rfl, rfl, rfl, trivial⟩, hp⟩
  rintro a w ⟨hf, hp⟩
  refine st_move hf rfl rfl (by decide) ?_
  clear hf; intro a ha hf; clear ha
  obtain ⟨z41, hz39, h⟩ := bnd h
  refine wpList_cut 6 (fun a w => Fr 113 a [(1, v3), (3, v7), (6, v27), (64, .bool z41)] ∧ Hp S w0 w (Res.sl (Ek.pair (Ek.int .u8) (Ek.pair (Ek.int .u8) (Ek.pair Ek.bool Ek.str))) 31 v27 q24.1 :: Res.sl (Ek.pair Ek.str (Ek.pair Ek.bool (Ek.pair (Ek.int .i64) Ek.bool))) 81 v28 q24.2.2.2.2.2.2 :: Res.obj 79 v3 [.int .i64 q24.2.2.1, .int .i64 q24.2.2.2.1, .int .i64 q24.2.2.2.2.1, .int .i64 q24.2.2.2.2.2.1, v28] :: Res.opt pk74 v7 q5.1 :: ow)) ?_ ?_
  ·
   rcases Bool.eq_false_or_eq_true z37 with hb40 | hb40
   ·
    replace hz39 := ifT hz39 hb40
    refine st_skip hf (wantN hf rfl rfl hb40) rfl (by decide) ?_ rfl
    clear hf; intro a hf
    refine st_skip hf (wantN hf rfl rfl hb40) rfl (by decide) ?_ rfl
    clear hf; intro a hf
    refine st_skip hf (wantN hf rfl rfl hb40) rfl (by decide) ?_ rfl
    clear hf; intro a hf
    refine st_skip hf (wantN hf rfl rfl hb40) rfl (by decide) ?_ rfl
    clear hf; intro a hf
    refine st_skip hf (wantN hf rfl rfl hb40) rfl (by decide) ?_ rfl
    clear hf; intro a hf
    obtain rfl := Option.some.inj hz39
    refine st_pick (v := .bool true) hf rfl rfl (fun hb' => ?_) (fun hb' => ?_) (by decide) ?_
    · rfl
    · exact absurd (hb40.symm.trans hb') (by decide)
    clear hf; intro a ha hf; clear ha
    refine st_nil hf (th_n ?_)
    exact ⟨hf.sub ⟨rfl, rfl, rfl, rfl, trivial⟩, hp⟩
   replace hz39 := ifF hz39 hb40
   refine st_move hf (wantY hf rfl rfl hb40) rfl (by decide) ?_
   clear hf; intro a ha hf; clear ha
   obtain ⟨hc42, hz39⟩ := chk hz39
   refine st_index (E := (Ek.pair (Ek.int .u8) (Ek.pair (Ek.int .u8) (Ek.pair Ek.bool Ek.str)))) hf (by decide) Try.underlying54 elt31 (wantY hf rfl rfl hb40) rfl rfl (hp.sl (i := 0) rfl) hc42.1 hc42.2 ?_
   clear hf; intro a ha hf; clear ha
   refine st_faP (off := 0) (sz := 1) hf (by decide) (by kernel_rfl) (by decide) (wantY hf rfl rfl hb40) rfl (Sl.isP (hp.sl (i := 0) rfl) hc42.1 hc42.2) ?_
   clear hf; intro a ha hf; clear ha
   refine st_ldQ (F := (Ek.int .u8)) (yv := (gt q24.1 (0 : Int)).1) hf (by decide) pl5 (fun x => .int .u8 x) (fun _ _ h => h) (wantY hf rfl rfl hb40) rfl (Sl.part (E := (Ek.pair (Ek.int .u8) (Ek.pair (Ek.int .u8) (Ek.pair Ek.bool Ek.str)))) (F := (Ek.int .u8)) (o := 0) (Sub.fst (E := (Ek.int .u8)) (F := (Ek.pair (Ek.int .u8) (Ek.pair Ek.bool Ek.str)))) (hp.sl (i := 0) rfl) hc42.1 hc42.2) ?_
   clear hf; intro a ha hf; clear ha
   refine st_ineq hf (by decide) (wantY hf rfl rfl hb40) rfl rfl ?_
   clear hf; intro a ha hf; clear ha
   obtain rfl := Option.some.inj hz39
   refine st_pick (v := .bool ((gt q24.1 (0 : Int)).1 != (1 : Int))) hf rfl rfl (fun hb' => ?_) (fun hb' => ?_) (by decide) ?_
   · exact absurd (hb40.symm.trans hb') (by decide)
   · rfl
   clear hf; intro a ha hf; clear ha
   refine st_nil hf (th_n ?_)
   exact ⟨hf.sub ⟨rfl, rfl, rfl, rfl, trivial⟩, hp⟩
  rintro a w ⟨hf, hp⟩
  refine st_nil hf ?_
  refine th_n ?_
  refine wp_if hf rfl (fun hb => ?_) (fun hb => ?_)
  ·
   replace h := ifT h hb
   refine wp_seq ?_
   refine wp_reg ?_
   refine st_assign hf rfl rfl (by decide) ?_
   clear hf; intro a ha hf; clear ha
   refine st_nil hf ?_
   refine th_n ?_
   refine wp_ret ?_
   refine th_r ?_
   obtain rfl := Option.some.inj h
   have hp : Hp _ _ _ (ow) := Hp.sel (pre := [Res.sl (Ek.pair (Ek.int .u8) (Ek.pair (Ek.int .u8) (Ek.pair Ek.bool Ek.str))) 31 v27 q24.1, Res.sl (Ek.pair Ek.str (Ek.pair Ek.bool (Ek.pair (Ek.int .i64) Ek.bool))) 81 v28 q24.2.2.2.2.2.2, Res.obj 79 v3 [.int .i64 q24.2.2.1, .int .i64 q24.2.2.2.1, .int .i64 q24.2.2.2.2.1, .int .i64 q24.2.2.2.2.2.1, v28], Res.opt pk74 v7 q5.1]) (tail := ow) (rs' := []) hp [] (by decide) (by simp) rfl
   exact ⟨rfl, ⟨hf.sub ⟨rfl, trivial⟩, hp⟩⟩
  replace h := ifF h hb
  refine wp_skip ?_
  refine th_n ?_
  refine wp_seq ?_
  refine wp_reg ?_
  refine st_move hf rfl rfl (by decide) ?_
  clear hf; intro a ha hf; clear ha
  refine st_move hf rfl rfl (by decide) ?_
  clear hf; intro a ha hf; clear ha
  obtain ⟨hc43, h⟩ := chk h
  refine st_index (E := (Ek.pair (Ek.int .u8) (Ek.pair (Ek.int .u8) (Ek.pair Ek.bool Ek.str)))) hf (by decide) Try.underlying54 elt31 rfl rfl rfl (hp.sl (i := 0) rfl) hc43.1 hc43.2 ?_
  clear hf; intro a ha hf; clear ha
  refine st_ldQX (F := (Ek.pair (Ek.int .u8) (Ek.pair (Ek.int .u8) (Ek.pair Ek.bool Ek.str)))) (yv := (gt q24.1 (0 : Int))) (m := 4) (us := [.int .u8 ((gt q24.1 (0 : Int)).1), .int .u8 ((gt q24.1 (0 : Int)).2.1), .bool ((gt q24.1 (0 : Int)).2.2.1), .string ((gt q24.1 (0 : Int)).2.2.2)]) hf (by decide) (by kernel_rfl) rfl (fun cs9 h9 => by obtain ⟨_, _, rfl, rfl, ⟨_, _, rfl, rfl, ⟨_, _, rfl, rfl, rfl⟩⟩⟩ := h9; rfl) rfl rfl (Part.whole (hp.sl (i := 0) rfl) hc43.1 hc43.2) ?_
  clear hf; intro a ha hf; clear ha
  obtain ⟨s44, hs45, h⟩ := bnd h
  have hp : Hp _ _ _ (_ :: _ :: _ :: _ :: ow) := Hp.sel (pre := [Res.sl (Ek.pair (Ek.int .u8) (Ek.pair (Ek.int .u8) (Ek.pair Ek.bool Ek.str))) 31 v27 q24.1, Res.sl (Ek.pair Ek.str (Ek.pair Ek.bool (Ek.pair (Ek.int .i64) Ek.bool))) 81 v28 q24.2.2.2.2.2.2, Res.obj 79 v3 [.int .i64 q24.2.2.1, .int .i64 q24.2.2.2.1, .int .i64 q24.2.2.2.2.1, .int .i64 q24.2.2.2.2.2.1, v28], Res.opt pk74 v7 q5.1]) (tail := ow) (rs' := [Res.opt pk74 v7 q5.1, Res.sl (Ek.pair (Ek.int .u8) (Ek.pair (Ek.int .u8) (Ek.pair Ek.bool Ek.str))) 31 v27 q24.1, Res.sl (Ek.pair Ek.str (Ek.pair Ek.bool (Ek.pair (Ek.int .i64) Ek.bool))) 81 v28 q24.2.2.2.2.2.2, Res.obj 79 v3 [.int .i64 q24.2.2.1, .int .i64 q24.2.2.2.1, .int .i64 q24.2.2.2.2.1, .int .i64 q24.2.2.2.2.2.1, v28]]) hp [3, 0, 1, 2] (by decide) (by simp) rfl
  replace hp : Hp _ _ _ (pk74.R v7 s44 :: _ :: _ :: _ :: ow) := hp.optSome hs45
  obtain ⟨v46, hp⟩ := pk74_in hp
  replace hp : Hp _ _ _ (Res.obj 74 v7 [.int .i64 s44.1, .int .i64 s44.2.1, v46] :: Res.map (fun x : ByteArray => Value.string x) v46 s44.2.2 :: _ :: _ :: _ :: ow) := hp
  obtain ⟨q48, hcall49, h⟩ := bnd h
  have hp50 : Hp _ _ _ (Res.map (fun x : ByteArray => Value.string x) v46 s44.2.2 :: Res.obj 74 v7 [.int .i64 s44.1, .int .i64 s44.2.1, v46] :: Res.sl (Ek.pair (Ek.int .u8) (Ek.pair (Ek.int .u8) (Ek.pair Ek.bool Ek.str))) 31 v27 q24.1 :: Res.sl (Ek.pair Ek.str (Ek.pair Ek.bool (Ek.pair (Ek.int .i64) Ek.bool))) 81 v28 q24.2.2.2.2.2.2 :: Res.obj 79 v3 [.int .i64 q24.2.2.1, .int .i64 q24.2.2.2.1, .int .i64 q24.2.2.2.2.1, .int .i64 q24.2.2.2.2.2.1, v28] :: ow) := Hp.sel (pre := [Res.obj 74 v7 [.int .i64 s44.1, .int .i64 s44.2.1, v46], Res.map (fun x : ByteArray => Value.string x) v46 s44.2.2, Res.sl (Ek.pair (Ek.int .u8) (Ek.pair (Ek.int .u8) (Ek.pair Ek.bool Ek.str))) 31 v27 q24.1, Res.sl (Ek.pair Ek.str (Ek.pair Ek.bool (Ek.pair (Ek.int .i64) Ek.bool))) 81 v28 q24.2.2.2.2.2.2, Res.obj 79 v3 [.int .i64 q24.2.2.1, .int .i64 q24.2.2.2.1, .int .i64 q24.2.2.2.2.1, .int .i64 q24.2.2.2.2.2.1, v28]]) (tail := ow) (rs' := [Res.map (fun x : ByteArray => Value.string x) v46 s44.2.2, Res.obj 74 v7 [.int .i64 s44.1, .int .i64 s44.2.1, v46], Res.sl (Ek.pair (Ek.int .u8) (Ek.pair (Ek.int .u8) (Ek.pair Ek.bool Ek.str))) 31 v27 q24.1, Res.sl (Ek.pair Ek.str (Ek.pair Ek.bool (Ek.pair (Ek.int .i64) Ek.bool))) 81 v28 q24.2.2.2.2.2.2, Res.obj 79 v3 [.int .i64 q24.2.2.1, .int .i64 q24.2.2.2.1, .int .i64 q24.2.2.2.2.1, .int .i64 q24.2.2.2.2.2.1, v28]]) hp [1, 0, 2, 3, 4] (by decide) (by simp) rfl
  refine st_call hf (by decide) Try.func10 rfl rfl rfl rfl rfl (f_again_Receiver_Take_c _ _ _ _ _ _ _ _ _ hp50 hcall49) ?_
  rintro _ w ⟨v51, v52, rfl, hp0⟩
  clear hp; have hp := hp0; clear hp0
  replace hp : Hp _ _ _ (Res.sl Ek.str 9 v51 q48.1 :: Res.map (fun x : ByteArray => Value.string x) v52 q48.2.2.2.2.2 :: Res.obj 74 v7 [.int .i64 q48.2.2.2.1, .int .i64 q48.2.2.2.2.1, v52] :: _ :: _ :: _ :: ow) := hp
  refine ⟨_, rfl, ?_⟩
  clear hf; intro a hf
  refine st_move hf rfl rfl (by decide) ?_
  clear hf; intro a ha hf; clear ha
  refine st_extract hf (by decide) rfl rfl rfl ?_
  clear hf; intro a ha hf; clear ha
  refine st_extract hf (by decide) rfl rfl rfl ?_
  clear hf; intro a ha hf; clear ha
  refine st_extract hf (by decide) rfl rfl rfl ?_
  clear hf; intro a ha hf; clear ha
  refine st_alloc (cs := [.int .u8 (0 : Int), .int .u8 (0 : Int), .bool false, .string ByteArray.empty]) (zv := .agg #[.int .u8 (0 : Int), .int .u8 (0 : Int), .bool false, .string ByteArray.empty]) hf (by decide) (by kernel_rfl) rfl hp rfl ?_
  clear hf; intro a w v55 hf hp0; clear hp; have hp := hp0; clear hp0
  replace hp : Hp _ _ _ (Res.obj 31 v55 [.int .u8 (0 : Int), .int .u8 (0 : Int), .bool false, .string ByteArray.empty] :: _ :: _ :: _ :: _ :: _ :: _ :: ow) := hp
  refine st_assign hf rfl rfl (by decide) ?_
  clear hf; intro a ha hf; clear ha
  refine st_stO (us := [.int .u8 q48.2.1.1, .int .u8 q48.2.1.2.1, .bool q48.2.1.2.2.1, .string q48.2.1.2.2.2]) hf hp (i := 0) rfl rfl rfl rfl rfl (by rfl) (by kernel_rfl) (Nat.le_of_ble_eq_true rfl) ?_
  clear hf; intro a w hf hp0; clear hp; have hp := hp0; clear hp0
  replace hp : Hp _ _ _ (Res.obj 31 v55 [.int .u8 q48.2.1.1, .int .u8 q48.2.1.2.1, .bool q48.2.1.2.2.1, .string q48.2.1.2.2.2] :: _ :: _ :: _ :: _ :: _ :: _ :: ow) := hp
  refine st_assign hf rfl rfl (by decide) ?_
  clear hf; intro a ha hf; clear ha
  refine st_nil hf ?_
  refine th_n ?_
  refine wp_seq ?_
  refine wp_reg ?_
  refine st_move hf rfl rfl (by decide) ?_
  clear hf; intro a ha hf; clear ha
  refine st_ieql hf (by decide) rfl rfl rfl ?_
  clear hf; intro a ha hf; clear ha
  refine st_move hf rfl rfl (by decide) ?_
  clear hf; intro a ha hf; clear ha
  refine wpList_cut 4 (fun a w => Fr 113 a [(1, v3), (3, v7), (8, v51), (9, optr v55 0), (80, .bool ((q48.2.2.1 == (0 : Int)) && ((q48.1.length : Int) == (1 : Int))))] ∧ Hp S w0 w (Res.obj 31 v55 [.int .u8 q48.2.1.1, .int .u8 q48.2.1.2.1, .bool q48.2.1.2.2.1, .string q48.2.1.2.2.2] :: Res.sl Ek.str 9 v51 q48.1 :: Res.map (fun x : ByteArray => Value.string x) v52 q48.2.2.2.2.2 :: Res.obj 74 v7 [.int .i64 q48.2.2.2.1, .int .i64 q48.2.2.2.2.1, v52] :: Res.sl (Ek.pair (Ek.int .u8) (Ek.pair (Ek.int .u8) (Ek.pair Ek.bool Ek.str))) 31 v27 q24.1 :: Res.sl (Ek.pair Ek.str (Ek.pair Ek.bool (Ek.pair (Ek.int .i64) Ek.bool))) 81 v28 q24.2.2.2.2.2.2 :: Res.obj 79 v3 [.int .i64 q24.2.2.1, .int .i64 q24.2.2.2.1, .int .i64 q24.2.2.2.2.1, .int .i64 q24.2.2.2.2.2.1, v28] :: ow)) ?_ ?_
  ·
   rcases Bool.eq_false_or_eq_true (q48.2.2.1 == (0 : Int)) with hb58 | hb58
   ·
    refine st_move hf (wantY hf rfl rfl hb58) rfl (by decide) ?_
    clear hf; intro a ha hf; clear ha
    refine st_len (E := Ek.str) hf (by decide) Try.underlying35 (wantY hf rfl rfl hb58) rfl (hp.sl (i := 1) rfl) ?_
    clear hf; intro a ha hf; clear ha
    refine st_ieql hf (by decide) (wantY hf rfl rfl hb58) rfl rfl ?_
    clear hf; intro a ha hf; clear ha
    refine st_pick (v := .bool ((q48.1.length : Int) == (1 : Int))) hf rfl rfl (fun hb' => ?_) (fun hb' => ?_) (by decide) ?_
    · rfl
    · exact absurd (hb58.symm.trans hb') (by decide)
    clear hf; intro a ha hf; clear ha
    refine st_nil hf (th_n ?_)
    exact ⟨hf.sub ⟨rfl, rfl, rfl, rfl, (by rw [hb58]; rfl), trivial⟩, hp⟩
   refine st_skip hf (wantN hf rfl rfl hb58) rfl (by decide) ?_ rfl
   clear hf; intro a hf
   refine st_skip hf (wantN hf rfl rfl hb58) rfl (by decide) ?_ rfl
   clear hf; intro a hf
   refine st_skip hf (wantN hf rfl rfl hb58) rfl (by decide) ?_ rfl
   clear hf; intro a hf
   refine st_pick (v := .bool false) hf rfl rfl (fun hb' => ?_) (fun hb' => ?_) (by decide) ?_
   · exact absurd (hb58.symm.trans hb') (by decide)
   · rfl
   clear hf; intro a ha hf; clear ha
   refine st_nil hf (th_n ?_)
   exact ⟨hf.sub ⟨rfl, rfl, rfl, rfl, (by rw [hb58]; rfl), trivial⟩, hp⟩
  rintro a w ⟨hf, hp⟩
  refine st_move hf rfl rfl (by decide) ?_
  clear hf; intro a ha hf; clear ha
  obtain ⟨z61, hz59, h⟩ := bnd h
  refine wpList_cut 5 (fun a w => Fr 113 a [(1, v3), (3, v7), (9, optr v55 0), (86, .bool z61)] ∧ Hp S w0 w (Res.obj 31 v55 [.int .u8 q48.2.1.1, .int .u8 q48.2.1.2.1, .bool q48.2.1.2.2.1, .string q48.2.1.2.2.2] :: Res.sl Ek.str 9 v51 q48.1 :: Res.map (fun x : ByteArray => Value.string x) v52 q48.2.2.2.2.2 :: Res.obj 74 v7 [.int .i64 q48.2.2.2.1, .int .i64 q48.2.2.2.2.1, v52] :: Res.sl (Ek.pair (Ek.int .u8) (Ek.pair (Ek.int .u8) (Ek.pair Ek.bool Ek.str))) 31 v27 q24.1 :: Res.sl (Ek.pair Ek.str (Ek.pair Ek.bool (Ek.pair (Ek.int .i64) Ek.bool))) 81 v28 q24.2.2.2.2.2.2 :: Res.obj 79 v3 [.int .i64 q24.2.2.1, .int .i64 q24.2.2.2.1, .int .i64 q24.2.2.2.2.1, .int .i64 q24.2.2.2.2.2.1, v28] :: ow)) ?_ ?_
  ·
   rcases Bool.eq_false_or_eq_true ((q48.2.2.1 == (0 : Int)) && ((q48.1.length : Int) == (1 : Int))) with hb60 | hb60
   ·
    replace hz59 := ifT hz59 hb60
    refine st_move hf (wantY hf rfl rfl hb60) rfl (by decide) ?_
    clear hf; intro a ha hf; clear ha
    obtain ⟨hc62, hz59⟩ := chk hz59
    refine st_index (E := Ek.str) hf (by decide) Try.underlying35 elt9 (wantY hf rfl rfl hb60) rfl rfl (hp.sl (i := 1) rfl) hc62.1 hc62.2 ?_
    clear hf; intro a ha hf; clear ha
    refine st_ldS hf (by decide) pl9 (wantY hf rfl rfl hb60) rfl (hp.sl (i := 1) rfl) hc62.1 hc62.2 ?_
    clear hf; intro a ha hf; clear ha
    refine st_seql hf (by decide) (wantY hf rfl rfl hb60) rfl rfl ?_
    clear hf; intro a ha hf; clear ha
    obtain rfl := Option.some.inj hz59
    refine st_pick (v := .bool (seq (gt q48.1 (0 : Int)) (ByteArray.mk #[97]))) hf rfl rfl (fun hb' => ?_) (fun hb' => ?_) (by decide) ?_
    · rfl
    · exact absurd (hb60.symm.trans hb') (by decide)
    clear hf; intro a ha hf; clear ha
    refine st_nil hf (th_n ?_)
    exact ⟨hf.sub ⟨rfl, rfl, rfl, rfl, trivial⟩, hp⟩
   replace hz59 := ifF hz59 hb60
   refine st_skip hf (wantN hf rfl rfl hb60) rfl (by decide) ?_ rfl
   clear hf; intro a hf
   refine st_skip hf (wantN hf rfl rfl hb60) rfl (by decide) ?_ rfl
   clear hf; intro a hf
   refine st_skip hf (wantN hf rfl rfl hb60) rfl (by decide) ?_ rfl
   clear hf; intro a hf
   refine st_skip hf (wantN hf rfl rfl hb60) rfl (by decide) ?_ rfl
   clear hf; intro a hf
   obtain rfl := Option.some.inj hz59
   refine st_pick (v := .bool false) hf rfl rfl (fun hb' => ?_) (fun hb' => ?_) (by decide) ?_
   · exact absurd (hb60.symm.trans hb') (by decide)
   · rfl
   clear hf; intro a ha hf; clear ha
   refine st_nil hf (th_n ?_)
   exact ⟨hf.sub ⟨rfl, rfl, rfl, rfl, trivial⟩, hp⟩
  rintro a w ⟨hf, hp⟩
  refine st_move hf rfl rfl (by decide) ?_
  clear hf; intro a ha hf; clear ha
  refine wpList_cut 4 (fun a w => Fr 113 a [(1, v3), (3, v7), (9, optr v55 0), (91, .bool (z61 && (q48.2.1.2.1 == (1 : Int))))] ∧ Hp S w0 w (Res.obj 31 v55 [.int .u8 q48.2.1.1, .int .u8 q48.2.1.2.1, .bool q48.2.1.2.2.1, .string q48.2.1.2.2.2] :: Res.sl Ek.str 9 v51 q48.1 :: Res.map (fun x : ByteArray => Value.string x) v52 q48.2.2.2.2.2 :: Res.obj 74 v7 [.int .i64 q48.2.2.2.1, .int .i64 q48.2.2.2.2.1, v52] :: Res.sl (Ek.pair (Ek.int .u8) (Ek.pair (Ek.int .u8) (Ek.pair Ek.bool Ek.str))) 31 v27 q24.1 :: Res.sl (Ek.pair Ek.str (Ek.pair Ek.bool (Ek.pair (Ek.int .i64) Ek.bool))) 81 v28 q24.2.2.2.2.2.2 :: Res.obj 79 v3 [.int .i64 q24.2.2.1, .int .i64 q24.2.2.2.1, .int .i64 q24.2.2.2.2.1, .int .i64 q24.2.2.2.2.2.1, v28] :: ow)) ?_ ?_
  ·
   rcases Bool.eq_false_or_eq_true z61 with hb64 | hb64
   ·
    refine st_fa (o' := 1) hf (by decide) (off := 1) (sz := 1) (by kernel_rfl) (by decide) (wantY hf rfl rfl hb64) rfl (hp.ob (i := 0) rfl) rfl ?_
    clear hf; intro a ha hf; clear ha
    refine st_ldO (u := .int .u8 q48.2.1.2.1) hf (by decide) pl5 (wantY hf rfl rfl hb64) rfl (hp.ob (i := 0) rfl) rfl ?_
    clear hf; intro a ha hf; clear ha
    refine st_ieql hf (by decide) (wantY hf rfl rfl hb64) rfl rfl ?_
    clear hf; intro a ha hf; clear ha
    refine st_pick (v := .bool (q48.2.1.2.1 == (1 : Int))) hf rfl rfl (fun hb' => ?_) (fun hb' => ?_) (by decide) ?_
    · rfl
    · exact absurd (hb64.symm.trans hb') (by decide)
    clear hf; intro a ha hf; clear ha
    refine st_nil hf (th_n ?_)
    exact ⟨hf.sub ⟨rfl, rfl, rfl, (by rw [hb64]; rfl), trivial⟩, hp⟩
   refine st_skip hf (wantN hf rfl rfl hb64) rfl (by decide) ?_ rfl
   clear hf; intro a hf
   refine st_skip hf (wantN hf rfl rfl hb64) rfl (by decide) ?_ rfl
   clear hf; intro a hf
   refine st_skip hf (wantN hf rfl rfl hb64) rfl (by decide) ?_ rfl
   clear hf; intro a hf
   refine st_pick (v := .bool false) hf rfl rfl (fun hb' => ?_) (fun hb' => ?_) (by decide) ?_
   · exact absurd (hb64.symm.trans hb') (by decide)
   · rfl
   clear hf; intro a ha hf; clear ha
   refine st_nil hf (th_n ?_)
   exact ⟨hf.sub ⟨rfl, rfl, rfl, (by rw [hb64]; rfl), trivial⟩, hp⟩
  rintro a w ⟨hf, hp⟩
  refine st_move hf rfl rfl (by decide) ?_
  clear hf; intro a ha hf; clear ha
  refine wpList_cut 4 (fun a w => Fr 113 a [(1, v3), (3, v7), (9, optr v55 0), (96, .bool ((z61 && (q48.2.1.2.1 == (1 : Int))) && (q48.2.1.1 == (2 : Int))))] ∧ Hp S w0 w (Res.obj 31 v55 [.int .u8 q48.2.1.1, .int .u8 q48.2.1.2.1, .bool q48.2.1.2.2.1, .string q48.2.1.2.2.2] :: Res.sl Ek.str 9 v51 q48.1 :: Res.map (fun x : ByteArray => Value.string x) v52 q48.2.2.2.2.2 :: Res.obj 74 v7 [.int .i64 q48.2.2.2.1, .int .i64 q48.2.2.2.2.1, v52] :: Res.sl (Ek.pair (Ek.int .u8) (Ek.pair (Ek.int .u8) (Ek.pair Ek.bool Ek.str))) 31 v27 q24.1 :: Res.sl (Ek.pair Ek.str (Ek.pair Ek.bool (Ek.pair (Ek.int .i64) Ek.bool))) 81 v28 q24.2.2.2.2.2.2 :: Res.obj 79 v3 [.int .i64 q24.2.2.1, .int .i64 q24.2.2.2.1, .int .i64 q24.2.2.2.2.1, .int .i64 q24.2.2.2.2.2.1, v28] :: ow)) ?_ ?_
  ·
   rcases Bool.eq_false_or_eq_true (z61 && (q48.2.1.2.1 == (1 : Int))) with hb66 | hb66
   ·
    refine st_fa (o' := 0) hf (by decide) (off := 0) (sz := 1) (by kernel_rfl) (by decide) (wantY hf rfl rfl hb66) rfl (hp.ob (i := 0) rfl) rfl ?_
    clear hf; intro a ha hf; clear ha
    refine st_ldO (u := .int .u8 q48.2.1.1) hf (by decide) pl5 (wantY hf rfl rfl hb66) rfl (hp.ob (i := 0) rfl) rfl ?_
    clear hf; intro a ha hf; clear ha
    refine st_ieql hf (by decide) (wantY hf rfl rfl hb66) rfl rfl ?_
    clear hf; intro a ha hf; clear ha
    refine st_pick (v := .bool (q48.2.1.1 == (2 : Int))) hf rfl rfl (fun hb' => ?_) (fun hb' => ?_) (by decide) ?_
    · rfl
    · exact absurd (hb66.symm.trans hb') (by decide)
    clear hf; intro a ha hf; clear ha
    refine st_nil hf (th_n ?_)
    exact ⟨hf.sub ⟨rfl, rfl, rfl, (by rw [hb66]; rfl), trivial⟩, hp⟩
   refine st_skip hf (wantN hf rfl rfl hb66) rfl (by decide) ?_ rfl
   clear hf; intro a hf
   refine st_skip hf (wantN hf rfl rfl hb66) rfl (by decide) ?_ rfl
   clear hf; intro a hf
   refine st_skip hf (wantN hf rfl rfl hb66) rfl (by decide) ?_ rfl
   clear hf; intro a hf
   refine st_pick (v := .bool false) hf rfl rfl (fun hb' => ?_) (fun hb' => ?_) (by decide) ?_
   · exact absurd (hb66.symm.trans hb') (by decide)
   · rfl
   clear hf; intro a ha hf; clear ha
   refine st_nil hf (th_n ?_)
   exact ⟨hf.sub ⟨rfl, rfl, rfl, (by rw [hb66]; rfl), trivial⟩, hp⟩
  rintro a w ⟨hf, hp⟩
  refine st_move hf rfl rfl (by decide) ?_
  clear hf; intro a ha hf; clear ha
  obtain ⟨z72, hz67, h⟩ := bnd h
  refine wpList_cut 5 (fun a w => ∃ (v69 : Value), Fr 113 a [(1, v3), (3, v7), (102, .bool z72.1)] ∧ Hp S w0 w (Res.sl (Ek.pair Ek.str (Ek.pair Ek.bool (Ek.pair (Ek.int .i64) Ek.bool))) 81 v69 z72.2.2.2.2.2 :: Res.obj 79 v3 [.int .i64 z72.2.1, .int .i64 z72.2.2.1, .int .i64 z72.2.2.2.1, .int .i64 z72.2.2.2.2.1, v69] :: Res.obj 74 v7 [.int .i64 q48.2.2.2.1, .int .i64 q48.2.2.2.2.1, v52] :: Res.map (fun x : ByteArray => Value.string x) v52 q48.2.2.2.2.2 :: ow)) ?_ ?_
  ·
   rcases Bool.eq_false_or_eq_true ((z61 && (q48.2.1.2.1 == (1 : Int))) && (q48.2.1.1 == (2 : Int))) with hb68 | hb68
   ·
    replace hz67 := ifT hz67 hb68
    refine st_move hf (wantY hf rfl rfl hb68) rfl (by decide) ?_
    clear hf; intro a ha hf; clear ha
    refine st_ldOA (m := 4) (us := [.int .u8 q48.2.1.1, .int .u8 q48.2.1.2.1, .bool q48.2.1.2.2.1, .string q48.2.1.2.2.2]) hf (by decide) (by kernel_rfl) (wantY hf rfl rfl hb68) rfl (hp.ob (i := 0) rfl) rfl rfl ?_
    clear hf; intro a ha hf; clear ha
    obtain ⟨q73, hcall74, hz67⟩ := bnd hz67
    have hp75 : Hp _ _ _ (Res.sl (Ek.pair Ek.str (Ek.pair Ek.bool (Ek.pair (Ek.int .i64) Ek.bool))) 81 v28 q24.2.2.2.2.2.2 :: Res.obj 79 v3 [.int .i64 q24.2.2.1, .int .i64 q24.2.2.2.1, .int .i64 q24.2.2.2.2.1, .int .i64 q24.2.2.2.2.2.1, v28] :: Res.obj 31 v55 [.int .u8 q48.2.1.1, .int .u8 q48.2.1.2.1, .bool q48.2.1.2.2.1, .string q48.2.1.2.2.2] :: Res.sl Ek.str 9 v51 q48.1 :: Res.map (fun x : ByteArray => Value.string x) v52 q48.2.2.2.2.2 :: Res.obj 74 v7 [.int .i64 q48.2.2.2.1, .int .i64 q48.2.2.2.2.1, v52] :: Res.sl (Ek.pair (Ek.int .u8) (Ek.pair (Ek.int .u8) (Ek.pair Ek.bool Ek.str))) 31 v27 q24.1 :: ow) := Hp.sel (pre := [Res.obj 31 v55 [.int .u8 q48.2.1.1, .int .u8 q48.2.1.2.1, .bool q48.2.1.2.2.1, .string q48.2.1.2.2.2], Res.sl Ek.str 9 v51 q48.1, Res.map (fun x : ByteArray => Value.string x) v52 q48.2.2.2.2.2, Res.obj 74 v7 [.int .i64 q48.2.2.2.1, .int .i64 q48.2.2.2.2.1, v52], Res.sl (Ek.pair (Ek.int .u8) (Ek.pair (Ek.int .u8) (Ek.pair Ek.bool Ek.str))) 31 v27 q24.1, Res.sl (Ek.pair Ek.str (Ek.pair Ek.bool (Ek.pair (Ek.int .i64) Ek.bool))) 81 v28 q24.2.2.2.2.2.2, Res.obj 79 v3 [.int .i64 q24.2.2.1, .int .i64 q24.2.2.2.1, .int .i64 q24.2.2.2.2.1, .int .i64 q24.2.2.2.2.2.1, v28]]) (tail := ow) (rs' := [Res.sl (Ek.pair Ek.str (Ek.pair Ek.bool (Ek.pair (Ek.int .i64) Ek.bool))) 81 v28 q24.2.2.2.2.2.2, Res.obj 79 v3 [.int .i64 q24.2.2.1, .int .i64 q24.2.2.2.1, .int .i64 q24.2.2.2.2.1, .int .i64 q24.2.2.2.2.2.1, v28], Res.obj 31 v55 [.int .u8 q48.2.1.1, .int .u8 q48.2.1.2.1, .bool q48.2.1.2.2.1, .string q48.2.1.2.2.2], Res.sl Ek.str 9 v51 q48.1, Res.map (fun x : ByteArray => Value.string x) v52 q48.2.2.2.2.2, Res.obj 74 v7 [.int .i64 q48.2.2.2.1, .int .i64 q48.2.2.2.2.1, v52], Res.sl (Ek.pair (Ek.int .u8) (Ek.pair (Ek.int .u8) (Ek.pair Ek.bool Ek.str))) 31 v27 q24.1]) hp [5, 6, 0, 1, 2, 3, 4] (by decide) (by simp) rfl
    refine st_call hf (by decide) Try.func23 rfl rfl (wantY hf rfl rfl hb68) rfl rfl (f_again_Sender_Hear_c _ _ _ _ _ _ _ _ _ _ _ hp75 hcall74) ?_
    rintro _ w ⟨v76, rfl, hp0⟩
    clear hp; have hp := hp0; clear hp0
    replace hp : Hp _ _ _ (Res.sl (Ek.pair Ek.str (Ek.pair Ek.bool (Ek.pair (Ek.int .i64) Ek.bool))) 81 v76 q73.2.2.2.2.2 :: Res.obj 79 v3 [.int .i64 q73.2.1, .int .i64 q73.2.2.1, .int .i64 q73.2.2.2.1, .int .i64 q73.2.2.2.2.1, v76] :: _ :: _ :: _ :: _ :: _ :: ow) := hp
    refine ⟨_, rfl, ?_⟩
    clear hf; intro a hf
    refine st_ieql hf (by decide) (wantY hf rfl rfl hb68) rfl rfl ?_
    clear hf; intro a ha hf; clear ha
    obtain rfl := Option.some.inj hz67
    have hp : Hp _ _ _ (_ :: _ :: _ :: _ :: ow) := Hp.sel (pre := [Res.sl (Ek.pair Ek.str (Ek.pair Ek.bool (Ek.pair (Ek.int .i64) Ek.bool))) 81 v76 q73.2.2.2.2.2, Res.obj 79 v3 [.int .i64 q73.2.1, .int .i64 q73.2.2.1, .int .i64 q73.2.2.2.1, .int .i64 q73.2.2.2.2.1, v76], Res.obj 31 v55 [.int .u8 q48.2.1.1, .int .u8 q48.2.1.2.1, .bool q48.2.1.2.2.1, .string q48.2.1.2.2.2], Res.sl Ek.str 9 v51 q48.1, Res.map (fun x : ByteArray => Value.string x) v52 q48.2.2.2.2.2, Res.obj 74 v7 [.int .i64 q48.2.2.2.1, .int .i64 q48.2.2.2.2.1, v52], Res.sl (Ek.pair (Ek.int .u8) (Ek.pair (Ek.int .u8) (Ek.pair Ek.bool Ek.str))) 31 v27 q24.1]) (tail := ow) (rs' := [Res.sl (Ek.pair Ek.str (Ek.pair Ek.bool (Ek.pair (Ek.int .i64) Ek.bool))) 81 v76 q73.2.2.2.2.2, Res.obj 79 v3 [.int .i64 q73.2.1, .int .i64 q73.2.2.1, .int .i64 q73.2.2.2.1, .int .i64 q73.2.2.2.2.1, v76], Res.obj 74 v7 [.int .i64 q48.2.2.2.1, .int .i64 q48.2.2.2.2.1, v52], Res.map (fun x : ByteArray => Value.string x) v52 q48.2.2.2.2.2]) hp [0, 1, 5, 4] (by decide) (by simp) rfl
    refine st_pick (v := .bool (q73.1 == (0 : Int))) hf rfl rfl (fun hb' => ?_) (fun hb' => ?_) (by decide) ?_
    · rfl
    · exact absurd (hb68.symm.trans hb') (by decide)
    clear hf; intro a ha hf; clear ha
    refine st_nil hf (th_n ?_)
    exact ⟨_, hf.sub ⟨rfl, rfl, rfl, trivial⟩, hp⟩
   replace hz67 := ifF hz67 hb68
   refine st_skip hf (wantN hf rfl rfl hb68) rfl (by decide) ?_ rfl
   clear hf; intro a hf
   refine st_skip hf (wantN hf rfl rfl hb68) rfl (by decide) ?_ rfl
   clear hf; intro a hf
   refine st_skip hf (wantN hf rfl rfl hb68) rfl (by decide) ?_ rfl
   clear hf; intro a hf
   refine st_skip hf (wantN hf rfl rfl hb68) rfl (by decide) ?_ rfl
   clear hf; intro a hf
   obtain rfl := Option.some.inj hz67
   have hp : Hp _ _ _ (Res.sl (Ek.pair Ek.str (Ek.pair Ek.bool (Ek.pair (Ek.int .i64) Ek.bool))) 81 v28 q24.2.2.2.2.2.2 :: Res.obj 79 v3 [.int .i64 q24.2.2.1, .int .i64 q24.2.2.2.1, .int .i64 q24.2.2.2.2.1, .int .i64 q24.2.2.2.2.2.1, v28] :: _ :: _ :: ow) := Hp.sel (pre := [Res.obj 31 v55 [.int .u8 q48.2.1.1, .int .u8 q48.2.1.2.1, .bool q48.2.1.2.2.1, .string q48.2.1.2.2.2], Res.sl Ek.str 9 v51 q48.1, Res.map (fun x : ByteArray => Value.string x) v52 q48.2.2.2.2.2, Res.obj 74 v7 [.int .i64 q48.2.2.2.1, .int .i64 q48.2.2.2.2.1, v52], Res.sl (Ek.pair (Ek.int .u8) (Ek.pair (Ek.int .u8) (Ek.pair Ek.bool Ek.str))) 31 v27 q24.1, Res.sl (Ek.pair Ek.str (Ek.pair Ek.bool (Ek.pair (Ek.int .i64) Ek.bool))) 81 v28 q24.2.2.2.2.2.2, Res.obj 79 v3 [.int .i64 q24.2.2.1, .int .i64 q24.2.2.2.1, .int .i64 q24.2.2.2.2.1, .int .i64 q24.2.2.2.2.2.1, v28]]) (tail := ow) (rs' := [Res.sl (Ek.pair Ek.str (Ek.pair Ek.bool (Ek.pair (Ek.int .i64) Ek.bool))) 81 v28 q24.2.2.2.2.2.2, Res.obj 79 v3 [.int .i64 q24.2.2.1, .int .i64 q24.2.2.2.1, .int .i64 q24.2.2.2.2.1, .int .i64 q24.2.2.2.2.2.1, v28], Res.obj 74 v7 [.int .i64 q48.2.2.2.1, .int .i64 q48.2.2.2.2.1, v52], Res.map (fun x : ByteArray => Value.string x) v52 q48.2.2.2.2.2]) hp [5, 6, 3, 2] (by decide) (by simp) rfl
   refine st_pick (v := .bool false) hf rfl rfl (fun hb' => ?_) (fun hb' => ?_) (by decide) ?_
   · exact absurd (hb68.symm.trans hb') (by decide)
   · rfl
   clear hf; intro a ha hf; clear ha
   refine st_nil hf (th_n ?_)
   exact ⟨_, hf.sub ⟨rfl, rfl, rfl, trivial⟩, hp⟩
  rintro a w ⟨v69, hf, hp⟩
  refine st_move hf rfl rfl (by decide) ?_
  clear hf; intro a ha hf; clear ha
  obtain ⟨z80, hz78, h⟩ := bnd h
  refine wpList_cut 4 (fun a w => Fr 113 a [(3, v7), (107, .bool z80)] ∧ Hp S w0 w (Res.sl (Ek.pair Ek.str (Ek.pair Ek.bool (Ek.pair (Ek.int .i64) Ek.bool))) 81 v69 z72.2.2.2.2.2 :: Res.obj 79 v3 [.int .i64 z72.2.1, .int .i64 z72.2.2.1, .int .i64 z72.2.2.2.1, .int .i64 z72.2.2.2.2.1, v69] :: Res.obj 74 v7 [.int .i64 q48.2.2.2.1, .int .i64 q48.2.2.2.2.1, v52] :: Res.map (fun x : ByteArray => Value.string x) v52 q48.2.2.2.2.2 :: ow)) ?_ ?_
  ·
   rcases Bool.eq_false_or_eq_true z72.1 with hb79 | hb79
   ·
    replace hz78 := ifT hz78 hb79
    refine st_move hf (wantY hf rfl rfl hb79) rfl (by decide) ?_
    clear hf; intro a ha hf; clear ha
    obtain ⟨q81, hcall82, hz78⟩ := bnd hz78
    obtain ⟨S83, hp84, rd85, up86, bk87⟩ := Hp.lendS hp (i := 0) rfl
    obtain ⟨S88, hp89, rd90, up91, bk92⟩ := Hp.lendO hp84 (i := 0) rfl
    refine st_call hf (by decide) Try.func25 rfl rfl (wantY hf rfl rfl hb79) rfl rfl (f_again_Sender_Left_c hp89 _ _ _ _ _ _ ((rd85.now hp84).mono up91) _ rd90 hcall82) ?_
    rintro _ w ⟨rfl, hp0⟩
    have hp0 := bk92 _ _ hp0
    have hp0 := bk87 _ _ hp0
    clear hp; have hp := hp0; clear hp0
    replace hp : Hp _ _ _ (Res.sl (Ek.pair Ek.str (Ek.pair Ek.bool (Ek.pair (Ek.int .i64) Ek.bool))) 81 v69 z72.2.2.2.2.2 :: Res.obj 79 v3 [.int .i64 z72.2.1, .int .i64 z72.2.2.1, .int .i64 z72.2.2.2.1, .int .i64 z72.2.2.2.2.1, v69] :: _ :: _ :: ow) := hp
    refine ⟨_, rfl, ?_⟩
    clear hf; intro a hf
    refine st_ieql hf (by decide) (wantY hf rfl rfl hb79) rfl rfl ?_
    clear hf; intro a ha hf; clear ha
    obtain rfl := Option.some.inj hz78
    refine st_pick (v := .bool (q81 == (0 : Int))) hf rfl rfl (fun hb' => ?_) (fun hb' => ?_) (by decide) ?_
    · rfl
    · exact absurd (hb79.symm.trans hb') (by decide)
    clear hf; intro a ha hf; clear ha
    refine st_nil hf (th_n ?_)
    exact ⟨hf.sub ⟨rfl, rfl, trivial⟩, hp⟩
   replace hz78 := ifF hz78 hb79
   refine st_skip hf (wantN hf rfl rfl hb79) rfl (by decide) ?_ rfl
   clear hf; intro a hf
   refine st_skip hf (wantN hf rfl rfl hb79) rfl (by decide) ?_ rfl
   clear hf; intro a hf
   refine st_skip hf (wantN hf rfl rfl hb79) rfl (by decide) ?_ rfl
   clear hf; intro a hf
   obtain rfl := Option.some.inj hz78
   refine st_pick (v := .bool false) hf rfl rfl (fun hb' => ?_) (fun hb' => ?_) (by decide) ?_
   · exact absurd (hb79.symm.trans hb') (by decide)
   · rfl
   clear hf; intro a ha hf; clear ha
   refine st_nil hf (th_n ?_)
   exact ⟨hf.sub ⟨rfl, rfl, trivial⟩, hp⟩
  rintro a w ⟨hf, hp⟩
  refine st_move hf rfl rfl (by decide) ?_
  clear hf; intro a ha hf; clear ha
  obtain ⟨z95, hz93, h⟩ := bnd h
  refine wpList_cut 4 (fun a w => Fr 113 a [(112, .bool z95)] ∧ Hp S w0 w (Res.sl (Ek.pair Ek.str (Ek.pair Ek.bool (Ek.pair (Ek.int .i64) Ek.bool))) 81 v69 z72.2.2.2.2.2 :: Res.obj 79 v3 [.int .i64 z72.2.1, .int .i64 z72.2.2.1, .int .i64 z72.2.2.2.1, .int .i64 z72.2.2.2.2.1, v69] :: Res.obj 74 v7 [.int .i64 q48.2.2.2.1, .int .i64 q48.2.2.2.2.1, v52] :: Res.map (fun x : ByteArray => Value.string x) v52 q48.2.2.2.2.2 :: ow)) ?_ ?_
  ·
   rcases Bool.eq_false_or_eq_true z80 with hb94 | hb94
   ·
    replace hz93 := ifT hz93 hb94
    refine st_move hf (wantY hf rfl rfl hb94) rfl (by decide) ?_
    clear hf; intro a ha hf; clear ha
    obtain ⟨q96, hcall97, hz93⟩ := bnd hz93
    obtain ⟨S98, hp99, rd100, up101, bk102⟩ := Hp.lendO hp (i := 2) rfl
    refine st_call hf (by decide) Try.func14 rfl rfl (wantY hf rfl rfl hb94) rfl rfl (f_again_Receiver_Handed_c hp99 _ _ _ _ rd100 hcall97) ?_
    rintro _ w ⟨rfl, hp0⟩
    have hp0 := bk102 _ _ hp0
    clear hp; have hp := hp0; clear hp0
    replace hp : Hp _ _ _ (_ :: _ :: _ :: _ :: ow) := hp
    refine ⟨_, rfl, ?_⟩
    clear hf; intro a hf
    refine st_ieql hf (by decide) (wantY hf rfl rfl hb94) rfl rfl ?_
    clear hf; intro a ha hf; clear ha
    obtain rfl := Option.some.inj hz93
    refine st_pick (v := .bool (q96 == (1 : Int))) hf rfl rfl (fun hb' => ?_) (fun hb' => ?_) (by decide) ?_
    · rfl
    · exact absurd (hb94.symm.trans hb') (by decide)
    clear hf; intro a ha hf; clear ha
    refine st_nil hf (th_n ?_)
    have hp : Hp _ _ _ (_ :: _ :: _ :: _ :: ow) := Hp.sel (pre := [Res.obj 74 v7 [.int .i64 q48.2.2.2.1, .int .i64 q48.2.2.2.2.1, v52], Res.sl (Ek.pair Ek.str (Ek.pair Ek.bool (Ek.pair (Ek.int .i64) Ek.bool))) 81 v69 z72.2.2.2.2.2, Res.obj 79 v3 [.int .i64 z72.2.1, .int .i64 z72.2.2.1, .int .i64 z72.2.2.2.1, .int .i64 z72.2.2.2.2.1, v69], Res.map (fun x : ByteArray => Value.string x) v52 q48.2.2.2.2.2]) (tail := ow) (rs' := [Res.sl (Ek.pair Ek.str (Ek.pair Ek.bool (Ek.pair (Ek.int .i64) Ek.bool))) 81 v69 z72.2.2.2.2.2, Res.obj 79 v3 [.int .i64 z72.2.1, .int .i64 z72.2.2.1, .int .i64 z72.2.2.2.1, .int .i64 z72.2.2.2.2.1, v69], Res.obj 74 v7 [.int .i64 q48.2.2.2.1, .int .i64 q48.2.2.2.2.1, v52], Res.map (fun x : ByteArray => Value.string x) v52 q48.2.2.2.2.2]) hp [1, 2, 0, 3] (by decide) (by simp) rfl
    exact ⟨hf.sub ⟨rfl, trivial⟩, hp⟩
   replace hz93 := ifF hz93 hb94
   refine st_skip hf (wantN hf rfl rfl hb94) rfl (by decide) ?_ rfl
   clear hf; intro a hf
   refine st_skip hf (wantN hf rfl rfl hb94) rfl (by decide) ?_ rfl
   clear hf; intro a hf
   refine st_skip hf (wantN hf rfl rfl hb94) rfl (by decide) ?_ rfl
   clear hf; intro a hf
   obtain rfl := Option.some.inj hz93
   refine st_pick (v := .bool false) hf rfl rfl (fun hb' => ?_) (fun hb' => ?_) (by decide) ?_
   · exact absurd (hb94.symm.trans hb') (by decide)
   · rfl
   clear hf; intro a ha hf; clear ha
   refine st_nil hf (th_n ?_)
   exact ⟨hf.sub ⟨rfl, trivial⟩, hp⟩
  rintro a w ⟨hf, hp⟩
  refine st_assign hf rfl rfl (by decide) ?_
  clear hf; intro a ha hf; clear ha
  refine st_nil hf ?_
  refine th_n ?_
  refine wp_ret ?_
  obtain rfl := Option.some.inj h
  have hp : Hp _ _ _ (ow) := Hp.sel (pre := [Res.sl (Ek.pair Ek.str (Ek.pair Ek.bool (Ek.pair (Ek.int .i64) Ek.bool))) 81 v69 z72.2.2.2.2.2, Res.obj 79 v3 [.int .i64 z72.2.1, .int .i64 z72.2.2.1, .int .i64 z72.2.2.2.1, .int .i64 z72.2.2.2.2.1, v69], Res.obj 74 v7 [.int .i64 q48.2.2.2.1, .int .i64 q48.2.2.2.2.1, v52], Res.map (fun x : ByteArray => Value.string x) v52 q48.2.2.2.2.2]) (tail := ow) (rs' := []) hp [] (by decide) (by simp) rfl
  exact ⟨rfl, ⟨hf.sub ⟨rfl, trivial⟩, hp⟩⟩

noncomputable def f_foghornlaw28_link_pick (k0_window : Int) (k0_s : (Option (Int × Int × Int × Int × (List (ByteArray × Bool × Int × Bool))))) (k0_r : (Option (Int × Int × (List (Int × ByteArray))))) (k0_there : (List (Int × Int × (Int × Int × Bool × ByteArray)))) (k0_back : (List (Int × Int × (Int × Int × Bool × ByteArray)))) (k0_picks : (List Int)) (k0_at : Int) (k0_lost : (List (Int × Int))) (k0_row : Int) (k0_base : Int) (k0_offered : Int) (k0_got : (List ByteArray)) (k0_excluded : Bool) (k0_times : (List Int)) : Option (Int × (Int × (Option (Int × Int × Int × Int × (List (ByteArray × Bool × Int × Bool)))) × (Option (Int × Int × (List (Int × ByteArray)))) × (List (Int × Int × (Int × Int × Bool × ByteArray))) × (List (Int × Int × (Int × Int × Bool × ByteArray))) × (List Int) × Int × (List (Int × Int)) × Int × Int × Int × (List ByteArray) × Bool × (List Int))) := (if ((k0_picks.length : Int) == (0 : Int)) = true then (some ((0 : Int), (k0_window, k0_s, k0_r, k0_there, k0_back, k0_picks, k0_at, k0_lost, k0_row, k0_base, k0_offered, k0_got, k0_excluded, k0_times))) else ((k0_s).bind fun s9 => ((k0_r).bind fun s13 => (if (k0_picks.length : Int) ≠ 0 then (if 0 ≤ (((IntKind.i64.wrap ((IntKind.i64.wrap (k0_at + (1 : Int))) - (1 : Int)))).tmod (k0_picks.length : Int)) ∧ (((IntKind.i64.wrap ((IntKind.i64.wrap (k0_at + (1 : Int))) - (1 : Int)))).tmod (k0_picks.length : Int)) < (k0_picks.length : Int) then (some ((IntKind.i64.wrap (gt k0_picks (((IntKind.i64.wrap ((IntKind.i64.wrap (k0_at + (1 : Int))) - (1 : Int)))).tmod (k0_picks.length : Int)))), (k0_window, (some (s9.1, s9.2.1, s9.2.2.1, s9.2.2.2.1, s9.2.2.2.2)), (some (s13.1, s13.2.1, s13.2.2)), k0_there, k0_back, k0_picks, (IntKind.i64.wrap (k0_at + (1 : Int))), k0_lost, k0_row, k0_base, k0_offered, k0_got, k0_excluded, k0_times))) else none) else none))))
theorem f_foghornlaw28_link_pick_c {S : Nat → Prop} {w0 w : World} {ow : List Res} (k0_window : Int) (vk0_s : Value) (k0_s : (Option (Int × Int × Int × Int × (List (ByteArray × Bool × Int × Bool))))) (vk0_r : Value) (k0_r : (Option (Int × Int × (List (Int × ByteArray))))) (vk0_there : Value) (k0_there : (List (Int × Int × (Int × Int × Bool × ByteArray)))) (vk0_back : Value) (k0_back : (List (Int × Int × (Int × Int × Bool × ByteArray)))) (vk0_picks : Value) (k0_picks : (List Int)) (hk0_picks : RdS (Ek.int .u8) S w0 vk0_picks k0_picks) (k0_at : Int) (vk0_lost : Value) (k0_lost : (List (Int × Int))) (k0_row : Int) (k0_base : Int) (k0_offered : Int) (vk0_got : Value) (k0_got : (List ByteArray)) (k0_excluded : Bool) (vk0_times : Value) (k0_times : (List Int)) (ok0 : Value) (hp : Hp S w0 w (Res.opt pk79 vk0_s k0_s :: Res.opt pk74 vk0_r k0_r :: Res.sl (Ek.pair (Ek.int .i64) (Ek.pair (Ek.int .i64) (Ek.pair (Ek.int .u8) (Ek.pair (Ek.int .u8) (Ek.pair Ek.bool Ek.str))))) 88 vk0_there k0_there :: Res.sl (Ek.pair (Ek.int .i64) (Ek.pair (Ek.int .i64) (Ek.pair (Ek.int .u8) (Ek.pair (Ek.int .u8) (Ek.pair Ek.bool Ek.str))))) 88 vk0_back k0_back :: Res.map (fun x : Int => Value.int .i64 x) vk0_lost k0_lost :: Res.sl Ek.str 9 vk0_got k0_got :: Res.sl (Ek.int .i64) 3 vk0_times k0_times :: Res.obj 68 ok0 [.int .i64 k0_window, vk0_s, vk0_r, vk0_there, vk0_back, vk0_picks, .int .i64 k0_at, vk0_lost, .int .i64 k0_row, .int .i64 k0_base, .int .i64 k0_offered, vk0_got, .bool k0_excluded, vk0_times] :: ow)) {r : (Int × (Int × (Option (Int × Int × Int × Int × (List (ByteArray × Bool × Int × Bool)))) × (Option (Int × Int × (List (Int × ByteArray)))) × (List (Int × Int × (Int × Int × Bool × ByteArray))) × (List (Int × Int × (Int × Int × Bool × ByteArray))) × (List Int) × Int × (List (Int × Int)) × Int × Int × Int × (List ByteArray) × Bool × (List Int)))} (h : f_foghornlaw28_link_pick k0_window k0_s k0_r k0_there k0_back k0_picks k0_at k0_lost k0_row k0_base k0_offered k0_got k0_excluded k0_times = some r) :
   Calls Try.prog 32 #[ok0] w (fun e w' => ∃ (u0 : Value) (u1 : Value) (u2 : Value) (u3 : Value) (u4 : Value), e = .returned (.int .i64 r.1) ∧ Hp S w0 w' (Res.opt pk79 vk0_s r.2.2.1 :: Res.opt pk74 vk0_r r.2.2.2.1 :: Res.sl (Ek.pair (Ek.int .i64) (Ek.pair (Ek.int .i64) (Ek.pair (Ek.int .u8) (Ek.pair (Ek.int .u8) (Ek.pair Ek.bool Ek.str))))) 88 u0 r.2.2.2.2.1 :: Res.sl (Ek.pair (Ek.int .i64) (Ek.pair (Ek.int .i64) (Ek.pair (Ek.int .u8) (Ek.pair (Ek.int .u8) (Ek.pair Ek.bool Ek.str))))) 88 u1 r.2.2.2.2.2.1 :: Res.map (fun x : Int => Value.int .i64 x) u2 r.2.2.2.2.2.2.2.2.1 :: Res.sl Ek.str 9 u3 r.2.2.2.2.2.2.2.2.2.2.2.2.1 :: Res.sl (Ek.int .i64) 3 u4 r.2.2.2.2.2.2.2.2.2.2.2.2.2.2 :: Res.obj 68 ok0 [.int .i64 r.2.1, vk0_s, vk0_r, u0, u1, vk0_picks, .int .i64 r.2.2.2.2.2.2.2.1, u2, .int .i64 r.2.2.2.2.2.2.2.2.2.1, .int .i64 r.2.2.2.2.2.2.2.2.2.2.1, .int .i64 r.2.2.2.2.2.2.2.2.2.2.2.1, u3, .bool r.2.2.2.2.2.2.2.2.2.2.2.2.2.1, u4] :: ow)) := by
  unfold f_foghornlaw28_link_pick at h
  refine enter (n := 34) (args := [ok0]) Try.func32 rfl rfl (Nat.le_of_ble_eq_true rfl) fun a hf => ?_
  replace hf : Fr 34 a [(0, ok0)] := hf
  refine wp_mono (Q := fun e a w => e = .ret ∧ ∃ (u0 : Value) (u1 : Value) (u2 : Value) (u3 : Value) (u4 : Value), Fr 34 a [(2, .int .i64 r.1)] ∧ Hp S w0 w (Res.opt pk79 vk0_s r.2.2.1 :: Res.opt pk74 vk0_r r.2.2.2.1 :: Res.sl (Ek.pair (Ek.int .i64) (Ek.pair (Ek.int .i64) (Ek.pair (Ek.int .u8) (Ek.pair (Ek.int .u8) (Ek.pair Ek.bool Ek.str))))) 88 u0 r.2.2.2.2.1 :: Res.sl (Ek.pair (Ek.int .i64) (Ek.pair (Ek.int .i64) (Ek.pair (Ek.int .u8) (Ek.pair (Ek.int .u8) (Ek.pair Ek.bool Ek.str))))) 88 u1 r.2.2.2.2.2.1 :: Res.map (fun x : Int => Value.int .i64 x) u2 r.2.2.2.2.2.2.2.2.1 :: Res.sl Ek.str 9 u3 r.2.2.2.2.2.2.2.2.2.2.2.2.1 :: Res.sl (Ek.int .i64) 3 u4 r.2.2.2.2.2.2.2.2.2.2.2.2.2.2 :: Res.obj 68 ok0 [.int .i64 r.2.1, vk0_s, vk0_r, u0, u1, vk0_picks, .int .i64 r.2.2.2.2.2.2.2.1, u2, .int .i64 r.2.2.2.2.2.2.2.2.2.1, .int .i64 r.2.2.2.2.2.2.2.2.2.2.1, .int .i64 r.2.2.2.2.2.2.2.2.2.2.2.1, u3, .bool r.2.2.2.2.2.2.2.2.2.2.2.2.2.1, u4] :: ow)) ?_ ?_
  rotate_left
  ·
   rintro e a w ⟨rfl, x0, x1, x2, x3, x4, hf, hp⟩
   exact ret1 hf rfl rfl ⟨x0, x1, x2, x3, x4, rfl, hp⟩
  refine wp_seq ?_
  refine wp_reg ?_
  refine st_assign hf rfl rfl (by decide) ?_
  clear hf; intro a ha hf; clear ha
  refine st_nil hf ?_
  refine th_n ?_
  refine wp_seq ?_
  refine wp_seq ?_
  refine wp_reg ?_
  refine st_move hf rfl rfl (by decide) ?_
  clear hf; intro a ha hf; clear ha
  refine st_nilV hf (by decide) rfl rfl (hp.ob (i := 7) rfl) ?_
  clear hf; intro a ha hf; clear ha
  refine st_fa (o' := 5) hf (by decide) (off := 5) (sz := 1) (by kernel_rfl) (by decide) rfl rfl (hp.ob (i := 7) rfl) rfl ?_
  clear hf; intro a ha hf; clear ha
  refine st_ldO (u := vk0_picks) hf (by decide) pl61 rfl rfl (hp.ob (i := 7) rfl) rfl ?_
  clear hf; intro a ha hf; clear ha
  refine st_len (E := (Ek.int .u8)) hf (by decide) Try.underlying61 rfl rfl (hk0_picks.sl hp) ?_
  clear hf; intro a ha hf; clear ha
  refine st_ieql hf (by decide) rfl rfl rfl ?_
  clear hf; intro a ha hf; clear ha
  refine st_nil hf ?_
  refine th_n ?_
  refine wp_if hf rfl (fun hb => ?_) (fun hb => ?_)
  ·
   replace h := ifT h hb
   refine wp_seq ?_
   refine wp_reg ?_
   refine st_assign hf rfl rfl (by decide) ?_
   clear hf; intro a ha hf; clear ha
   refine st_nil hf ?_
   refine th_n ?_
   refine wp_ret ?_
   refine th_r ?_
   obtain rfl := Option.some.inj h
   exact ⟨rfl, ⟨_, _, _, _, _, hf.sub ⟨rfl, trivial⟩, hp⟩⟩
  replace h := ifF h hb
  refine wp_skip ?_
  refine th_n ?_
  refine wp_seq ?_
  refine wp_reg ?_
  refine st_move hf rfl rfl (by decide) ?_
  clear hf; intro a ha hf; clear ha
  refine st_nilV hf (by decide) rfl rfl (hp.ob (i := 7) rfl) ?_
  clear hf; intro a ha hf; clear ha
  refine st_fa (o' := 6) hf (by decide) (off := 6) (sz := 1) (by kernel_rfl) (by decide) rfl rfl (hp.ob (i := 7) rfl) rfl ?_
  clear hf; intro a ha hf; clear ha
  refine st_ldO (u := .int .i64 k0_at) hf (by decide) pl3 rfl rfl (hp.ob (i := 7) rfl) rfl ?_
  clear hf; intro a ha hf; clear ha
  refine st_iadd hf (by decide) rfl rfl rfl ?_
  clear hf; intro a ha hf; clear ha
  refine st_nilV hf (by decide) rfl rfl (hp.ob (i := 7) rfl) ?_
  clear hf; intro a ha hf; clear ha
  refine st_fa (o' := 6) hf (by decide) (off := 6) (sz := 1) (by kernel_rfl) (by decide) rfl rfl (hp.ob (i := 7) rfl) rfl ?_
  clear hf; intro a ha hf; clear ha
  refine st_stO (us := [.int .i64 (IntKind.i64.wrap (k0_at + (1 : Int)))]) hf hp (i := 7) rfl rfl rfl rfl rfl (by rfl) (by kernel_rfl) (Nat.le_of_ble_eq_true rfl) ?_
  clear hf; intro a w hf hp0; clear hp; have hp := hp0; clear hp0
  replace hp : Hp _ _ _ (Res.opt pk79 vk0_s k0_s :: Res.opt pk74 vk0_r k0_r :: Res.sl (Ek.pair (Ek.int .i64) (Ek.pair (Ek.int .i64) (Ek.pair (Ek.int .u8) (Ek.pair (Ek.int .u8) (Ek.pair Ek.bool Ek.str))))) 88 vk0_there k0_there :: Res.sl (Ek.pair (Ek.int .i64) (Ek.pair (Ek.int .i64) (Ek.pair (Ek.int .u8) (Ek.pair (Ek.int .u8) (Ek.pair Ek.bool Ek.str))))) 88 vk0_back k0_back :: Res.map (fun x : Int => Value.int .i64 x) vk0_lost k0_lost :: Res.sl Ek.str 9 vk0_got k0_got :: Res.sl (Ek.int .i64) 3 vk0_times k0_times :: Res.obj 68 ok0 [.int .i64 k0_window, vk0_s, vk0_r, vk0_there, vk0_back, vk0_picks, .int .i64 (IntKind.i64.wrap (k0_at + (1 : Int))), vk0_lost, .int .i64 k0_row, .int .i64 k0_base, .int .i64 k0_offered, vk0_got, .bool k0_excluded, vk0_times] :: ow) := hp
  refine st_nil hf ?_
  refine th_n ?_
  refine wp_seq ?_
  obtain ⟨s9, hs10, h⟩ := bnd h
  replace hp : Hp _ _ _ (pk79.R vk0_s s9 :: _ :: _ :: _ :: _ :: _ :: _ :: _ :: ow) := hp.optSome hs10
  obtain ⟨v11, hp⟩ := pk79_in hp
  replace hp : Hp _ _ _ (Res.obj 79 vk0_s [.int .i64 s9.1, .int .i64 s9.2.1, .int .i64 s9.2.2.1, .int .i64 s9.2.2.2.1, v11] :: Res.sl (Ek.pair Ek.str (Ek.pair Ek.bool (Ek.pair (Ek.int .i64) Ek.bool))) 81 v11 s9.2.2.2.2 :: _ :: _ :: _ :: _ :: _ :: _ :: _ :: ow) := hp
  obtain ⟨s13, hs14, h⟩ := bnd h
  have hp : Hp _ _ _ (_ :: _ :: _ :: _ :: _ :: _ :: _ :: _ :: _ :: ow) := Hp.sel (pre := [Res.obj 79 vk0_s [.int .i64 s9.1, .int .i64 s9.2.1, .int .i64 s9.2.2.1, .int .i64 s9.2.2.2.1, v11], Res.sl (Ek.pair Ek.str (Ek.pair Ek.bool (Ek.pair (Ek.int .i64) Ek.bool))) 81 v11 s9.2.2.2.2, Res.opt pk74 vk0_r k0_r, Res.sl (Ek.pair (Ek.int .i64) (Ek.pair (Ek.int .i64) (Ek.pair (Ek.int .u8) (Ek.pair (Ek.int .u8) (Ek.pair Ek.bool Ek.str))))) 88 vk0_there k0_there, Res.sl (Ek.pair (Ek.int .i64) (Ek.pair (Ek.int .i64) (Ek.pair (Ek.int .u8) (Ek.pair (Ek.int .u8) (Ek.pair Ek.bool Ek.str))))) 88 vk0_back k0_back, Res.map (fun x : Int => Value.int .i64 x) vk0_lost k0_lost, Res.sl Ek.str 9 vk0_got k0_got, Res.sl (Ek.int .i64) 3 vk0_times k0_times, Res.obj 68 ok0 [.int .i64 k0_window, vk0_s, vk0_r, vk0_there, vk0_back, vk0_picks, .int .i64 (IntKind.i64.wrap (k0_at + (1 : Int))), vk0_lost, .int .i64 k0_row, .int .i64 k0_base, .int .i64 k0_offered, vk0_got, .bool k0_excluded, vk0_times]]) (tail := ow) (rs' := [Res.opt pk74 vk0_r k0_r, Res.obj 79 vk0_s [.int .i64 s9.1, .int .i64 s9.2.1, .int .i64 s9.2.2.1, .int .i64 s9.2.2.2.1, v11], Res.sl (Ek.pair Ek.str (Ek.pair Ek.bool (Ek.pair (Ek.int .i64) Ek.bool))) 81 v11 s9.2.2.2.2, Res.sl (Ek.pair (Ek.int .i64) (Ek.pair (Ek.int .i64) (Ek.pair (Ek.int .u8) (Ek.pair (Ek.int .u8) (Ek.pair Ek.bool Ek.str))))) 88 vk0_there k0_there, Res.sl (Ek.pair (Ek.int .i64) (Ek.pair (Ek.int .i64) (Ek.pair (Ek.int .u8) (Ek.pair (Ek.int .u8) (Ek.pair Ek.bool Ek.str))))) 88 vk0_back k0_back, Res.map (fun x : Int => Value.int .i64 x) vk0_lost k0_lost, Res.sl Ek.str 9 vk0_got k0_got, Res.sl (Ek.int .i64) 3 vk0_times k0_times, Res.obj 68 ok0 [.int .i64 k0_window, vk0_s, vk0_r, vk0_there, vk0_back, vk0_picks, .int .i64 (IntKind.i64.wrap (k0_at + (1 : Int))), vk0_lost, .int .i64 k0_row, .int .i64 k0_base, .int .i64 k0_offered, vk0_got, .bool k0_excluded, vk0_times]]) hp [2, 0, 1, 3, 4, 5, 6, 7, 8] (by decide) (by simp) rfl
  replace hp : Hp _ _ _ (pk74.R vk0_r s13 :: _ :: _ :: _ :: _ :: _ :: _ :: _ :: _ :: ow) := hp.optSome hs14
  obtain ⟨v15, hp⟩ := pk74_in hp
  replace hp : Hp _ _ _ (Res.obj 74 vk0_r [.int .i64 s13.1, .int .i64 s13.2.1, v15] :: Res.map (fun x : ByteArray => Value.string x) v15 s13.2.2 :: _ :: _ :: _ :: _ :: _ :: _ :: _ :: _ :: ow) := hp
  obtain ⟨S17, hp18, rd19, up20, bk21⟩ := Hp.lendO hp (i := 9) rfl
  have rl22 := rd19
  have rl23 := ((hk0_picks.now hp).mono up20)
  obtain ⟨hc24, h⟩ := chk h
  obtain ⟨hc25, h⟩ := chk h
  refine wp_cutN (fun a w => Fr 34 a [(0, ok0), (2, .int .i64 (IntKind.i64.wrap (gt k0_picks (((IntKind.i64.wrap ((IntKind.i64.wrap (k0_at + (1 : Int))) - (1 : Int)))).tmod (k0_picks.length : Int)))))] ∧ Hp S w0 w (Res.obj 68 ok0 [.int .i64 k0_window, vk0_s, vk0_r, vk0_there, vk0_back, vk0_picks, .int .i64 (IntKind.i64.wrap (k0_at + (1 : Int))), vk0_lost, .int .i64 k0_row, .int .i64 k0_base, .int .i64 k0_offered, vk0_got, .bool k0_excluded, vk0_times] :: Res.obj 74 vk0_r [.int .i64 s13.1, .int .i64 s13.2.1, v15] :: Res.map (fun x : ByteArray => Value.string x) v15 s13.2.2 :: Res.obj 79 vk0_s [.int .i64 s9.1, .int .i64 s9.2.1, .int .i64 s9.2.2.1, .int .i64 s9.2.2.2.1, v11] :: Res.sl (Ek.pair Ek.str (Ek.pair Ek.bool (Ek.pair (Ek.int .i64) Ek.bool))) 81 v11 s9.2.2.2.2 :: Res.sl (Ek.pair (Ek.int .i64) (Ek.pair (Ek.int .i64) (Ek.pair (Ek.int .u8) (Ek.pair (Ek.int .u8) (Ek.pair Ek.bool Ek.str))))) 88 vk0_there k0_there :: Res.sl (Ek.pair (Ek.int .i64) (Ek.pair (Ek.int .i64) (Ek.pair (Ek.int .u8) (Ek.pair (Ek.int .u8) (Ek.pair Ek.bool Ek.str))))) 88 vk0_back k0_back :: Res.map (fun x : Int => Value.int .i64 x) vk0_lost k0_lost :: Res.sl Ek.str 9 vk0_got k0_got :: Res.sl (Ek.int .i64) 3 vk0_times k0_times :: ow)) ?_ ?_
  ·
   have hp := hp18.same (Same.drew w)
   refine dr_begin' _ (fun w' => ∃ l, Hp S17 w w' l) [] (by kernel_rfl) ?_
   refine dr_takeK 0 (ok0) rfl hf rfl (fun w ⟨_, hp⟩ => ?_) ⟨_, hp⟩ ?_
   · exact st_move hf rfl rfl (by decide) tk
   clear hf; intro a hf
   refine dr_nilV 1 rfl (by kernel_rfl) (by kernel_rfl) (by kernel_rfl) hf (by decide) rfl rfl (rl22.ob hp) ?_
   clear hf; intro a hf
   refine dr_takeK 2 (optr ok0 5) rfl hf rfl (fun w ⟨_, hp⟩ => ?_) ⟨_, hp⟩ ?_
   · exact st_fa (o' := 5) hf (by decide) (off := 5) (sz := 1) (by kernel_rfl) (by decide) rfl rfl (rl22.ob hp) rfl tk
   clear hf; intro a hf
   refine dr_takeK 3 (vk0_picks) rfl hf rfl (fun w ⟨_, hp⟩ => ?_) ⟨_, hp⟩ ?_
   · exact st_ldO (u := vk0_picks) hf (by decide) pl61 rfl rfl (rl22.ob hp) rfl tk
   clear hf; intro a hf
   refine dr_takeK 4 (ok0) rfl hf rfl (fun w ⟨_, hp⟩ => ?_) ⟨_, hp⟩ ?_
   · exact st_move hf rfl rfl (by decide) tk
   clear hf; intro a hf
   refine dr_nilV 5 rfl (by kernel_rfl) (by kernel_rfl) (by kernel_rfl) hf (by decide) rfl rfl (rl22.ob hp) ?_
   clear hf; intro a hf
   refine dr_takeK 6 (optr ok0 6) rfl hf rfl (fun w ⟨_, hp⟩ => ?_) ⟨_, hp⟩ ?_
   · exact st_fa (o' := 6) hf (by decide) (off := 6) (sz := 1) (by kernel_rfl) (by decide) rfl rfl (rl22.ob hp) rfl tk
   clear hf; intro a hf
   refine dr_takeK 7 (.int .i64 (IntKind.i64.wrap (k0_at + (1 : Int)))) rfl hf rfl (fun w ⟨_, hp⟩ => ?_) ⟨_, hp⟩ ?_
   · exact st_ldO (u := .int .i64 (IntKind.i64.wrap (k0_at + (1 : Int)))) hf (by decide) pl3 rfl rfl (rl22.ob hp) rfl tk
   clear hf; intro a hf
   refine dr_takeK 8 (.int .i64 (IntKind.i64.wrap ((IntKind.i64.wrap (k0_at + (1 : Int))) - (1 : Int)))) rfl hf rfl (fun w ⟨_, hp⟩ => ?_) ⟨_, hp⟩ ?_
   · exact st_isub hf (by decide) rfl rfl rfl tk
   clear hf; intro a hf
   refine dr_takeK 9 (ok0) rfl hf rfl (fun w ⟨_, hp⟩ => ?_) ⟨_, hp⟩ ?_
   · exact st_move hf rfl rfl (by decide) tk
   clear hf; intro a hf
   refine dr_nilV 10 rfl (by kernel_rfl) (by kernel_rfl) (by kernel_rfl) hf (by decide) rfl rfl (rl22.ob hp) ?_
   clear hf; intro a hf
   refine dr_takeK 11 (optr ok0 5) rfl hf rfl (fun w ⟨_, hp⟩ => ?_) ⟨_, hp⟩ ?_
   · exact st_fa (o' := 5) hf (by decide) (off := 5) (sz := 1) (by kernel_rfl) (by decide) rfl rfl (rl22.ob hp) rfl tk
   clear hf; intro a hf
   refine dr_takeK 12 (vk0_picks) rfl hf rfl (fun w ⟨_, hp⟩ => ?_) ⟨_, hp⟩ ?_
   · exact st_ldO (u := vk0_picks) hf (by decide) pl61 rfl rfl (rl22.ob hp) rfl tk
   clear hf; intro a hf
   refine dr_takeK 13 (.int .i64 (k0_picks.length : Int)) rfl hf rfl (fun w ⟨_, hp⟩ => ?_) ⟨_, hp⟩ ?_
   · exact st_len (E := (Ek.int .u8)) hf (by decide) Try.underlying61 rfl rfl (rl23.sl hp) tk
   clear hf; intro a hf
   refine dr_takeK 14 (.int .i64 (((IntKind.i64.wrap ((IntKind.i64.wrap (k0_at + (1 : Int))) - (1 : Int)))).tmod (k0_picks.length : Int))) rfl hf rfl (fun w ⟨_, hp⟩ => ?_) ⟨_, hp⟩ ?_
   · exact st_irem hf (by decide) rfl rfl rfl hc24 tk
   clear hf; intro a hf
   refine dr_takeK 15 (eptr vk0_picks (((IntKind.i64.wrap ((IntKind.i64.wrap (k0_at + (1 : Int))) - (1 : Int)))).tmod (k0_picks.length : Int)) 1) rfl hf rfl (fun w ⟨_, hp⟩ => ?_) ⟨_, hp⟩ ?_
   · exact st_index (E := (Ek.int .u8)) hf (by decide) Try.underlying61 elt5 rfl rfl rfl (rl23.sl hp) hc25.1 hc25.2 tk
   clear hf; intro a hf
   refine dr_takeK 16 (.int .u8 (gt k0_picks (((IntKind.i64.wrap ((IntKind.i64.wrap (k0_at + (1 : Int))) - (1 : Int)))).tmod (k0_picks.length : Int)))) rfl hf rfl (fun w ⟨_, hp⟩ => ?_) ⟨_, hp⟩ ?_
   · exact st_ldI hf (by decide) pl5 rfl rfl (rl23.sl hp) hc25.1 hc25.2 tk
   clear hf; intro a hf
   refine dr_takeK 17 (.int .i64 (IntKind.i64.wrap (gt k0_picks (((IntKind.i64.wrap ((IntKind.i64.wrap (k0_at + (1 : Int))) - (1 : Int)))).tmod (k0_picks.length : Int))))) rfl hf rfl (fun w ⟨_, hp⟩ => ?_) ⟨_, hp⟩ ?_
   · exact st_conv_ii hf (by decide) (by rw [Try.underlying5]; rfl) Try.underlying3 rfl rfl tk
   clear hf; intro a hf
   refine dr_takeK 18 (.int .i64 (IntKind.i64.wrap (gt k0_picks (((IntKind.i64.wrap ((IntKind.i64.wrap (k0_at + (1 : Int))) - (1 : Int)))).tmod (k0_picks.length : Int))))) rfl hf rfl (fun w ⟨_, hp⟩ => ?_) ⟨_, hp⟩ ?_
   · exact st_assign hf rfl rfl (by decide) tk
   clear hf; intro a hf
   refine dr_end (by kernel_rfl) ?_ _
   have hp := bk21 _ _ hp
   exact ⟨hf.sub ⟨rfl, rfl, trivial⟩, hp⟩
  rintro a w ⟨hf, hp⟩
  refine th_n ?_
  refine wp_ret ?_
  have hp : Hp _ _ _ (_ :: _ :: _ :: _ :: _ :: _ :: _ :: _ :: _ :: _ :: ow) := Hp.sel (pre := [Res.obj 68 ok0 [.int .i64 k0_window, vk0_s, vk0_r, vk0_there, vk0_back, vk0_picks, .int .i64 (IntKind.i64.wrap (k0_at + (1 : Int))), vk0_lost, .int .i64 k0_row, .int .i64 k0_base, .int .i64 k0_offered, vk0_got, .bool k0_excluded, vk0_times], Res.obj 74 vk0_r [.int .i64 s13.1, .int .i64 s13.2.1, v15], Res.map (fun x : ByteArray => Value.string x) v15 s13.2.2, Res.obj 79 vk0_s [.int .i64 s9.1, .int .i64 s9.2.1, .int .i64 s9.2.2.1, .int .i64 s9.2.2.2.1, v11], Res.sl (Ek.pair Ek.str (Ek.pair Ek.bool (Ek.pair (Ek.int .i64) Ek.bool))) 81 v11 s9.2.2.2.2, Res.sl (Ek.pair (Ek.int .i64) (Ek.pair (Ek.int .i64) (Ek.pair (Ek.int .u8) (Ek.pair (Ek.int .u8) (Ek.pair Ek.bool Ek.str))))) 88 vk0_there k0_there, Res.sl (Ek.pair (Ek.int .i64) (Ek.pair (Ek.int .i64) (Ek.pair (Ek.int .u8) (Ek.pair (Ek.int .u8) (Ek.pair Ek.bool Ek.str))))) 88 vk0_back k0_back, Res.map (fun x : Int => Value.int .i64 x) vk0_lost k0_lost, Res.sl Ek.str 9 vk0_got k0_got, Res.sl (Ek.int .i64) 3 vk0_times k0_times]) (tail := ow) (rs' := [Res.obj 74 vk0_r [.int .i64 s13.1, .int .i64 s13.2.1, v15], Res.map (fun x : ByteArray => Value.string x) v15 s13.2.2, Res.obj 68 ok0 [.int .i64 k0_window, vk0_s, vk0_r, vk0_there, vk0_back, vk0_picks, .int .i64 (IntKind.i64.wrap (k0_at + (1 : Int))), vk0_lost, .int .i64 k0_row, .int .i64 k0_base, .int .i64 k0_offered, vk0_got, .bool k0_excluded, vk0_times], Res.obj 79 vk0_s [.int .i64 s9.1, .int .i64 s9.2.1, .int .i64 s9.2.2.1, .int .i64 s9.2.2.2.1, v11], Res.sl (Ek.pair Ek.str (Ek.pair Ek.bool (Ek.pair (Ek.int .i64) Ek.bool))) 81 v11 s9.2.2.2.2, Res.sl (Ek.pair (Ek.int .i64) (Ek.pair (Ek.int .i64) (Ek.pair (Ek.int .u8) (Ek.pair (Ek.int .u8) (Ek.pair Ek.bool Ek.str))))) 88 vk0_there k0_there, Res.sl (Ek.pair (Ek.int .i64) (Ek.pair (Ek.int .i64) (Ek.pair (Ek.int .u8) (Ek.pair (Ek.int .u8) (Ek.pair Ek.bool Ek.str))))) 88 vk0_back k0_back, Res.map (fun x : Int => Value.int .i64 x) vk0_lost k0_lost, Res.sl Ek.str 9 vk0_got k0_got, Res.sl (Ek.int .i64) 3 vk0_times k0_times]) hp [1, 2, 0, 3, 4, 5, 6, 7, 8, 9] (by decide) (by simp) rfl
  replace hp : Hp _ _ _ (Res.opt pk74 vk0_r (some (s13.1, s13.2.1, s13.2.2)) :: _ :: _ :: _ :: _ :: _ :: _ :: _ :: _ :: ow) := pk74_out (s := (s13.1, s13.2.1, s13.2.2)) (u := v15) hp
  have hp : Hp _ _ _ (_ :: _ :: _ :: _ :: _ :: _ :: _ :: _ :: _ :: ow) := Hp.sel (pre := [Res.opt pk74 vk0_r (some (s13.1, s13.2.1, s13.2.2)), Res.obj 68 ok0 [.int .i64 k0_window, vk0_s, vk0_r, vk0_there, vk0_back, vk0_picks, .int .i64 (IntKind.i64.wrap (k0_at + (1 : Int))), vk0_lost, .int .i64 k0_row, .int .i64 k0_base, .int .i64 k0_offered, vk0_got, .bool k0_excluded, vk0_times], Res.obj 79 vk0_s [.int .i64 s9.1, .int .i64 s9.2.1, .int .i64 s9.2.2.1, .int .i64 s9.2.2.2.1, v11], Res.sl (Ek.pair Ek.str (Ek.pair Ek.bool (Ek.pair (Ek.int .i64) Ek.bool))) 81 v11 s9.2.2.2.2, Res.sl (Ek.pair (Ek.int .i64) (Ek.pair (Ek.int .i64) (Ek.pair (Ek.int .u8) (Ek.pair (Ek.int .u8) (Ek.pair Ek.bool Ek.str))))) 88 vk0_there k0_there, Res.sl (Ek.pair (Ek.int .i64) (Ek.pair (Ek.int .i64) (Ek.pair (Ek.int .u8) (Ek.pair (Ek.int .u8) (Ek.pair Ek.bool Ek.str))))) 88 vk0_back k0_back, Res.map (fun x : Int => Value.int .i64 x) vk0_lost k0_lost, Res.sl Ek.str 9 vk0_got k0_got, Res.sl (Ek.int .i64) 3 vk0_times k0_times]) (tail := ow) (rs' := [Res.obj 79 vk0_s [.int .i64 s9.1, .int .i64 s9.2.1, .int .i64 s9.2.2.1, .int .i64 s9.2.2.2.1, v11], Res.sl (Ek.pair Ek.str (Ek.pair Ek.bool (Ek.pair (Ek.int .i64) Ek.bool))) 81 v11 s9.2.2.2.2, Res.opt pk74 vk0_r (some (s13.1, s13.2.1, s13.2.2)), Res.obj 68 ok0 [.int .i64 k0_window, vk0_s, vk0_r, vk0_there, vk0_back, vk0_picks, .int .i64 (IntKind.i64.wrap (k0_at + (1 : Int))), vk0_lost, .int .i64 k0_row, .int .i64 k0_base, .int .i64 k0_offered, vk0_got, .bool k0_excluded, vk0_times], Res.sl (Ek.pair (Ek.int .i64) (Ek.pair (Ek.int .i64) (Ek.pair (Ek.int .u8) (Ek.pair (Ek.int .u8) (Ek.pair Ek.bool Ek.str))))) 88 vk0_there k0_there, Res.sl (Ek.pair (Ek.int .i64) (Ek.pair (Ek.int .i64) (Ek.pair (Ek.int .u8) (Ek.pair (Ek.int .u8) (Ek.pair Ek.bool Ek.str))))) 88 vk0_back k0_back, Res.map (fun x : Int => Value.int .i64 x) vk0_lost k0_lost, Res.sl Ek.str 9 vk0_got k0_got, Res.sl (Ek.int .i64) 3 vk0_times k0_times]) hp [2, 3, 0, 1, 4, 5, 6, 7, 8] (by decide) (by simp) rfl
  replace hp : Hp _ _ _ (Res.opt pk79 vk0_s (some (s9.1, s9.2.1, s9.2.2.1, s9.2.2.2.1, s9.2.2.2.2)) :: _ :: _ :: _ :: _ :: _ :: _ :: _ :: ow) := pk79_out (s := (s9.1, s9.2.1, s9.2.2.1, s9.2.2.2.1, s9.2.2.2.2)) (u := v11) hp
  obtain rfl := Option.some.inj h
  have hp : Hp _ _ _ (_ :: _ :: _ :: _ :: _ :: _ :: _ :: _ :: ow) := Hp.sel (pre := [Res.opt pk79 vk0_s (some (s9.1, s9.2.1, s9.2.2.1, s9.2.2.2.1, s9.2.2.2.2)), Res.opt pk74 vk0_r (some (s13.1, s13.2.1, s13.2.2)), Res.obj 68 ok0 [.int .i64 k0_window, vk0_s, vk0_r, vk0_there, vk0_back, vk0_picks, .int .i64 (IntKind.i64.wrap (k0_at + (1 : Int))), vk0_lost, .int .i64 k0_row, .int .i64 k0_base, .int .i64 k0_offered, vk0_got, .bool k0_excluded, vk0_times], Res.sl (Ek.pair (Ek.int .i64) (Ek.pair (Ek.int .i64) (Ek.pair (Ek.int .u8) (Ek.pair (Ek.int .u8) (Ek.pair Ek.bool Ek.str))))) 88 vk0_there k0_there, Res.sl (Ek.pair (Ek.int .i64) (Ek.pair (Ek.int .i64) (Ek.pair (Ek.int .u8) (Ek.pair (Ek.int .u8) (Ek.pair Ek.bool Ek.str))))) 88 vk0_back k0_back, Res.map (fun x : Int => Value.int .i64 x) vk0_lost k0_lost, Res.sl Ek.str 9 vk0_got k0_got, Res.sl (Ek.int .i64) 3 vk0_times k0_times]) (tail := ow) (rs' := [Res.opt pk79 vk0_s (some (s9.1, s9.2.1, s9.2.2.1, s9.2.2.2.1, s9.2.2.2.2)), Res.opt pk74 vk0_r (some (s13.1, s13.2.1, s13.2.2)), Res.sl (Ek.pair (Ek.int .i64) (Ek.pair (Ek.int .i64) (Ek.pair (Ek.int .u8) (Ek.pair (Ek.int .u8) (Ek.pair Ek.bool Ek.str))))) 88 vk0_there k0_there, Res.sl (Ek.pair (Ek.int .i64) (Ek.pair (Ek.int .i64) (Ek.pair (Ek.int .u8) (Ek.pair (Ek.int .u8) (Ek.pair Ek.bool Ek.str))))) 88 vk0_back k0_back, Res.map (fun x : Int => Value.int .i64 x) vk0_lost k0_lost, Res.sl Ek.str 9 vk0_got k0_got, Res.sl (Ek.int .i64) 3 vk0_times k0_times, Res.obj 68 ok0 [.int .i64 k0_window, vk0_s, vk0_r, vk0_there, vk0_back, vk0_picks, .int .i64 (IntKind.i64.wrap (k0_at + (1 : Int))), vk0_lost, .int .i64 k0_row, .int .i64 k0_base, .int .i64 k0_offered, vk0_got, .bool k0_excluded, vk0_times]]) hp [0, 1, 3, 4, 5, 6, 7, 2] (by decide) (by simp) rfl
  exact ⟨rfl, ⟨_, _, _, _, _, hf.sub ⟨rfl, trivial⟩, hp⟩⟩

end Go.Proofs.Ytmdigffgmohcnaa
