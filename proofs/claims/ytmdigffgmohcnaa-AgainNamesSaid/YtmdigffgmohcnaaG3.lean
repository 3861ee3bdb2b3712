/- The functions foghorn foghornlaw28.AgainNames: what each answers, as a plain function, and that its call answers it; printed by gen.py. -/
import Derived.Test.YtmdigffgmohcnaaProg
import Derived.Test.YtmdigffgmohcnaaGlUb
import Derived.KernelRfl
import Derived.Test.YtmdigffgmohcnaaG3p2
set_option linter.unusedVariables false
set_option linter.unusedSimpArgs false
set_option maxRecDepth 100000
set_option maxHeartbeats 4000000
namespace Go.Proofs.Ytmdigffgmohcnaa
open GL
noncomputable def f_foghornlaw28_AgainNames.s1c (xx8c_0 : Int) (xx8c_1 : Int) (xx8c_2 : Int) (xx8c_3 : Int) (xx8c_4 : (List (ByteArray × Bool × Int × Bool))) (k19 : Int) : Option ((Int × Int × Int × Int × (List (ByteArray × Bool × Int × Bool)) × Int) ⊕ ((Int × Int × Int × Int × (List (ByteArray × Bool × Int × Bool))) ⊕ Bool)) := (if (decide (k19 < (4096 : Int))) = true then ((f_again_Sender_Offer xx8c_0 xx8c_1 xx8c_2 xx8c_3 xx8c_4 (ByteArray.mk #[])).bind fun q101 => (if (q101.1 != (0 : Int)) = true then (some (Sum.inr (Sum.inr false))) else (some (Sum.inl (q101.2.1, q101.2.2.1, q101.2.2.2.1, q101.2.2.2.2.1, q101.2.2.2.2.2, (IntKind.i64.wrap (k19 + (1 : Int)))))))) else (some (Sum.inr (Sum.inl (xx8c_0, xx8c_1, xx8c_2, xx8c_3, xx8c_4)))))
noncomputable def f_foghornlaw28_AgainNames.s1  (s : (Int × Int × Int × Int × (List (ByteArray × Bool × Int × Bool)) × Int)) : Option ((Int × Int × Int × Int × (List (ByteArray × Bool × Int × Bool)) × Int) ⊕ ((Int × Int × Int × Int × (List (ByteArray × Bool × Int × Bool))) ⊕ Bool)) := f_foghornlaw28_AgainNames.s1c s.1 s.2.1 s.2.2.1 s.2.2.2.1 s.2.2.2.2.1 s.2.2.2.2.2
noncomputable def f_foghornlaw28_AgainNames  : Option Bool := ((f_foghornlaw28_works).bind fun q1 => (if (!q1) = true then (some false) else ((f_again_Sender_Tick_19 (0 : Int)).bind fun q3 => ((f_again_Receiver_Take_10 (0 : Int) (0 : Int) false ByteArray.empty).bind fun q7 => ((if ((((q3.2 != (2 : Int)) || (q7.2.2 != (2 : Int))) || ((q7.1.length : Int) != (0 : Int))) || (q7.2.1.1 != (0 : Int))) = true then (some true) else ((f_again_Sender_Offer_17 (ByteArray.mk #[])).bind fun q22 => (some (q22 != (2 : Int))))).bind fun z21 => ((if z21 = true then (some true) else ((f_again_Sender_Hear_23 (0 : Int) (0 : Int) false ByteArray.empty).bind fun q27 => (some (q27 != (2 : Int))))).bind fun z26 => ((if z26 = true then (some true) else ((f_again_Sender_Left_25).bind fun q32 => (some (q32 != (0 : Int))))).bind fun z31 => ((if z31 = true then (some true) else ((f_again_Receiver_Handed_14).bind fun q37 => (some (q37 != (0 : Int))))).bind fun z36 => (if z36 = true then (some false) else ((f_again_NewSender (128 : Int) (4611686018427387904 : Int)).bind fun q39 => ((f_again_NewSender (129 : Int) (1 : Int)).bind fun q43 => ((f_again_NewSender (1 : Int) (0 : Int)).bind fun q47 => ((f_again_NewReceiver (129 : Int)).bind fun q51 => ((f_again_NewReceiver (128 : Int)).bind fun q55 => (if (((((((q39.2 != (0 : Int)) || (q43.2 != (1 : Int))) || (q47.2 != (1 : Int))) || (q51.2 != (1 : Int))) || (q55.2 != (0 : Int))) || ((q39.1).isNone)) || ((q55.1).isNone)) = true then (some false) else (if 0 ≤ (241 : Int) ∧ (241 : Int) ≤ (241 : Int) ∧ (241 : Int) * 1 ≤ 281474976710656 then ((q39.1).bind fun s74 => ((f_again_Sender_Offer s74.1 s74.2.1 s74.2.2.1 s74.2.2.2.1 s74.2.2.2.2 (bstr (mk0 (241 : Int) (0 : Int)))).bind fun q78 => ((if (q78.1 != (1 : Int)) = true then (some (true, q78.2.1, q78.2.2.1, q78.2.2.2.1, q78.2.2.2.2.1, q78.2.2.2.2.2)) else (if 0 ≤ (240 : Int) ∧ (240 : Int) ≤ ((bstr (mk0 (241 : Int) (0 : Int))).size : Int) then ((f_again_Sender_Offer q78.2.1 q78.2.2.1 q78.2.2.2.1 q78.2.2.2.2.1 q78.2.2.2.2.2 ((bstr (mk0 (241 : Int) (0 : Int))).extract 0 ((240 : Int)).toNat)).bind fun q90 => (some ((q90.1 != (0 : Int)), q90.2.1, q90.2.2.1, q90.2.2.2.1, q90.2.2.2.2.1, q90.2.2.2.2.2))) else none)).bind fun z88 => (if z88.1 = true then (some false) else ((loop f_foghornlaw28_AgainNames.s1 (z88.2.1, z88.2.2.1, z88.2.2.2.1, z88.2.2.2.2.1, z88.2.2.2.2.2, (1 : Int))).bind (fun q106 => sm q106 (fun q107 => ((f_again_Sender_Tick q107.1 q107.2.1 q107.2.2.1 q107.2.2.2.1 q107.2.2.2.2 (5 : Int)).bind fun q109 => ((f_again_Sender_Tick q109.2.2.1 q109.2.2.2.1 q109.2.2.2.2.1 q109.2.2.2.2.2.1 q109.2.2.2.2.2.2 (5 : Int)).bind fun q116 => ((f_again_Sender_Tick q116.2.2.1 q116.2.2.2.1 q116.2.2.2.2.1 q116.2.2.2.2.2.1 q116.2.2.2.2.2.2 (4 : Int)).bind fun q123 => ((q55.1).bind fun s130 => ((f_again_Receiver_Take s130.1 s130.2.1 s130.2.2 (1 : Int) (0 : Int) false (bstr (mk0 (241 : Int) (0 : Int)))).bind fun q134 => ((f_again_Receiver_Take q134.2.2.2.1 q134.2.2.2.2.1 q134.2.2.2.2.2 (1 : Int) (0 : Int) true ByteArray.empty).bind fun q141 => ((f_again_Sender_Offer q123.2.2.1 q123.2.2.2.1 q123.2.2.2.2.1 q123.2.2.2.2.2.1 q123.2.2.2.2.2.2 (ByteArray.mk #[])).bind fun q148 => ((if (q148.1 == (3 : Int)) = true then ((f_again_Sender_Left q148.2.1 q148.2.2.1 q148.2.2.2.1 q148.2.2.2.2.1 q148.2.2.2.2.2).bind fun q156 => (some (q156 == (4096 : Int)))) else (some false)).bind fun z155 => ((if (((((((z155 && (q109.2.1 == (0 : Int))) && ((q109.1.length : Int) == (128 : Int))) && (q116.2.1 == (0 : Int))) && ((q116.1.length : Int) == (0 : Int))) && (q123.2.1 == (1 : Int))) && (q134.2.2.1 == (4 : Int))) && (q141.2.2.1 == (4 : Int))) = true then (if 0 ≤ (15 : Int) ∧ (15 : Int) ≤ ((bstr (mk0 (241 : Int) (0 : Int))).size : Int) then ((f_again_Sender_Hear q148.2.1 q148.2.2.1 q148.2.2.2.1 q148.2.2.2.2.1 q148.2.2.2.2.2 (2 : Int) (0 : Int) false ((bstr (mk0 (241 : Int) (0 : Int))).extract 0 ((15 : Int)).toNat)).bind fun q186 => (some (q186.1 == (4 : Int)))) else none) else (some false)).bind fun z184 => (some z184))))))))))) (fun q108 => (some q108)))))))) else none))))))))))))))))
theorem f_foghornlaw28_AgainNames_c {S : Nat → Prop} {w0 w : World} {ow : List Res} (hp : Hp S w0 w ow) {r : Bool} (h : f_foghornlaw28_AgainNames = some r) :
    Calls Try.prog 5 #[] w (fun e w' => e = .returned (.bool r) ∧ Hp S w0 w' (ow)) := by
  unfold f_foghornlaw28_AgainNames at h
  refine enter (n := 231) (args := []) Try.func5 rfl rfl (Nat.le_of_ble_eq_true rfl) fun a hf => ?_
  replace hf : Fr 231 a [] := hf
  refine wp_mono (Q := fun e a w => e = .ret ∧ Fr 231 a [(0, .bool r)] ∧ Hp S w0 w (ow)) ?_ ?_
  rotate_left
  · rintro e a w ⟨rfl, hf, hp⟩
    exact ret1 hf rfl rfl ⟨rfl, hp⟩
  refine wp_seq ?_
  refine wp_reg ?_
  refine st_assign hf rfl rfl (by decide) ?_
  clear hf; intro a ha hf; clear ha
  refine st_nil hf ?_
  refine th_n ?_
  refine wp_seq ?_
  refine wp_seq ?_
  refine wp_reg ?_
  obtain ⟨q1, hcall2, h⟩ := bnd h
  refine st_call hf (by decide) Try.func27 rfl rfl rfl rfl rfl (f_foghornlaw28_works_c hp  hcall2) ?_
  rintro _ w ⟨rfl, hp0⟩
  clear hp; have hp := hp0; clear hp0
  replace hp : Hp _ _ _ (ow) := hp
  refine ⟨_, rfl, ?_⟩
  clear hf; intro a hf
  refine st_not hf (by decide) rfl rfl ?_
  clear hf; intro a ha hf; clear ha
  refine st_move hf rfl rfl (by decide) ?_
  clear hf; intro a ha hf; clear ha
  refine st_pick (v := .bool (!q1)) hf rfl rfl (fun hb9 => by rw [hb9]; rfl) (fun hb9 => by rw [hb9]; rfl) (by decide) ?_
  clear hf; intro a ha hf; clear ha
  refine st_move hf rfl rfl (by decide) ?_
  clear hf; intro a ha hf; clear ha
  refine st_pick (v := .bool (!q1)) hf rfl rfl (fun hb9 => by rw [hb9]; rfl) (fun hb9 => by rw [hb9]; rfl) (by decide) ?_
  clear hf; intro a ha hf; clear ha
  refine st_move hf rfl rfl (by decide) ?_
  clear hf; intro a ha hf; clear ha
  refine st_pick (v := .bool (!q1)) hf rfl rfl (fun hb9 => by rw [hb9]; rfl) (fun hb9 => by rw [hb9]; rfl) (by decide) ?_
  clear hf; intro a ha hf; clear ha
  refine st_move hf rfl rfl (by decide) ?_
  clear hf; intro a ha hf; clear ha
  refine st_pick (v := .bool (!q1)) hf rfl rfl (fun hb9 => by rw [hb9]; rfl) (fun hb9 => by rw [hb9]; rfl) (by decide) ?_
  clear hf; intro a ha hf; clear ha
  refine st_move hf rfl rfl (by decide) ?_
  clear hf; intro a ha hf; clear ha
  refine st_pick (v := .bool (!q1)) hf rfl rfl (fun hb9 => by rw [hb9]; rfl) (fun hb9 => by rw [hb9]; rfl) (by decide) ?_
  clear hf; intro a ha hf; clear ha
  refine st_move hf rfl rfl (by decide) ?_
  clear hf; intro a ha hf; clear ha
  refine st_pick (v := .bool (!q1)) hf rfl rfl (fun hb9 => by rw [hb9]; rfl) (fun hb9 => by rw [hb9]; rfl) (by decide) ?_
  clear hf; intro a ha hf; clear ha
  refine st_move hf rfl rfl (by decide) ?_
  clear hf; intro a ha hf; clear ha
  refine st_pick (v := .bool (!q1)) hf rfl rfl (fun hb9 => by rw [hb9]; rfl) (fun hb9 => by rw [hb9]; rfl) (by decide) ?_
  clear hf; intro a ha hf; clear ha
  refine st_move hf rfl rfl (by decide) ?_
  clear hf; intro a ha hf; clear ha
  refine st_pick (v := .bool (!q1)) hf rfl rfl (fun hb9 => by rw [hb9]; rfl) (fun hb9 => by rw [hb9]; rfl) (by decide) ?_
  clear hf; intro a ha hf; clear ha
  refine st_nil hf ?_
  refine th_n ?_
  refine wp_if hf rfl (fun hb => ?_) (fun hb => ?_)
  · replace h := ifT h hb
    refine wp_seq ?_
    refine wp_reg ?_
    refine st_assign hf rfl rfl (by decide) ?_
    clear hf; intro a ha hf; clear ha
    refine st_nil hf ?_
    refine th_n ?_
    refine wp_ret ?_
    refine th_r ?_
    obtain rfl := Option.some.inj h
    exact ⟨rfl, ⟨hf.sub ⟨rfl, trivial⟩, hp⟩⟩
  replace h := ifF h hb
  refine wp_skip ?_
  refine th_n ?_
  refine wp_seq ?_
  refine wp_reg ?_
  refine st_assign hf rfl rfl (by decide) ?_
  clear hf; intro a ha hf; clear ha
  refine st_nil hf ?_
  refine th_n ?_
  refine wp_seq ?_
  refine wp_reg ?_
  refine st_assign hf rfl rfl (by decide) ?_
  clear hf; intro a ha hf; clear ha
  refine st_nil hf ?_
  refine th_n ?_
  refine wp_seq ?_
  refine wp_reg ?_
  refine st_move hf rfl rfl (by decide) ?_
  clear hf; intro a ha hf; clear ha
  obtain ⟨q3, hcall4, h⟩ := bnd h
  refine st_call hf (by decide) Try.func19 rfl rfl rfl rfl rfl (f_again_Sender_Tick_19_c hp _ hcall4) ?_
  rintro _ w ⟨v5, rfl, hp0⟩
  clear hp; have hp := hp0; clear hp0
  replace hp : Hp _ _ _ (Res.sl (Ek.pair (Ek.int .u8) (Ek.pair (Ek.int .u8) (Ek.pair Ek.bool Ek.str))) 31 v5 q3.1 :: ow) := hp
  refine ⟨_, rfl, ?_⟩
  clear hf; intro a hf
  refine st_move hf rfl rfl (by decide) ?_
  clear hf; intro a ha hf; clear ha
  refine st_extract hf (by decide) rfl rfl rfl ?_
  clear hf; intro a ha hf; clear ha
  refine st_extract hf (by decide) rfl rfl rfl ?_
  clear hf; intro a ha hf; clear ha
  refine st_assign hf rfl rfl (by decide) ?_
  clear hf; intro a ha hf; clear ha
  refine st_assign hf rfl rfl (by decide) ?_
  clear hf; intro a ha hf; clear ha
  refine st_nil hf ?_
  refine th_n ?_
  refine wp_seq ?_
  refine wp_reg ?_
  refine st_move hf rfl rfl (by decide) ?_
  clear hf; intro a ha hf; clear ha
  refine st_buildA (vals := []) (cells := [.int .u8 (0 : Int), .int .u8 (0 : Int), .bool false, .string ByteArray.empty]) hf (by decide) rfl (by simp []) (fun w => by kernel_rfl) ?_
  clear hf; intro a ha hf; clear ha
  obtain ⟨q7, hcall8, h⟩ := bnd h
  refine st_call hf (by decide) Try.func10 rfl rfl rfl rfl rfl (f_again_Receiver_Take_10_c hp _ _ _ _ hcall8) ?_
  rintro _ w ⟨v9, rfl, hp0⟩
  clear hp; have hp := hp0; clear hp0
  replace hp : Hp _ _ _ (Res.sl Ek.str 9 v9 q7.1 :: Res.sl (Ek.pair (Ek.int .u8) (Ek.pair (Ek.int .u8) (Ek.pair Ek.bool Ek.str))) 31 v5 q3.1 :: ow) := hp
  refine ⟨_, rfl, ?_⟩
  clear hf; intro a hf
  refine st_move hf rfl rfl (by decide) ?_
  clear hf; intro a ha hf; clear ha
  refine st_extract hf (by decide) rfl rfl rfl ?_
  clear hf; intro a ha hf; clear ha
  refine st_extract hf (by decide) rfl rfl rfl ?_
  clear hf; intro a ha hf; clear ha
  refine st_extract hf (by decide) rfl rfl rfl ?_
  clear hf; intro a ha hf; clear ha
  refine st_alloc (cs := [.int .u8 (0 : Int), .int .u8 (0 : Int), .bool false, .string ByteArray.empty]) (zv := .agg #[.int .u8 (0 : Int), .int .u8 (0 : Int), .bool false, .string ByteArray.empty]) hf (by decide) (by kernel_rfl) rfl hp rfl ?_
  clear hf; intro a w v11 hf hp0; clear hp; have hp := hp0; clear hp0
  replace hp : Hp _ _ _ (Res.obj 31 v11 [.int .u8 (0 : Int), .int .u8 (0 : Int), .bool false, .string ByteArray.empty] :: Res.sl Ek.str 9 v9 q7.1 :: Res.sl (Ek.pair (Ek.int .u8) (Ek.pair (Ek.int .u8) (Ek.pair Ek.bool Ek.str))) 31 v5 q3.1 :: ow) := hp
  refine st_assign hf rfl rfl (by decide) ?_
  clear hf; intro a ha hf; clear ha
  refine st_stO (us := [.int .u8 q7.2.1.1, .int .u8 q7.2.1.2.1, .bool q7.2.1.2.2.1, .string q7.2.1.2.2.2]) hf hp (i := 0) rfl rfl rfl rfl rfl (by rfl) (by kernel_rfl) (Nat.le_of_ble_eq_true rfl) ?_
  clear hf; intro a w hf hp0; clear hp; have hp := hp0; clear hp0
  replace hp : Hp _ _ _ (Res.obj 31 v11 [.int .u8 q7.2.1.1, .int .u8 q7.2.1.2.1, .bool q7.2.1.2.2.1, .string q7.2.1.2.2.2] :: Res.sl Ek.str 9 v9 q7.1 :: Res.sl (Ek.pair (Ek.int .u8) (Ek.pair (Ek.int .u8) (Ek.pair Ek.bool Ek.str))) 31 v5 q3.1 :: ow) := hp
  refine st_assign hf rfl rfl (by decide) ?_
  clear hf; intro a ha hf; clear ha
  refine st_nil hf ?_
  refine th_n ?_
  refine wp_seq ?_
  refine wp_seq ?_
  refine wp_reg ?_
  refine st_move hf rfl rfl (by decide) ?_
  clear hf; intro a ha hf; clear ha
  refine st_ineq hf (by decide) rfl rfl rfl ?_
  clear hf; intro a ha hf; clear ha
  refine st_move hf rfl rfl (by decide) ?_
  clear hf; intro a ha hf; clear ha
  refine wpList_cut 3 (fun a w => Fr 231 a [(1, .pointer none), (2, .pointer none), (5, v9), (6, optr v11 0), (57, .bool ((q3.2 != (2 : Int)) || (q7.2.2 != (2 : Int))))] ∧ Hp S w0 w (Res.obj 31 v11 [.int .u8 q7.2.1.1, .int .u8 q7.2.1.2.1, .bool q7.2.1.2.2.1, .string q7.2.1.2.2.2] :: Res.sl Ek.str 9 v9 q7.1 :: Res.sl (Ek.pair (Ek.int .u8) (Ek.pair (Ek.int .u8) (Ek.pair Ek.bool Ek.str))) 31 v5 q3.1 :: ow)) ?_ ?_
  · rcases Bool.eq_false_or_eq_true (q3.2 != (2 : Int)) with hb14 | hb14
    · skip
      refine st_skip hf (wantN hf rfl rfl hb14) rfl (by decide) ?_ rfl
      clear hf; intro a hf
      refine st_skip hf (wantN hf rfl rfl hb14) rfl (by decide) ?_ rfl
      clear hf; intro a hf
      refine st_pick (v := .bool true) hf rfl rfl (fun hb' => ?_) (fun hb' => ?_) (by decide) ?_
      · rfl
      · exact absurd (hb14.symm.trans hb') (by decide)
      clear hf; intro a ha hf; clear ha
      refine st_nil hf (th_n ?_)
      exact ⟨hf.sub ⟨rfl, rfl, rfl, rfl, (by rw [hb14]; rfl), trivial⟩, hp⟩
    refine st_move hf (wantY hf rfl rfl hb14) rfl (by decide) ?_
    clear hf; intro a ha hf; clear ha
    refine st_ineq hf (by decide) (wantY hf rfl rfl hb14) rfl rfl ?_
    clear hf; intro a ha hf; clear ha
    refine st_pick (v := .bool (q7.2.2 != (2 : Int))) hf rfl rfl (fun hb' => ?_) (fun hb' => ?_) (by decide) ?_
    · exact absurd (hb14.symm.trans hb') (by decide)
    · rfl
    clear hf; intro a ha hf; clear ha
    refine st_nil hf (th_n ?_)
    exact ⟨hf.sub ⟨rfl, rfl, rfl, rfl, (by rw [hb14]; rfl), trivial⟩, hp⟩
  rintro a w ⟨hf, hp⟩
  refine st_move hf rfl rfl (by decide) ?_
  clear hf; intro a ha hf; clear ha
  refine wpList_cut 4 (fun a w => Fr 231 a [(1, .pointer none), (2, .pointer none), (6, optr v11 0), (62, .bool (((q3.2 != (2 : Int)) || (q7.2.2 != (2 : Int))) || ((q7.1.length : Int) != (0 : Int))))] ∧ Hp S w0 w (Res.obj 31 v11 [.int .u8 q7.2.1.1, .int .u8 q7.2.1.2.1, .bool q7.2.1.2.2.1, .string q7.2.1.2.2.2] :: Res.sl Ek.str 9 v9 q7.1 :: Res.sl (Ek.pair (Ek.int .u8) (Ek.pair (Ek.int .u8) (Ek.pair Ek.bool Ek.str))) 31 v5 q3.1 :: ow)) ?_ ?_
  · rcases Bool.eq_false_or_eq_true ((q3.2 != (2 : Int)) || (q7.2.2 != (2 : Int))) with hb16 | hb16
    · skip
      refine st_skip hf (wantN hf rfl rfl hb16) rfl (by decide) ?_ rfl
      clear hf; intro a hf
      refine st_skip hf (wantN hf rfl rfl hb16) rfl (by decide) ?_ rfl
      clear hf; intro a hf
      refine st_skip hf (wantN hf rfl rfl hb16) rfl (by decide) ?_ rfl
      clear hf; intro a hf
      refine st_pick (v := .bool true) hf rfl rfl (fun hb' => ?_) (fun hb' => ?_) (by decide) ?_
      · rfl
      · exact absurd (hb16.symm.trans hb') (by decide)
      clear hf; intro a ha hf; clear ha
      refine st_nil hf (th_n ?_)
      exact ⟨hf.sub ⟨rfl, rfl, rfl, (by rw [hb16]; rfl), trivial⟩, hp⟩
    refine st_move hf (wantY hf rfl rfl hb16) rfl (by decide) ?_
    clear hf; intro a ha hf; clear ha
    refine st_len (E := Ek.str) hf (by decide) Try.underlying35 (wantY hf rfl rfl hb16) rfl (hp.sl (i := 1) rfl) ?_
    clear hf; intro a ha hf; clear ha
    refine st_ineq hf (by decide) (wantY hf rfl rfl hb16) rfl rfl ?_
    clear hf; intro a ha hf; clear ha
    refine st_pick (v := .bool ((q7.1.length : Int) != (0 : Int))) hf rfl rfl (fun hb' => ?_) (fun hb' => ?_) (by decide) ?_
    · exact absurd (hb16.symm.trans hb') (by decide)
    · rfl
    clear hf; intro a ha hf; clear ha
    refine st_nil hf (th_n ?_)
    exact ⟨hf.sub ⟨rfl, rfl, rfl, (by rw [hb16]; rfl), trivial⟩, hp⟩
  rintro a w ⟨hf, hp⟩
  refine st_move hf rfl rfl (by decide) ?_
  clear hf; intro a ha hf; clear ha
  refine wpList_cut 4 (fun a w => Fr 231 a [(1, .pointer none), (2, .pointer none), (67, .bool ((((q3.2 != (2 : Int)) || (q7.2.2 != (2 : Int))) || ((q7.1.length : Int) != (0 : Int))) || (q7.2.1.1 != (0 : Int))))] ∧ Hp S w0 w (Res.obj 31 v11 [.int .u8 q7.2.1.1, .int .u8 q7.2.1.2.1, .bool q7.2.1.2.2.1, .string q7.2.1.2.2.2] :: Res.sl Ek.str 9 v9 q7.1 :: Res.sl (Ek.pair (Ek.int .u8) (Ek.pair (Ek.int .u8) (Ek.pair Ek.bool Ek.str))) 31 v5 q3.1 :: ow)) ?_ ?_
  · rcases Bool.eq_false_or_eq_true (((q3.2 != (2 : Int)) || (q7.2.2 != (2 : Int))) || ((q7.1.length : Int) != (0 : Int))) with hb18 | hb18
    · skip
      refine st_skip hf (wantN hf rfl rfl hb18) rfl (by decide) ?_ rfl
      clear hf; intro a hf
      refine st_skip hf (wantN hf rfl rfl hb18) rfl (by decide) ?_ rfl
      clear hf; intro a hf
      refine st_skip hf (wantN hf rfl rfl hb18) rfl (by decide) ?_ rfl
      clear hf; intro a hf
      refine st_pick (v := .bool true) hf rfl rfl (fun hb' => ?_) (fun hb' => ?_) (by decide) ?_
      · rfl
      · exact absurd (hb18.symm.trans hb') (by decide)
      clear hf; intro a ha hf; clear ha
      refine st_nil hf (th_n ?_)
      exact ⟨hf.sub ⟨rfl, rfl, (by rw [hb18]; rfl), trivial⟩, hp⟩
    refine st_fa (o' := 0) hf (by decide) (off := 0) (sz := 1) (by kernel_rfl) (by decide) (wantY hf rfl rfl hb18) rfl (hp.ob (i := 0) rfl) rfl ?_
    clear hf; intro a ha hf; clear ha
    refine st_ldO (u := .int .u8 q7.2.1.1) hf (by decide) pl5 (wantY hf rfl rfl hb18) rfl (hp.ob (i := 0) rfl) rfl ?_
    clear hf; intro a ha hf; clear ha
    refine st_ineq hf (by decide) (wantY hf rfl rfl hb18) rfl rfl ?_
    clear hf; intro a ha hf; clear ha
    refine st_pick (v := .bool (q7.2.1.1 != (0 : Int))) hf rfl rfl (fun hb' => ?_) (fun hb' => ?_) (by decide) ?_
    · exact absurd (hb18.symm.trans hb') (by decide)
    · rfl
    clear hf; intro a ha hf; clear ha
    refine st_nil hf (th_n ?_)
    exact ⟨hf.sub ⟨rfl, rfl, (by rw [hb18]; rfl), trivial⟩, hp⟩
  rintro a w ⟨hf, hp⟩
  refine st_move hf rfl rfl (by decide) ?_
  clear hf; intro a ha hf; clear ha
  obtain ⟨z21, hz19, h⟩ := bnd h
  refine wpList_cut 4 (fun a w => Fr 231 a [(1, .pointer none), (2, .pointer none), (72, .bool z21)] ∧ Hp S w0 w (Res.obj 31 v11 [.int .u8 q7.2.1.1, .int .u8 q7.2.1.2.1, .bool q7.2.1.2.2.1, .string q7.2.1.2.2.2] :: Res.sl Ek.str 9 v9 q7.1 :: Res.sl (Ek.pair (Ek.int .u8) (Ek.pair (Ek.int .u8) (Ek.pair Ek.bool Ek.str))) 31 v5 q3.1 :: ow)) ?_ ?_
  · rcases Bool.eq_false_or_eq_true ((((q3.2 != (2 : Int)) || (q7.2.2 != (2 : Int))) || ((q7.1.length : Int) != (0 : Int))) || (q7.2.1.1 != (0 : Int))) with hb20 | hb20
    · skip
      replace hz19 := ifT hz19 hb20
      refine st_skip hf (wantN hf rfl rfl hb20) rfl (by decide) ?_ rfl
      clear hf; intro a hf
      refine st_skip hf (wantN hf rfl rfl hb20) rfl (by decide) ?_ rfl
      clear hf; intro a hf
      refine st_skip hf (wantN hf rfl rfl hb20) rfl (by decide) ?_ rfl
      clear hf; intro a hf
      obtain rfl := Option.some.inj hz19
      refine st_pick (v := .bool true) hf rfl rfl (fun hb' => ?_) (fun hb' => ?_) (by decide) ?_
      · rfl
      · exact absurd (hb20.symm.trans hb') (by decide)
      clear hf; intro a ha hf; clear ha
      refine st_nil hf (th_n ?_)
      exact ⟨hf.sub ⟨rfl, rfl, rfl, trivial⟩, hp⟩
    replace hz19 := ifF hz19 hb20
    refine st_move hf (wantY hf rfl rfl hb20) rfl (by decide) ?_
    clear hf; intro a ha hf; clear ha
    obtain ⟨q22, hcall23, hz19⟩ := bnd hz19
    refine st_call hf (by decide) Try.func17 rfl rfl (wantY hf rfl rfl hb20) rfl rfl (f_again_Sender_Offer_17_c hp _ hcall23) ?_
    rintro _ w ⟨rfl, hp0⟩
    clear hp; have hp := hp0; clear hp0
    replace hp : Hp _ _ _ (Res.obj 31 v11 [.int .u8 q7.2.1.1, .int .u8 q7.2.1.2.1, .bool q7.2.1.2.2.1, .string q7.2.1.2.2.2] :: Res.sl Ek.str 9 v9 q7.1 :: Res.sl (Ek.pair (Ek.int .u8) (Ek.pair (Ek.int .u8) (Ek.pair Ek.bool Ek.str))) 31 v5 q3.1 :: ow) := hp
    refine ⟨_, rfl, ?_⟩
    clear hf; intro a hf
    refine st_ineq hf (by decide) (wantY hf rfl rfl hb20) rfl rfl ?_
    clear hf; intro a ha hf; clear ha
    obtain rfl := Option.some.inj hz19
    refine st_pick (v := .bool (q22 != (2 : Int))) hf rfl rfl (fun hb' => ?_) (fun hb' => ?_) (by decide) ?_
    · exact absurd (hb20.symm.trans hb') (by decide)
    · rfl
    clear hf; intro a ha hf; clear ha
    refine st_nil hf (th_n ?_)
    exact ⟨hf.sub ⟨rfl, rfl, rfl, trivial⟩, hp⟩
  rintro a w ⟨hf, hp⟩
  refine st_move hf rfl rfl (by decide) ?_
  clear hf; intro a ha hf; clear ha
  obtain ⟨z26, hz24, h⟩ := bnd h
  refine wpList_cut 5 (fun a w => Fr 231 a [(1, .pointer none), (2, .pointer none), (78, .bool z26)] ∧ Hp S w0 w (Res.obj 31 v11 [.int .u8 q7.2.1.1, .int .u8 q7.2.1.2.1, .bool q7.2.1.2.2.1, .string q7.2.1.2.2.2] :: Res.sl Ek.str 9 v9 q7.1 :: Res.sl (Ek.pair (Ek.int .u8) (Ek.pair (Ek.int .u8) (Ek.pair Ek.bool Ek.str))) 31 v5 q3.1 :: ow)) ?_ ?_
  · rcases Bool.eq_false_or_eq_true z21 with hb25 | hb25
    · skip
      replace hz24 := ifT hz24 hb25
      refine st_skip hf (wantN hf rfl rfl hb25) rfl (by decide) ?_ rfl
      clear hf; intro a hf
      refine st_skip hf (wantN hf rfl rfl hb25) rfl (by decide) ?_ rfl
      clear hf; intro a hf
      refine st_skip hf (wantN hf rfl rfl hb25) rfl (by decide) ?_ rfl
      clear hf; intro a hf
      refine st_skip hf (wantN hf rfl rfl hb25) rfl (by decide) ?_ rfl
      clear hf; intro a hf
      obtain rfl := Option.some.inj hz24
      refine st_pick (v := .bool true) hf rfl rfl (fun hb' => ?_) (fun hb' => ?_) (by decide) ?_
      · rfl
      · exact absurd (hb25.symm.trans hb') (by decide)
      clear hf; intro a ha hf; clear ha
      refine st_nil hf (th_n ?_)
      exact ⟨hf.sub ⟨rfl, rfl, rfl, trivial⟩, hp⟩
    replace hz24 := ifF hz24 hb25
    refine st_move hf (wantY hf rfl rfl hb25) rfl (by decide) ?_
    clear hf; intro a ha hf; clear ha
    refine st_buildA (vals := []) (cells := [.int .u8 (0 : Int), .int .u8 (0 : Int), .bool false, .string ByteArray.empty]) hf (by decide) (wantY hf rfl rfl hb25) (by simp []) (fun w => by kernel_rfl) ?_
    clear hf; intro a ha hf; clear ha
    obtain ⟨q27, hcall28, hz24⟩ := bnd hz24
    refine st_call hf (by decide) Try.func23 rfl rfl (wantY hf rfl rfl hb25) rfl rfl (f_again_Sender_Hear_23_c hp _ _ _ _ hcall28) ?_
    rintro _ w ⟨rfl, hp0⟩
    clear hp; have hp := hp0; clear hp0
    replace hp : Hp _ _ _ (Res.obj 31 v11 [.int .u8 q7.2.1.1, .int .u8 q7.2.1.2.1, .bool q7.2.1.2.2.1, .string q7.2.1.2.2.2] :: Res.sl Ek.str 9 v9 q7.1 :: Res.sl (Ek.pair (Ek.int .u8) (Ek.pair (Ek.int .u8) (Ek.pair Ek.bool Ek.str))) 31 v5 q3.1 :: ow) := hp
    refine ⟨_, rfl, ?_⟩
    clear hf; intro a hf
    refine st_ineq hf (by decide) (wantY hf rfl rfl hb25) rfl rfl ?_
    clear hf; intro a ha hf; clear ha
    obtain rfl := Option.some.inj hz24
    refine st_pick (v := .bool (q27 != (2 : Int))) hf rfl rfl (fun hb' => ?_) (fun hb' => ?_) (by decide) ?_
    · exact absurd (hb25.symm.trans hb') (by decide)
    · rfl
    clear hf; intro a ha hf; clear ha
    refine st_nil hf (th_n ?_)
    exact ⟨hf.sub ⟨rfl, rfl, rfl, trivial⟩, hp⟩
  rintro a w ⟨hf, hp⟩
  refine st_move hf rfl rfl (by decide) ?_
  clear hf; intro a ha hf; clear ha
  obtain ⟨z31, hz29, h⟩ := bnd h
  refine wpList_cut 4 (fun a w => Fr 231 a [(2, .pointer none), (83, .bool z31)] ∧ Hp S w0 w (Res.obj 31 v11 [.int .u8 q7.2.1.1, .int .u8 q7.2.1.2.1, .bool q7.2.1.2.2.1, .string q7.2.1.2.2.2] :: Res.sl Ek.str 9 v9 q7.1 :: Res.sl (Ek.pair (Ek.int .u8) (Ek.pair (Ek.int .u8) (Ek.pair Ek.bool Ek.str))) 31 v5 q3.1 :: ow)) ?_ ?_
  · rcases Bool.eq_false_or_eq_true z26 with hb30 | hb30
    · skip
      replace hz29 := ifT hz29 hb30
      refine st_skip hf (wantN hf rfl rfl hb30) rfl (by decide) ?_ rfl
      clear hf; intro a hf
      refine st_skip hf (wantN hf rfl rfl hb30) rfl (by decide) ?_ rfl
      clear hf; intro a hf
      refine st_skip hf (wantN hf rfl rfl hb30) rfl (by decide) ?_ rfl
      clear hf; intro a hf
      obtain rfl := Option.some.inj hz29
      refine st_pick (v := .bool true) hf rfl rfl (fun hb' => ?_) (fun hb' => ?_) (by decide) ?_
      · rfl
      · exact absurd (hb30.symm.trans hb') (by decide)
      clear hf; intro a ha hf; clear ha
      refine st_nil hf (th_n ?_)
      exact ⟨hf.sub ⟨rfl, rfl, trivial⟩, hp⟩
    replace hz29 := ifF hz29 hb30
    refine st_move hf (wantY hf rfl rfl hb30) rfl (by decide) ?_
    clear hf; intro a ha hf; clear ha
    obtain ⟨q32, hcall33, hz29⟩ := bnd hz29
    refine st_call hf (by decide) Try.func25 rfl rfl (wantY hf rfl rfl hb30) rfl rfl (f_again_Sender_Left_25_c hp  hcall33) ?_
    rintro _ w ⟨rfl, hp0⟩
    clear hp; have hp := hp0; clear hp0
    replace hp : Hp _ _ _ (Res.obj 31 v11 [.int .u8 q7.2.1.1, .int .u8 q7.2.1.2.1, .bool q7.2.1.2.2.1, .string q7.2.1.2.2.2] :: Res.sl Ek.str 9 v9 q7.1 :: Res.sl (Ek.pair (Ek.int .u8) (Ek.pair (Ek.int .u8) (Ek.pair Ek.bool Ek.str))) 31 v5 q3.1 :: ow) := hp
    refine ⟨_, rfl, ?_⟩
    clear hf; intro a hf
    refine st_ineq hf (by decide) (wantY hf rfl rfl hb30) rfl rfl ?_
    clear hf; intro a ha hf; clear ha
    obtain rfl := Option.some.inj hz29
    refine st_pick (v := .bool (q32 != (0 : Int))) hf rfl rfl (fun hb' => ?_) (fun hb' => ?_) (by decide) ?_
    · exact absurd (hb30.symm.trans hb') (by decide)
    · rfl
    clear hf; intro a ha hf; clear ha
    refine st_nil hf (th_n ?_)
    exact ⟨hf.sub ⟨rfl, rfl, trivial⟩, hp⟩
  rintro a w ⟨hf, hp⟩
  refine st_move hf rfl rfl (by decide) ?_
  clear hf; intro a ha hf; clear ha
  obtain ⟨z36, hz34, h⟩ := bnd h
  refine wpList_cut 4 (fun a w => Fr 231 a [(88, .bool z36)] ∧ Hp S w0 w (Res.obj 31 v11 [.int .u8 q7.2.1.1, .int .u8 q7.2.1.2.1, .bool q7.2.1.2.2.1, .string q7.2.1.2.2.2] :: Res.sl Ek.str 9 v9 q7.1 :: Res.sl (Ek.pair (Ek.int .u8) (Ek.pair (Ek.int .u8) (Ek.pair Ek.bool Ek.str))) 31 v5 q3.1 :: ow)) ?_ ?_
  · rcases Bool.eq_false_or_eq_true z31 with hb35 | hb35
    · skip
      replace hz34 := ifT hz34 hb35
      refine st_skip hf (wantN hf rfl rfl hb35) rfl (by decide) ?_ rfl
      clear hf; intro a hf
      refine st_skip hf (wantN hf rfl rfl hb35) rfl (by decide) ?_ rfl
      clear hf; intro a hf
      refine st_skip hf (wantN hf rfl rfl hb35) rfl (by decide) ?_ rfl
      clear hf; intro a hf
      obtain rfl := Option.some.inj hz34
      refine st_pick (v := .bool true) hf rfl rfl (fun hb' => ?_) (fun hb' => ?_) (by decide) ?_
      · rfl
      · exact absurd (hb35.symm.trans hb') (by decide)
      clear hf; intro a ha hf; clear ha
      refine st_nil hf (th_n ?_)
      exact ⟨hf.sub ⟨rfl, trivial⟩, hp⟩
    replace hz34 := ifF hz34 hb35
    refine st_move hf (wantY hf rfl rfl hb35) rfl (by decide) ?_
    clear hf; intro a ha hf; clear ha
    obtain ⟨q37, hcall38, hz34⟩ := bnd hz34
    refine st_call hf (by decide) Try.func14 rfl rfl (wantY hf rfl rfl hb35) rfl rfl (f_again_Receiver_Handed_14_c hp  hcall38) ?_
    rintro _ w ⟨rfl, hp0⟩
    clear hp; have hp := hp0; clear hp0
    replace hp : Hp _ _ _ (Res.obj 31 v11 [.int .u8 q7.2.1.1, .int .u8 q7.2.1.2.1, .bool q7.2.1.2.2.1, .string q7.2.1.2.2.2] :: Res.sl Ek.str 9 v9 q7.1 :: Res.sl (Ek.pair (Ek.int .u8) (Ek.pair (Ek.int .u8) (Ek.pair Ek.bool Ek.str))) 31 v5 q3.1 :: ow) := hp
    refine ⟨_, rfl, ?_⟩
    clear hf; intro a hf
    refine st_ineq hf (by decide) (wantY hf rfl rfl hb35) rfl rfl ?_
    clear hf; intro a ha hf; clear ha
    obtain rfl := Option.some.inj hz34
    refine st_pick (v := .bool (q37 != (0 : Int))) hf rfl rfl (fun hb' => ?_) (fun hb' => ?_) (by decide) ?_
    · exact absurd (hb35.symm.trans hb') (by decide)
    · rfl
    clear hf; intro a ha hf; clear ha
    refine st_nil hf (th_n ?_)
    exact ⟨hf.sub ⟨rfl, trivial⟩, hp⟩
  rintro a w ⟨hf, hp⟩
  refine st_nil hf ?_
  refine th_n ?_
  refine wp_if hf rfl (fun hb => ?_) (fun hb => ?_)
  · replace h := ifT h hb
    refine wp_seq ?_
    refine wp_reg ?_
    refine st_assign hf rfl rfl (by decide) ?_
    clear hf; intro a ha hf; clear ha
    refine st_nil hf ?_
    refine th_n ?_
    refine wp_ret ?_
    refine th_r ?_
    obtain rfl := Option.some.inj h
    have hp : Hp _ _ _ (ow) := Hp.sel (pre := [Res.obj 31 v11 [.int .u8 q7.2.1.1, .int .u8 q7.2.1.2.1, .bool q7.2.1.2.2.1, .string q7.2.1.2.2.2], Res.sl Ek.str 9 v9 q7.1, Res.sl (Ek.pair (Ek.int .u8) (Ek.pair (Ek.int .u8) (Ek.pair Ek.bool Ek.str))) 31 v5 q3.1]) (tail := ow) (rs' := []) hp [] (by decide) (by simp) rfl
    exact ⟨rfl, ⟨hf.sub ⟨rfl, trivial⟩, hp⟩⟩
  replace h := ifF h hb
  refine wp_skip ?_
  refine th_n ?_
  refine wp_seq ?_
  refine wp_reg ?_
  obtain ⟨q39, hcall40, h⟩ := bnd h
  refine st_call hf (by decide) Try.func15 rfl rfl rfl rfl rfl (f_again_NewSender_c hp _ _ hcall40) ?_
  rintro _ w ⟨v41, rfl, hp0⟩
  clear hp; have hp := hp0; clear hp0
  replace hp : Hp _ _ _ (Res.opt pk79 v41 q39.1 :: Res.obj 31 v11 [.int .u8 q7.2.1.1, .int .u8 q7.2.1.2.1, .bool q7.2.1.2.2.1, .string q7.2.1.2.2.2] :: Res.sl Ek.str 9 v9 q7.1 :: Res.sl (Ek.pair (Ek.int .u8) (Ek.pair (Ek.int .u8) (Ek.pair Ek.bool Ek.str))) 31 v5 q3.1 :: ow) := hp
  refine ⟨_, rfl, ?_⟩
  clear hf; intro a hf
  refine st_move hf rfl rfl (by decide) ?_
  clear hf; intro a ha hf; clear ha
  refine st_extract hf (by decide) rfl rfl rfl ?_
  clear hf; intro a ha hf; clear ha
  refine st_extract hf (by decide) rfl rfl rfl ?_
  clear hf; intro a ha hf; clear ha
  refine st_assign hf rfl rfl (by decide) ?_
  clear hf; intro a ha hf; clear ha
  refine st_assign hf rfl rfl (by decide) ?_
  clear hf; intro a ha hf; clear ha
  refine st_nil hf ?_
  refine th_n ?_
  refine wp_seq ?_
  refine wp_reg ?_
  obtain ⟨q43, hcall44, h⟩ := bnd h
  refine st_call hf (by decide) Try.func15 rfl rfl rfl rfl rfl (f_again_NewSender_c hp _ _ hcall44) ?_
  rintro _ w ⟨v45, rfl, hp0⟩
  clear hp; have hp := hp0; clear hp0
  replace hp : Hp _ _ _ (Res.opt pk79 v45 q43.1 :: Res.opt pk79 v41 q39.1 :: Res.obj 31 v11 [.int .u8 q7.2.1.1, .int .u8 q7.2.1.2.1, .bool q7.2.1.2.2.1, .string q7.2.1.2.2.2] :: Res.sl Ek.str 9 v9 q7.1 :: Res.sl (Ek.pair (Ek.int .u8) (Ek.pair (Ek.int .u8) (Ek.pair Ek.bool Ek.str))) 31 v5 q3.1 :: ow) := hp
  refine ⟨_, rfl, ?_⟩
  clear hf; intro a hf
  refine st_move hf rfl rfl (by decide) ?_
  clear hf; intro a ha hf; clear ha
  refine st_extract hf (by decide) rfl rfl rfl ?_
  clear hf; intro a ha hf; clear ha
  refine st_extract hf (by decide) rfl rfl rfl ?_
  clear hf; intro a ha hf; clear ha
  refine st_assign hf rfl rfl (by decide) ?_
  clear hf; intro a ha hf; clear ha
  refine st_assign hf rfl rfl (by decide) ?_
  clear hf; intro a ha hf; clear ha
  refine st_nil hf ?_
  refine th_n ?_
  refine wp_seq ?_
  refine wp_reg ?_
  obtain ⟨q47, hcall48, h⟩ := bnd h
  refine st_call hf (by decide) Try.func15 rfl rfl rfl rfl rfl (f_again_NewSender_c hp _ _ hcall48) ?_
  rintro _ w ⟨v49, rfl, hp0⟩
  clear hp; have hp := hp0; clear hp0
  replace hp : Hp _ _ _ (Res.opt pk79 v49 q47.1 :: Res.opt pk79 v45 q43.1 :: Res.opt pk79 v41 q39.1 :: Res.obj 31 v11 [.int .u8 q7.2.1.1, .int .u8 q7.2.1.2.1, .bool q7.2.1.2.2.1, .string q7.2.1.2.2.2] :: Res.sl Ek.str 9 v9 q7.1 :: Res.sl (Ek.pair (Ek.int .u8) (Ek.pair (Ek.int .u8) (Ek.pair Ek.bool Ek.str))) 31 v5 q3.1 :: ow) := hp
  refine ⟨_, rfl, ?_⟩
  clear hf; intro a hf
  refine st_move hf rfl rfl (by decide) ?_
  clear hf; intro a ha hf; clear ha
  refine st_extract hf (by decide) rfl rfl rfl ?_
  clear hf; intro a ha hf; clear ha
  refine st_extract hf (by decide) rfl rfl rfl ?_
  clear hf; intro a ha hf; clear ha
  refine st_assign hf rfl rfl (by decide) ?_
  clear hf; intro a ha hf; clear ha
  refine st_assign hf rfl rfl (by decide) ?_
  clear hf; intro a ha hf; clear ha
  refine st_nil hf ?_
  refine th_n ?_
  refine wp_seq ?_
  refine wp_reg ?_
  obtain ⟨q51, hcall52, h⟩ := bnd h
  refine st_call hf (by decide) Try.func8 rfl rfl rfl rfl rfl (f_again_NewReceiver_c hp _ hcall52) ?_
  rintro _ w ⟨v53, rfl, hp0⟩
  clear hp; have hp := hp0; clear hp0
  replace hp : Hp _ _ _ (Res.opt pk74 v53 q51.1 :: Res.opt pk79 v49 q47.1 :: Res.opt pk79 v45 q43.1 :: Res.opt pk79 v41 q39.1 :: Res.obj 31 v11 [.int .u8 q7.2.1.1, .int .u8 q7.2.1.2.1, .bool q7.2.1.2.2.1, .string q7.2.1.2.2.2] :: Res.sl Ek.str 9 v9 q7.1 :: Res.sl (Ek.pair (Ek.int .u8) (Ek.pair (Ek.int .u8) (Ek.pair Ek.bool Ek.str))) 31 v5 q3.1 :: ow) := hp
  refine ⟨_, rfl, ?_⟩
  clear hf; intro a hf
  refine st_move hf rfl rfl (by decide) ?_
  clear hf; intro a ha hf; clear ha
  refine st_extract hf (by decide) rfl rfl rfl ?_
  clear hf; intro a ha hf; clear ha
  refine st_extract hf (by decide) rfl rfl rfl ?_
  clear hf; intro a ha hf; clear ha
  refine st_assign hf rfl rfl (by decide) ?_
  clear hf; intro a ha hf; clear ha
  refine st_assign hf rfl rfl (by decide) ?_
  clear hf; intro a ha hf; clear ha
  refine st_nil hf ?_
  refine th_n ?_
  refine wp_seq ?_
  refine wp_reg ?_
  obtain ⟨q55, hcall56, h⟩ := bnd h
  refine st_call hf (by decide) Try.func8 rfl rfl rfl rfl rfl (f_again_NewReceiver_c hp _ hcall56) ?_
  rintro _ w ⟨v57, rfl, hp0⟩
  clear hp; have hp := hp0; clear hp0
  replace hp : Hp _ _ _ (Res.opt pk74 v57 q55.1 :: Res.opt pk74 v53 q51.1 :: Res.opt pk79 v49 q47.1 :: Res.opt pk79 v45 q43.1 :: Res.opt pk79 v41 q39.1 :: Res.obj 31 v11 [.int .u8 q7.2.1.1, .int .u8 q7.2.1.2.1, .bool q7.2.1.2.2.1, .string q7.2.1.2.2.2] :: Res.sl Ek.str 9 v9 q7.1 :: Res.sl (Ek.pair (Ek.int .u8) (Ek.pair (Ek.int .u8) (Ek.pair Ek.bool Ek.str))) 31 v5 q3.1 :: ow) := hp
  refine ⟨_, rfl, ?_⟩
  clear hf; intro a hf
  refine st_move hf rfl rfl (by decide) ?_
  clear hf; intro a ha hf; clear ha
  refine st_extract hf (by decide) rfl rfl rfl ?_
  clear hf; intro a ha hf; clear ha
  refine st_extract hf (by decide) rfl rfl rfl ?_
  clear hf; intro a ha hf; clear ha
  refine st_assign hf rfl rfl (by decide) ?_
  clear hf; intro a ha hf; clear ha
  refine st_assign hf rfl rfl (by decide) ?_
  clear hf; intro a ha hf; clear ha
  refine st_nil hf ?_
  refine th_n ?_
  refine wp_seq ?_
  refine wp_seq ?_
  refine wp_reg ?_
  refine st_move hf rfl rfl (by decide) ?_
  clear hf; intro a ha hf; clear ha
  refine st_ineq hf (by decide) rfl rfl rfl ?_
  clear hf; intro a ha hf; clear ha
  refine st_move hf rfl rfl (by decide) ?_
  clear hf; intro a ha hf; clear ha
  refine wpList_cut 3 (fun a w => Fr 231 a [(8, v41), (13, .int .i64 q47.2), (15, .int .i64 q51.2), (16, v57), (17, .int .i64 q55.2), (114, .bool ((q39.2 != (0 : Int)) || (q43.2 != (1 : Int))))] ∧ Hp S w0 w (Res.opt pk74 v57 q55.1 :: Res.opt pk74 v53 q51.1 :: Res.opt pk79 v49 q47.1 :: Res.opt pk79 v45 q43.1 :: Res.opt pk79 v41 q39.1 :: Res.obj 31 v11 [.int .u8 q7.2.1.1, .int .u8 q7.2.1.2.1, .bool q7.2.1.2.2.1, .string q7.2.1.2.2.2] :: Res.sl Ek.str 9 v9 q7.1 :: Res.sl (Ek.pair (Ek.int .u8) (Ek.pair (Ek.int .u8) (Ek.pair Ek.bool Ek.str))) 31 v5 q3.1 :: ow)) ?_ ?_
  · rcases Bool.eq_false_or_eq_true (q39.2 != (0 : Int)) with hb60 | hb60
    · skip
      refine st_skip hf (wantN hf rfl rfl hb60) rfl (by decide) ?_ rfl
      clear hf; intro a hf
      refine st_skip hf (wantN hf rfl rfl hb60) rfl (by decide) ?_ rfl
      clear hf; intro a hf
      refine st_pick (v := .bool true) hf rfl rfl (fun hb' => ?_) (fun hb' => ?_) (by decide) ?_
      · rfl
      · exact absurd (hb60.symm.trans hb') (by decide)
      clear hf; intro a ha hf; clear ha
      refine st_nil hf (th_n ?_)
      exact ⟨hf.sub ⟨rfl, rfl, rfl, rfl, rfl, (by rw [hb60]; rfl), trivial⟩, hp⟩
    refine st_move hf (wantY hf rfl rfl hb60) rfl (by decide) ?_
    clear hf; intro a ha hf; clear ha
    refine st_ineq hf (by decide) (wantY hf rfl rfl hb60) rfl rfl ?_
    clear hf; intro a ha hf; clear ha
    refine st_pick (v := .bool (q43.2 != (1 : Int))) hf rfl rfl (fun hb' => ?_) (fun hb' => ?_) (by decide) ?_
    · exact absurd (hb60.symm.trans hb') (by decide)
    · rfl
    clear hf; intro a ha hf; clear ha
    refine st_nil hf (th_n ?_)
    exact ⟨hf.sub ⟨rfl, rfl, rfl, rfl, rfl, (by rw [hb60]; rfl), trivial⟩, hp⟩
  rintro a w ⟨hf, hp⟩
  refine st_move hf rfl rfl (by decide) ?_
  clear hf; intro a ha hf; clear ha
  refine wpList_cut 3 (fun a w => Fr 231 a [(8, v41), (15, .int .i64 q51.2), (16, v57), (17, .int .i64 q55.2), (118, .bool (((q39.2 != (0 : Int)) || (q43.2 != (1 : Int))) || (q47.2 != (1 : Int))))] ∧ Hp S w0 w (Res.opt pk74 v57 q55.1 :: Res.opt pk74 v53 q51.1 :: Res.opt pk79 v49 q47.1 :: Res.opt pk79 v45 q43.1 :: Res.opt pk79 v41 q39.1 :: Res.obj 31 v11 [.int .u8 q7.2.1.1, .int .u8 q7.2.1.2.1, .bool q7.2.1.2.2.1, .string q7.2.1.2.2.2] :: Res.sl Ek.str 9 v9 q7.1 :: Res.sl (Ek.pair (Ek.int .u8) (Ek.pair (Ek.int .u8) (Ek.pair Ek.bool Ek.str))) 31 v5 q3.1 :: ow)) ?_ ?_
  · rcases Bool.eq_false_or_eq_true ((q39.2 != (0 : Int)) || (q43.2 != (1 : Int))) with hb62 | hb62
    · skip
      refine st_skip hf (wantN hf rfl rfl hb62) rfl (by decide) ?_ rfl
      clear hf; intro a hf
      refine st_skip hf (wantN hf rfl rfl hb62) rfl (by decide) ?_ rfl
      clear hf; intro a hf
      refine st_pick (v := .bool true) hf rfl rfl (fun hb' => ?_) (fun hb' => ?_) (by decide) ?_
      · rfl
      · exact absurd (hb62.symm.trans hb') (by decide)
      clear hf; intro a ha hf; clear ha
      refine st_nil hf (th_n ?_)
      exact ⟨hf.sub ⟨rfl, rfl, rfl, rfl, (by rw [hb62]; rfl), trivial⟩, hp⟩
    refine st_move hf (wantY hf rfl rfl hb62) rfl (by decide) ?_
    clear hf; intro a ha hf; clear ha
    refine st_ineq hf (by decide) (wantY hf rfl rfl hb62) rfl rfl ?_
    clear hf; intro a ha hf; clear ha
    refine st_pick (v := .bool (q47.2 != (1 : Int))) hf rfl rfl (fun hb' => ?_) (fun hb' => ?_) (by decide) ?_
    · exact absurd (hb62.symm.trans hb') (by decide)
    · rfl
    clear hf; intro a ha hf; clear ha
    refine st_nil hf (th_n ?_)
    exact ⟨hf.sub ⟨rfl, rfl, rfl, rfl, (by rw [hb62]; rfl), trivial⟩, hp⟩
  rintro a w ⟨hf, hp⟩
  refine st_move hf rfl rfl (by decide) ?_
  clear hf; intro a ha hf; clear ha
  refine wpList_cut 3 (fun a w => Fr 231 a [(8, v41), (16, v57), (17, .int .i64 q55.2), (122, .bool ((((q39.2 != (0 : Int)) || (q43.2 != (1 : Int))) || (q47.2 != (1 : Int))) || (q51.2 != (1 : Int))))] ∧ Hp S w0 w (Res.opt pk74 v57 q55.1 :: Res.opt pk74 v53 q51.1 :: Res.opt pk79 v49 q47.1 :: Res.opt pk79 v45 q43.1 :: Res.opt pk79 v41 q39.1 :: Res.obj 31 v11 [.int .u8 q7.2.1.1, .int .u8 q7.2.1.2.1, .bool q7.2.1.2.2.1, .string q7.2.1.2.2.2] :: Res.sl Ek.str 9 v9 q7.1 :: Res.sl (Ek.pair (Ek.int .u8) (Ek.pair (Ek.int .u8) (Ek.pair Ek.bool Ek.str))) 31 v5 q3.1 :: ow)) ?_ ?_
  · rcases Bool.eq_false_or_eq_true (((q39.2 != (0 : Int)) || (q43.2 != (1 : Int))) || (q47.2 != (1 : Int))) with hb64 | hb64
    · skip
      refine st_skip hf (wantN hf rfl rfl hb64) rfl (by decide) ?_ rfl
      clear hf; intro a hf
      refine st_skip hf (wantN hf rfl rfl hb64) rfl (by decide) ?_ rfl
      clear hf; intro a hf
      refine st_pick (v := .bool true) hf rfl rfl (fun hb' => ?_) (fun hb' => ?_) (by decide) ?_
      · rfl
      · exact absurd (hb64.symm.trans hb') (by decide)
      clear hf; intro a ha hf; clear ha
      refine st_nil hf (th_n ?_)
      exact ⟨hf.sub ⟨rfl, rfl, rfl, (by rw [hb64]; rfl), trivial⟩, hp⟩
    refine st_move hf (wantY hf rfl rfl hb64) rfl (by decide) ?_
    clear hf; intro a ha hf; clear ha
    refine st_ineq hf (by decide) (wantY hf rfl rfl hb64) rfl rfl ?_
    clear hf; intro a ha hf; clear ha
    refine st_pick (v := .bool (q51.2 != (1 : Int))) hf rfl rfl (fun hb' => ?_) (fun hb' => ?_) (by decide) ?_
    · exact absurd (hb64.symm.trans hb') (by decide)
    · rfl
    clear hf; intro a ha hf; clear ha
    refine st_nil hf (th_n ?_)
    exact ⟨hf.sub ⟨rfl, rfl, rfl, (by rw [hb64]; rfl), trivial⟩, hp⟩
  rintro a w ⟨hf, hp⟩
  refine st_move hf rfl rfl (by decide) ?_
  clear hf; intro a ha hf; clear ha
  refine wpList_cut 3 (fun a w => Fr 231 a [(8, v41), (16, v57), (126, .bool (((((q39.2 != (0 : Int)) || (q43.2 != (1 : Int))) || (q47.2 != (1 : Int))) || (q51.2 != (1 : Int))) || (q55.2 != (0 : Int))))] ∧ Hp S w0 w (Res.opt pk74 v57 q55.1 :: Res.opt pk74 v53 q51.1 :: Res.opt pk79 v49 q47.1 :: Res.opt pk79 v45 q43.1 :: Res.opt pk79 v41 q39.1 :: Res.obj 31 v11 [.int .u8 q7.2.1.1, .int .u8 q7.2.1.2.1, .bool q7.2.1.2.2.1, .string q7.2.1.2.2.2] :: Res.sl Ek.str 9 v9 q7.1 :: Res.sl (Ek.pair (Ek.int .u8) (Ek.pair (Ek.int .u8) (Ek.pair Ek.bool Ek.str))) 31 v5 q3.1 :: ow)) ?_ ?_
  · rcases Bool.eq_false_or_eq_true ((((q39.2 != (0 : Int)) || (q43.2 != (1 : Int))) || (q47.2 != (1 : Int))) || (q51.2 != (1 : Int))) with hb66 | hb66
    · skip
      refine st_skip hf (wantN hf rfl rfl hb66) rfl (by decide) ?_ rfl
      clear hf; intro a hf
      refine st_skip hf (wantN hf rfl rfl hb66) rfl (by decide) ?_ rfl
      clear hf; intro a hf
      refine st_pick (v := .bool true) hf rfl rfl (fun hb' => ?_) (fun hb' => ?_) (by decide) ?_
      · rfl
      · exact absurd (hb66.symm.trans hb') (by decide)
      clear hf; intro a ha hf; clear ha
      refine st_nil hf (th_n ?_)
      exact ⟨hf.sub ⟨rfl, rfl, (by rw [hb66]; rfl), trivial⟩, hp⟩
    refine st_move hf (wantY hf rfl rfl hb66) rfl (by decide) ?_
    clear hf; intro a ha hf; clear ha
    refine st_ineq hf (by decide) (wantY hf rfl rfl hb66) rfl rfl ?_
    clear hf; intro a ha hf; clear ha
    refine st_pick (v := .bool (q55.2 != (0 : Int))) hf rfl rfl (fun hb' => ?_) (fun hb' => ?_) (by decide) ?_
    · exact absurd (hb66.symm.trans hb') (by decide)
    · rfl
    clear hf; intro a ha hf; clear ha
    refine st_nil hf (th_n ?_)
    exact ⟨hf.sub ⟨rfl, rfl, (by rw [hb66]; rfl), trivial⟩, hp⟩
  rintro a w ⟨hf, hp⟩
  refine st_move hf rfl rfl (by decide) ?_
  clear hf; intro a ha hf; clear ha
  refine wpList_cut 3 (fun a w => Fr 231 a [(8, v41), (16, v57), (130, .bool ((((((q39.2 != (0 : Int)) || (q43.2 != (1 : Int))) || (q47.2 != (1 : Int))) || (q51.2 != (1 : Int))) || (q55.2 != (0 : Int))) || ((q39.1).isNone)))] ∧ Hp S w0 w (Res.opt pk74 v57 q55.1 :: Res.opt pk74 v53 q51.1 :: Res.opt pk79 v49 q47.1 :: Res.opt pk79 v45 q43.1 :: Res.opt pk79 v41 q39.1 :: Res.obj 31 v11 [.int .u8 q7.2.1.1, .int .u8 q7.2.1.2.1, .bool q7.2.1.2.2.1, .string q7.2.1.2.2.2] :: Res.sl Ek.str 9 v9 q7.1 :: Res.sl (Ek.pair (Ek.int .u8) (Ek.pair (Ek.int .u8) (Ek.pair Ek.bool Ek.str))) 31 v5 q3.1 :: ow)) ?_ ?_
  · rcases Bool.eq_false_or_eq_true (((((q39.2 != (0 : Int)) || (q43.2 != (1 : Int))) || (q47.2 != (1 : Int))) || (q51.2 != (1 : Int))) || (q55.2 != (0 : Int))) with hb68 | hb68
    · skip
      refine st_skip hf (wantN hf rfl rfl hb68) rfl (by decide) ?_ rfl
      clear hf; intro a hf
      refine st_skip hf (wantN hf rfl rfl hb68) rfl (by decide) ?_ rfl
      clear hf; intro a hf
      refine st_pick (v := .bool true) hf rfl rfl (fun hb' => ?_) (fun hb' => ?_) (by decide) ?_
      · rfl
      · exact absurd (hb68.symm.trans hb') (by decide)
      clear hf; intro a ha hf; clear ha
      refine st_nil hf (th_n ?_)
      exact ⟨hf.sub ⟨rfl, rfl, (by rw [hb68]; rfl), trivial⟩, hp⟩
    refine st_move hf (wantY hf rfl rfl hb68) rfl (by decide) ?_
    clear hf; intro a ha hf; clear ha
    refine st_peql hf (by decide) Try.underlying44 (wantY hf rfl rfl hb68) rfl rfl (hp.nilB (i := 4) rfl) ?_
    clear hf; intro a ha hf; clear ha
    refine st_pick (v := .bool ((q39.1).isNone)) hf rfl rfl (fun hb' => ?_) (fun hb' => ?_) (by decide) ?_
    · exact absurd (hb68.symm.trans hb') (by decide)
    · rfl
    clear hf; intro a ha hf; clear ha
    refine st_nil hf (th_n ?_)
    exact ⟨hf.sub ⟨rfl, rfl, (by rw [hb68]; rfl), trivial⟩, hp⟩
  rintro a w ⟨hf, hp⟩
  refine st_move hf rfl rfl (by decide) ?_
  clear hf; intro a ha hf; clear ha
  refine wpList_cut 3 (fun a w => Fr 231 a [(8, v41), (16, v57), (134, .bool (((((((q39.2 != (0 : Int)) || (q43.2 != (1 : Int))) || (q47.2 != (1 : Int))) || (q51.2 != (1 : Int))) || (q55.2 != (0 : Int))) || ((q39.1).isNone)) || ((q55.1).isNone)))] ∧ Hp S w0 w (Res.opt pk74 v57 q55.1 :: Res.opt pk74 v53 q51.1 :: Res.opt pk79 v49 q47.1 :: Res.opt pk79 v45 q43.1 :: Res.opt pk79 v41 q39.1 :: Res.obj 31 v11 [.int .u8 q7.2.1.1, .int .u8 q7.2.1.2.1, .bool q7.2.1.2.2.1, .string q7.2.1.2.2.2] :: Res.sl Ek.str 9 v9 q7.1 :: Res.sl (Ek.pair (Ek.int .u8) (Ek.pair (Ek.int .u8) (Ek.pair Ek.bool Ek.str))) 31 v5 q3.1 :: ow)) ?_ ?_
  · rcases Bool.eq_false_or_eq_true ((((((q39.2 != (0 : Int)) || (q43.2 != (1 : Int))) || (q47.2 != (1 : Int))) || (q51.2 != (1 : Int))) || (q55.2 != (0 : Int))) || ((q39.1).isNone)) with hb70 | hb70
    · skip
      refine st_skip hf (wantN hf rfl rfl hb70) rfl (by decide) ?_ rfl
      clear hf; intro a hf
      refine st_skip hf (wantN hf rfl rfl hb70) rfl (by decide) ?_ rfl
      clear hf; intro a hf
      refine st_pick (v := .bool true) hf rfl rfl (fun hb' => ?_) (fun hb' => ?_) (by decide) ?_
      · rfl
      · exact absurd (hb70.symm.trans hb') (by decide)
      clear hf; intro a ha hf; clear ha
      refine st_nil hf (th_n ?_)
      exact ⟨hf.sub ⟨rfl, rfl, (by rw [hb70]; rfl), trivial⟩, hp⟩
    refine st_move hf (wantY hf rfl rfl hb70) rfl (by decide) ?_
    clear hf; intro a ha hf; clear ha
    refine st_peql hf (by decide) Try.underlying23 (wantY hf rfl rfl hb70) rfl rfl (hp.nilB (i := 0) rfl) ?_
    clear hf; intro a ha hf; clear ha
    refine st_pick (v := .bool ((q55.1).isNone)) hf rfl rfl (fun hb' => ?_) (fun hb' => ?_) (by decide) ?_
    · exact absurd (hb70.symm.trans hb') (by decide)
    · rfl
    clear hf; intro a ha hf; clear ha
    refine st_nil hf (th_n ?_)
    exact ⟨hf.sub ⟨rfl, rfl, (by rw [hb70]; rfl), trivial⟩, hp⟩
  rintro a w ⟨hf, hp⟩
  refine st_nil hf ?_
  refine th_n ?_
  refine wp_if hf rfl (fun hb => ?_) (fun hb => ?_)
  · replace h := ifT h hb
    refine wp_seq ?_
    refine wp_reg ?_
    refine st_assign hf rfl rfl (by decide) ?_
    clear hf; intro a ha hf; clear ha
    refine st_nil hf ?_
    refine th_n ?_
    refine wp_ret ?_
    refine th_r ?_
    obtain rfl := Option.some.inj h
    have hp : Hp _ _ _ (ow) := Hp.sel (pre := [Res.opt pk74 v57 q55.1, Res.opt pk74 v53 q51.1, Res.opt pk79 v49 q47.1, Res.opt pk79 v45 q43.1, Res.opt pk79 v41 q39.1, Res.obj 31 v11 [.int .u8 q7.2.1.1, .int .u8 q7.2.1.2.1, .bool q7.2.1.2.2.1, .string q7.2.1.2.2.2], Res.sl Ek.str 9 v9 q7.1, Res.sl (Ek.pair (Ek.int .u8) (Ek.pair (Ek.int .u8) (Ek.pair Ek.bool Ek.str))) 31 v5 q3.1]) (tail := ow) (rs' := []) hp [] (by decide) (by simp) rfl
    exact ⟨rfl, ⟨hf.sub ⟨rfl, trivial⟩, hp⟩⟩
  replace h := ifF h hb
  refine wp_skip ?_
  refine th_n ?_
  refine wp_seq ?_
  refine wp_reg ?_
  obtain ⟨hc71, h⟩ := chk h
  refine st_make (E := (Ek.int .u8)) hf (by decide) elt5 Try.underlying61 (by decide) hp rfl rfl rfl hc71.1 hc71.2.1 hc71.2.2 ?_
  clear hf; intro a w v72 hf hp0; clear hp; have hp := hp0; clear hp0
  rw [← mk0_eq] at hp
  replace hp : Hp _ _ _ (Res.sl (Ek.int .u8) 5 v72 (mk0 (241 : Int) (0 : Int)) :: Res.opt pk74 v57 q55.1 :: Res.opt pk74 v53 q51.1 :: Res.opt pk79 v49 q47.1 :: Res.opt pk79 v45 q43.1 :: Res.opt pk79 v41 q39.1 :: Res.obj 31 v11 [.int .u8 q7.2.1.1, .int .u8 q7.2.1.2.1, .bool q7.2.1.2.2.1, .string q7.2.1.2.2.2] :: Res.sl Ek.str 9 v9 q7.1 :: Res.sl (Ek.pair (Ek.int .u8) (Ek.pair (Ek.int .u8) (Ek.pair Ek.bool Ek.str))) 31 v5 q3.1 :: ow) := hp
  refine st_convBS hf (by decide) Try.underlying61 Try.underlying5 Try.underlying9 rfl rfl (hp.sl (i := 0) rfl) ?_
  clear hf; intro a ha hf; clear ha
  refine st_assign hf rfl rfl (by decide) ?_
  clear hf; intro a ha hf; clear ha
  refine st_nil hf ?_
  refine th_n ?_
  refine wp_seq ?_
  refine wp_seq ?_
  refine wp_reg ?_
  refine st_move hf rfl rfl (by decide) ?_
  clear hf; intro a ha hf; clear ha
  refine st_move hf rfl rfl (by decide) ?_
  clear hf; intro a ha hf; clear ha
  obtain ⟨s74, hs75, h⟩ := bnd h
  have hp : Hp _ _ _ (Res.opt pk79 v41 q39.1 :: Res.sl (Ek.int .u8) 5 v72 (mk0 (241 : Int) (0 : Int)) :: Res.opt pk74 v57 q55.1 :: Res.opt pk74 v53 q51.1 :: Res.opt pk79 v49 q47.1 :: Res.opt pk79 v45 q43.1 :: Res.obj 31 v11 [.int .u8 q7.2.1.1, .int .u8 q7.2.1.2.1, .bool q7.2.1.2.2.1, .string q7.2.1.2.2.2] :: Res.sl Ek.str 9 v9 q7.1 :: Res.sl (Ek.pair (Ek.int .u8) (Ek.pair (Ek.int .u8) (Ek.pair Ek.bool Ek.str))) 31 v5 q3.1 :: ow) := Hp.sel (pre := [Res.sl (Ek.int .u8) 5 v72 (mk0 (241 : Int) (0 : Int)), Res.opt pk74 v57 q55.1, Res.opt pk74 v53 q51.1, Res.opt pk79 v49 q47.1, Res.opt pk79 v45 q43.1, Res.opt pk79 v41 q39.1, Res.obj 31 v11 [.int .u8 q7.2.1.1, .int .u8 q7.2.1.2.1, .bool q7.2.1.2.2.1, .string q7.2.1.2.2.2], Res.sl Ek.str 9 v9 q7.1, Res.sl (Ek.pair (Ek.int .u8) (Ek.pair (Ek.int .u8) (Ek.pair Ek.bool Ek.str))) 31 v5 q3.1]) (tail := ow) (rs' := [Res.opt pk79 v41 q39.1, Res.sl (Ek.int .u8) 5 v72 (mk0 (241 : Int) (0 : Int)), Res.opt pk74 v57 q55.1, Res.opt pk74 v53 q51.1, Res.opt pk79 v49 q47.1, Res.opt pk79 v45 q43.1, Res.obj 31 v11 [.int .u8 q7.2.1.1, .int .u8 q7.2.1.2.1, .bool q7.2.1.2.2.1, .string q7.2.1.2.2.2], Res.sl Ek.str 9 v9 q7.1, Res.sl (Ek.pair (Ek.int .u8) (Ek.pair (Ek.int .u8) (Ek.pair Ek.bool Ek.str))) 31 v5 q3.1]) hp [5, 0, 1, 2, 3, 4, 6, 7, 8] (by decide) (by simp) rfl
  replace hp : Hp _ _ _ (pk79.R v41 s74 :: Res.sl (Ek.int .u8) 5 v72 (mk0 (241 : Int) (0 : Int)) :: Res.opt pk74 v57 q55.1 :: Res.opt pk74 v53 q51.1 :: Res.opt pk79 v49 q47.1 :: Res.opt pk79 v45 q43.1 :: Res.obj 31 v11 [.int .u8 q7.2.1.1, .int .u8 q7.2.1.2.1, .bool q7.2.1.2.2.1, .string q7.2.1.2.2.2] :: Res.sl Ek.str 9 v9 q7.1 :: Res.sl (Ek.pair (Ek.int .u8) (Ek.pair (Ek.int .u8) (Ek.pair Ek.bool Ek.str))) 31 v5 q3.1 :: ow) := hp.optSome hs75
  obtain ⟨v76, hp⟩ := pk79_in hp
  replace hp : Hp _ _ _ (Res.obj 79 v41 [.int .i64 s74.1, .int .i64 s74.2.1, .int .i64 s74.2.2.1, .int .i64 s74.2.2.2.1, v76] :: Res.sl (Ek.pair Ek.str (Ek.pair Ek.bool (Ek.pair (Ek.int .i64) Ek.bool))) 81 v76 s74.2.2.2.2 :: Res.sl (Ek.int .u8) 5 v72 (mk0 (241 : Int) (0 : Int)) :: Res.opt pk74 v57 q55.1 :: Res.opt pk74 v53 q51.1 :: Res.opt pk79 v49 q47.1 :: Res.opt pk79 v45 q43.1 :: Res.obj 31 v11 [.int .u8 q7.2.1.1, .int .u8 q7.2.1.2.1, .bool q7.2.1.2.2.1, .string q7.2.1.2.2.2] :: Res.sl Ek.str 9 v9 q7.1 :: Res.sl (Ek.pair (Ek.int .u8) (Ek.pair (Ek.int .u8) (Ek.pair Ek.bool Ek.str))) 31 v5 q3.1 :: ow) := hp
  obtain ⟨q78, hcall79, h⟩ := bnd h
  have hp80 : Hp _ _ _ (Res.sl (Ek.pair Ek.str (Ek.pair Ek.bool (Ek.pair (Ek.int .i64) Ek.bool))) 81 v76 s74.2.2.2.2 :: Res.obj 79 v41 [.int .i64 s74.1, .int .i64 s74.2.1, .int .i64 s74.2.2.1, .int .i64 s74.2.2.2.1, v76] :: Res.sl (Ek.int .u8) 5 v72 (mk0 (241 : Int) (0 : Int)) :: Res.opt pk74 v57 q55.1 :: Res.opt pk74 v53 q51.1 :: Res.opt pk79 v49 q47.1 :: Res.opt pk79 v45 q43.1 :: Res.obj 31 v11 [.int .u8 q7.2.1.1, .int .u8 q7.2.1.2.1, .bool q7.2.1.2.2.1, .string q7.2.1.2.2.2] :: Res.sl Ek.str 9 v9 q7.1 :: Res.sl (Ek.pair (Ek.int .u8) (Ek.pair (Ek.int .u8) (Ek.pair Ek.bool Ek.str))) 31 v5 q3.1 :: ow) := Hp.sel (pre := [Res.obj 79 v41 [.int .i64 s74.1, .int .i64 s74.2.1, .int .i64 s74.2.2.1, .int .i64 s74.2.2.2.1, v76], Res.sl (Ek.pair Ek.str (Ek.pair Ek.bool (Ek.pair (Ek.int .i64) Ek.bool))) 81 v76 s74.2.2.2.2, Res.sl (Ek.int .u8) 5 v72 (mk0 (241 : Int) (0 : Int)), Res.opt pk74 v57 q55.1, Res.opt pk74 v53 q51.1, Res.opt pk79 v49 q47.1, Res.opt pk79 v45 q43.1, Res.obj 31 v11 [.int .u8 q7.2.1.1, .int .u8 q7.2.1.2.1, .bool q7.2.1.2.2.1, .string q7.2.1.2.2.2], Res.sl Ek.str 9 v9 q7.1, Res.sl (Ek.pair (Ek.int .u8) (Ek.pair (Ek.int .u8) (Ek.pair Ek.bool Ek.str))) 31 v5 q3.1]) (tail := ow) (rs' := [Res.sl (Ek.pair Ek.str (Ek.pair Ek.bool (Ek.pair (Ek.int .i64) Ek.bool))) 81 v76 s74.2.2.2.2, Res.obj 79 v41 [.int .i64 s74.1, .int .i64 s74.2.1, .int .i64 s74.2.2.1, .int .i64 s74.2.2.2.1, v76], Res.sl (Ek.int .u8) 5 v72 (mk0 (241 : Int) (0 : Int)), Res.opt pk74 v57 q55.1, Res.opt pk74 v53 q51.1, Res.opt pk79 v49 q47.1, Res.opt pk79 v45 q43.1, Res.obj 31 v11 [.int .u8 q7.2.1.1, .int .u8 q7.2.1.2.1, .bool q7.2.1.2.2.1, .string q7.2.1.2.2.2], Res.sl Ek.str 9 v9 q7.1, Res.sl (Ek.pair (Ek.int .u8) (Ek.pair (Ek.int .u8) (Ek.pair Ek.bool Ek.str))) 31 v5 q3.1]) hp [1, 0, 2, 3, 4, 5, 6, 7, 8, 9] (by decide) (by simp) rfl
  refine st_call hf (by decide) Try.func17 rfl rfl rfl rfl rfl (f_again_Sender_Offer_c _ _ _ _ _ _ _ _ hp80 hcall79) ?_
  rintro _ w ⟨v81, rfl, hp0⟩
  clear hp; have hp := hp0; clear hp0
  replace hp : Hp _ _ _ (Res.sl (Ek.pair Ek.str (Ek.pair Ek.bool (Ek.pair (Ek.int .i64) Ek.bool))) 81 v81 q78.2.2.2.2.2 :: Res.obj 79 v41 [.int .i64 q78.2.1, .int .i64 q78.2.2.1, .int .i64 q78.2.2.2.1, .int .i64 q78.2.2.2.2.1, v81] :: Res.sl (Ek.int .u8) 5 v72 (mk0 (241 : Int) (0 : Int)) :: Res.opt pk74 v57 q55.1 :: Res.opt pk74 v53 q51.1 :: Res.opt pk79 v49 q47.1 :: Res.opt pk79 v45 q43.1 :: Res.obj 31 v11 [.int .u8 q7.2.1.1, .int .u8 q7.2.1.2.1, .bool q7.2.1.2.2.1, .string q7.2.1.2.2.2] :: Res.sl Ek.str 9 v9 q7.1 :: Res.sl (Ek.pair (Ek.int .u8) (Ek.pair (Ek.int .u8) (Ek.pair Ek.bool Ek.str))) 31 v5 q3.1 :: ow) := hp
  refine ⟨_, rfl, ?_⟩
  clear hf; intro a hf
  refine st_ineq hf (by decide) rfl rfl rfl ?_
  clear hf; intro a ha hf; clear ha
  refine st_move hf rfl rfl (by decide) ?_
  clear hf; intro a ha hf; clear ha
  obtain ⟨z88, hz83, h⟩ := bnd h
  refine wpList_cut 6 (fun a w => ∃ (v85 : Value), Fr 231 a [(8, v41), (16, v57), (18, .string (bstr (mk0 (241 : Int) (0 : Int)))), (147, .bool z88.1)] ∧ Hp S w0 w (Res.sl (Ek.pair Ek.str (Ek.pair Ek.bool (Ek.pair (Ek.int .i64) Ek.bool))) 81 v85 z88.2.2.2.2.2 :: Res.obj 79 v41 [.int .i64 z88.2.1, .int .i64 z88.2.2.1, .int .i64 z88.2.2.2.1, .int .i64 z88.2.2.2.2.1, v85] :: Res.opt pk74 v57 q55.1 :: ow)) ?_ ?_
  · rcases Bool.eq_false_or_eq_true (q78.1 != (1 : Int)) with hb84 | hb84
    · skip
      replace hz83 := ifT hz83 hb84
      refine st_skip hf (wantN hf rfl rfl hb84) rfl (by decide) ?_ rfl
      clear hf; intro a hf
      refine st_skip hf (wantN hf rfl rfl hb84) rfl (by decide) ?_ rfl
      clear hf; intro a hf
      refine st_skip hf (wantN hf rfl rfl hb84) rfl (by decide) ?_ rfl
      clear hf; intro a hf
      refine st_skip hf (wantN hf rfl rfl hb84) rfl (by decide) ?_ rfl
      clear hf; intro a hf
      refine st_skip hf (wantN hf rfl rfl hb84) rfl (by decide) ?_ rfl
      clear hf; intro a hf
      obtain rfl := Option.some.inj hz83
      have hp : Hp _ _ _ (Res.sl (Ek.pair Ek.str (Ek.pair Ek.bool (Ek.pair (Ek.int .i64) Ek.bool))) 81 v81 q78.2.2.2.2.2 :: Res.obj 79 v41 [.int .i64 q78.2.1, .int .i64 q78.2.2.1, .int .i64 q78.2.2.2.1, .int .i64 q78.2.2.2.2.1, v81] :: Res.opt pk74 v57 q55.1 :: ow) := Hp.sel (pre := [Res.sl (Ek.pair Ek.str (Ek.pair Ek.bool (Ek.pair (Ek.int .i64) Ek.bool))) 81 v81 q78.2.2.2.2.2, Res.obj 79 v41 [.int .i64 q78.2.1, .int .i64 q78.2.2.1, .int .i64 q78.2.2.2.1, .int .i64 q78.2.2.2.2.1, v81], Res.sl (Ek.int .u8) 5 v72 (mk0 (241 : Int) (0 : Int)), Res.opt pk74 v57 q55.1, Res.opt pk74 v53 q51.1, Res.opt pk79 v49 q47.1, Res.opt pk79 v45 q43.1, Res.obj 31 v11 [.int .u8 q7.2.1.1, .int .u8 q7.2.1.2.1, .bool q7.2.1.2.2.1, .string q7.2.1.2.2.2], Res.sl Ek.str 9 v9 q7.1, Res.sl (Ek.pair (Ek.int .u8) (Ek.pair (Ek.int .u8) (Ek.pair Ek.bool Ek.str))) 31 v5 q3.1]) (tail := ow) (rs' := [Res.sl (Ek.pair Ek.str (Ek.pair Ek.bool (Ek.pair (Ek.int .i64) Ek.bool))) 81 v81 q78.2.2.2.2.2, Res.obj 79 v41 [.int .i64 q78.2.1, .int .i64 q78.2.2.1, .int .i64 q78.2.2.2.1, .int .i64 q78.2.2.2.2.1, v81], Res.opt pk74 v57 q55.1]) hp [0, 1, 3] (by decide) (by simp) rfl
      refine st_pick (v := .bool true) hf rfl rfl (fun hb' => ?_) (fun hb' => ?_) (by decide) ?_
      · rfl
      · exact absurd (hb84.symm.trans hb') (by decide)
      clear hf; intro a ha hf; clear ha
      refine st_nil hf (th_n ?_)
      exact ⟨_, hf.sub ⟨rfl, rfl, rfl, rfl, trivial⟩, hp⟩
    replace hz83 := ifF hz83 hb84
    refine st_move hf (wantY hf rfl rfl hb84) rfl (by decide) ?_
    clear hf; intro a ha hf; clear ha
    refine st_move hf (wantY hf rfl rfl hb84) rfl (by decide) ?_
    clear hf; intro a ha hf; clear ha
    obtain ⟨hc89, hz83⟩ := chk hz83
    refine st_strH hf (by decide) Try.underlying9 (wantY hf rfl rfl hb84) rfl rfl hc89 ?_
    clear hf; intro a ha hf; clear ha
    obtain ⟨q90, hcall91, hz83⟩ := bnd hz83
    have hp92 : Hp _ _ _ (Res.sl (Ek.pair Ek.str (Ek.pair Ek.bool (Ek.pair (Ek.int .i64) Ek.bool))) 81 v81 q78.2.2.2.2.2 :: Res.obj 79 v41 [.int .i64 q78.2.1, .int .i64 q78.2.2.1, .int .i64 q78.2.2.2.1, .int .i64 q78.2.2.2.2.1, v81] :: Res.sl (Ek.int .u8) 5 v72 (mk0 (241 : Int) (0 : Int)) :: Res.opt pk74 v57 q55.1 :: Res.opt pk74 v53 q51.1 :: Res.opt pk79 v49 q47.1 :: Res.opt pk79 v45 q43.1 :: Res.obj 31 v11 [.int .u8 q7.2.1.1, .int .u8 q7.2.1.2.1, .bool q7.2.1.2.2.1, .string q7.2.1.2.2.2] :: Res.sl Ek.str 9 v9 q7.1 :: Res.sl (Ek.pair (Ek.int .u8) (Ek.pair (Ek.int .u8) (Ek.pair Ek.bool Ek.str))) 31 v5 q3.1 :: ow) := Hp.sel (pre := [Res.sl (Ek.pair Ek.str (Ek.pair Ek.bool (Ek.pair (Ek.int .i64) Ek.bool))) 81 v81 q78.2.2.2.2.2, Res.obj 79 v41 [.int .i64 q78.2.1, .int .i64 q78.2.2.1, .int .i64 q78.2.2.2.1, .int .i64 q78.2.2.2.2.1, v81], Res.sl (Ek.int .u8) 5 v72 (mk0 (241 : Int) (0 : Int)), Res.opt pk74 v57 q55.1, Res.opt pk74 v53 q51.1, Res.opt pk79 v49 q47.1, Res.opt pk79 v45 q43.1, Res.obj 31 v11 [.int .u8 q7.2.1.1, .int .u8 q7.2.1.2.1, .bool q7.2.1.2.2.1, .string q7.2.1.2.2.2], Res.sl Ek.str 9 v9 q7.1, Res.sl (Ek.pair (Ek.int .u8) (Ek.pair (Ek.int .u8) (Ek.pair Ek.bool Ek.str))) 31 v5 q3.1]) (tail := ow) (rs' := [Res.sl (Ek.pair Ek.str (Ek.pair Ek.bool (Ek.pair (Ek.int .i64) Ek.bool))) 81 v81 q78.2.2.2.2.2, Res.obj 79 v41 [.int .i64 q78.2.1, .int .i64 q78.2.2.1, .int .i64 q78.2.2.2.1, .int .i64 q78.2.2.2.2.1, v81], Res.sl (Ek.int .u8) 5 v72 (mk0 (241 : Int) (0 : Int)), Res.opt pk74 v57 q55.1, Res.opt pk74 v53 q51.1, Res.opt pk79 v49 q47.1, Res.opt pk79 v45 q43.1, Res.obj 31 v11 [.int .u8 q7.2.1.1, .int .u8 q7.2.1.2.1, .bool q7.2.1.2.2.1, .string q7.2.1.2.2.2], Res.sl Ek.str 9 v9 q7.1, Res.sl (Ek.pair (Ek.int .u8) (Ek.pair (Ek.int .u8) (Ek.pair Ek.bool Ek.str))) 31 v5 q3.1]) hp [0, 1, 2, 3, 4, 5, 6, 7, 8, 9] (by decide) (by simp) rfl
    refine st_call hf (by decide) Try.func17 rfl rfl (wantY hf rfl rfl hb84) rfl rfl (f_again_Sender_Offer_c _ _ _ _ _ _ _ _ hp92 hcall91) ?_
    rintro _ w ⟨v93, rfl, hp0⟩
    clear hp; have hp := hp0; clear hp0
    replace hp : Hp _ _ _ (Res.sl (Ek.pair Ek.str (Ek.pair Ek.bool (Ek.pair (Ek.int .i64) Ek.bool))) 81 v93 q90.2.2.2.2.2 :: Res.obj 79 v41 [.int .i64 q90.2.1, .int .i64 q90.2.2.1, .int .i64 q90.2.2.2.1, .int .i64 q90.2.2.2.2.1, v93] :: Res.sl (Ek.int .u8) 5 v72 (mk0 (241 : Int) (0 : Int)) :: Res.opt pk74 v57 q55.1 :: Res.opt pk74 v53 q51.1 :: Res.opt pk79 v49 q47.1 :: Res.opt pk79 v45 q43.1 :: Res.obj 31 v11 [.int .u8 q7.2.1.1, .int .u8 q7.2.1.2.1, .bool q7.2.1.2.2.1, .string q7.2.1.2.2.2] :: Res.sl Ek.str 9 v9 q7.1 :: Res.sl (Ek.pair (Ek.int .u8) (Ek.pair (Ek.int .u8) (Ek.pair Ek.bool Ek.str))) 31 v5 q3.1 :: ow) := hp
    refine ⟨_, rfl, ?_⟩
    clear hf; intro a hf
    refine st_ineq hf (by decide) (wantY hf rfl rfl hb84) rfl rfl ?_
    clear hf; intro a ha hf; clear ha
    obtain rfl := Option.some.inj hz83
    have hp : Hp _ _ _ (Res.sl (Ek.pair Ek.str (Ek.pair Ek.bool (Ek.pair (Ek.int .i64) Ek.bool))) 81 v93 q90.2.2.2.2.2 :: Res.obj 79 v41 [.int .i64 q90.2.1, .int .i64 q90.2.2.1, .int .i64 q90.2.2.2.1, .int .i64 q90.2.2.2.2.1, v93] :: Res.opt pk74 v57 q55.1 :: ow) := Hp.sel (pre := [Res.sl (Ek.pair Ek.str (Ek.pair Ek.bool (Ek.pair (Ek.int .i64) Ek.bool))) 81 v93 q90.2.2.2.2.2, Res.obj 79 v41 [.int .i64 q90.2.1, .int .i64 q90.2.2.1, .int .i64 q90.2.2.2.1, .int .i64 q90.2.2.2.2.1, v93], Res.sl (Ek.int .u8) 5 v72 (mk0 (241 : Int) (0 : Int)), Res.opt pk74 v57 q55.1, Res.opt pk74 v53 q51.1, Res.opt pk79 v49 q47.1, Res.opt pk79 v45 q43.1, Res.obj 31 v11 [.int .u8 q7.2.1.1, .int .u8 q7.2.1.2.1, .bool q7.2.1.2.2.1, .string q7.2.1.2.2.2], Res.sl Ek.str 9 v9 q7.1, Res.sl (Ek.pair (Ek.int .u8) (Ek.pair (Ek.int .u8) (Ek.pair Ek.bool Ek.str))) 31 v5 q3.1]) (tail := ow) (rs' := [Res.sl (Ek.pair Ek.str (Ek.pair Ek.bool (Ek.pair (Ek.int .i64) Ek.bool))) 81 v93 q90.2.2.2.2.2, Res.obj 79 v41 [.int .i64 q90.2.1, .int .i64 q90.2.2.1, .int .i64 q90.2.2.2.1, .int .i64 q90.2.2.2.2.1, v93], Res.opt pk74 v57 q55.1]) hp [0, 1, 3] (by decide) (by simp) rfl
    refine st_pick (v := .bool (q90.1 != (0 : Int))) hf rfl rfl (fun hb' => ?_) (fun hb' => ?_) (by decide) ?_
    · exact absurd (hb84.symm.trans hb') (by decide)
    · rfl
    clear hf; intro a ha hf; clear ha
    refine st_nil hf (th_n ?_)
    exact ⟨_, hf.sub ⟨rfl, rfl, rfl, rfl, trivial⟩, hp⟩
  rintro a w ⟨v85, hf, hp⟩
  refine st_nil hf ?_
  refine th_n ?_
  refine wp_if hf rfl (fun hb => ?_) (fun hb => ?_)
  · replace h := ifT h hb
    refine wp_seq ?_
    refine wp_reg ?_
    refine st_assign hf rfl rfl (by decide) ?_
    clear hf; intro a ha hf; clear ha
    refine st_nil hf ?_
    refine th_n ?_
    refine wp_ret ?_
    refine th_r ?_
    obtain rfl := Option.some.inj h
    have hp : Hp _ _ _ (ow) := Hp.sel (pre := [Res.sl (Ek.pair Ek.str (Ek.pair Ek.bool (Ek.pair (Ek.int .i64) Ek.bool))) 81 v85 z88.2.2.2.2.2, Res.obj 79 v41 [.int .i64 z88.2.1, .int .i64 z88.2.2.1, .int .i64 z88.2.2.2.1, .int .i64 z88.2.2.2.2.1, v85], Res.opt pk74 v57 q55.1]) (tail := ow) (rs' := []) hp [] (by decide) (by simp) rfl
    exact ⟨rfl, ⟨hf.sub ⟨rfl, trivial⟩, hp⟩⟩
  replace h := ifF h hb
  refine wp_skip ?_
  refine th_n ?_
  refine wp_seq ?_
  refine wp_seq ?_
  refine wp_reg ?_
  refine st_assign hf rfl rfl (by decide) ?_
  clear hf; intro a ha hf; clear ha
  refine st_nil hf ?_
  refine th_n ?_
  refine wp_block ?_
  obtain ⟨q106, hl, h⟩ := bnd h
  refine wp_loop_pure (f := f_foghornlaw28_AgainNames.s1) (s := (z88.2.1, z88.2.2.1, z88.2.2.2.1, z88.2.2.2.2.1, z88.2.2.2.2.2, (1 : Int))) (fun s a w => ∃ (v95 : Value), Fr 231 a [(8, v41), (16, v57), (18, .string (bstr (mk0 (241 : Int) (0 : Int)))), (19, .int .i64 s.2.2.2.2.2)] ∧ Hp S w0 w (Res.sl (Ek.pair Ek.str (Ek.pair Ek.bool (Ek.pair (Ek.int .i64) Ek.bool))) 81 v95 s.2.2.2.2.1 :: Res.obj 79 v41 [.int .i64 s.1, .int .i64 s.2.1, .int .i64 s.2.2.1, .int .i64 s.2.2.2.1, v95] :: Res.opt pk74 v57 q55.1 :: ow)) (fun q e a w => match q with | (Sum.inl q) => e = .exit 0 ∧ ∃ (v98 : Value), Fr 231 a [(8, v41), (16, v57), (18, .string (bstr (mk0 (241 : Int) (0 : Int))))] ∧ Hp S w0 w (Res.sl (Ek.pair Ek.str (Ek.pair Ek.bool (Ek.pair (Ek.int .i64) Ek.bool))) 81 v98 q.2.2.2.2 :: Res.obj 79 v41 [.int .i64 q.1, .int .i64 q.2.1, .int .i64 q.2.2.1, .int .i64 q.2.2.2.1, v98] :: Res.opt pk74 v57 q55.1 :: ow) | (Sum.inr q) => e = .ret ∧ Fr 231 a [(0, .bool q)] ∧ Hp S w0 w (ow)) ?_ hl ⟨_, hf.sub ⟨rfl, rfl, rfl, rfl, trivial⟩, hp⟩ ?_
  · clear hl hf hp
    intro s x a w h hI
    obtain ⟨xx8c_0, xx8c_1, xx8c_2, xx8c_3, xx8c_4, k19⟩ := s
    obtain ⟨v95, hf, hp⟩ : ∃ (v95 : Value), Fr 231 a [(8, v41), (16, v57), (18, .string (bstr (mk0 (241 : Int) (0 : Int)))), (19, .int .i64 k19)] ∧ Hp S w0 w (Res.sl (Ek.pair Ek.str (Ek.pair Ek.bool (Ek.pair (Ek.int .i64) Ek.bool))) 81 v95 xx8c_4 :: Res.obj 79 v41 [.int .i64 xx8c_0, .int .i64 xx8c_1, .int .i64 xx8c_2, .int .i64 xx8c_3, v95] :: Res.opt pk74 v57 q55.1 :: ow) := hI
    replace h : f_foghornlaw28_AgainNames.s1c xx8c_0 xx8c_1 xx8c_2 xx8c_3 xx8c_4 k19 = some x := h
    unfold f_foghornlaw28_AgainNames.s1c at h
    refine wp_seq ?_
    refine wp_seq ?_
    refine wp_reg ?_
    refine st_move hf rfl rfl (by decide) ?_
    clear hf; intro a ha hf; clear ha
    refine st_ilss hf (by decide) rfl rfl rfl ?_
    clear hf; intro a ha hf; clear ha
    refine st_nil hf ?_
    refine th_n ?_
    refine wp_if hf rfl (fun hb => ?_) (fun hb => ?_)
    · replace h := ifT h hb
      refine wp_skip ?_
      refine th_n ?_
      refine wp_seq ?_
      refine wp_block ?_
      refine wp_seq ?_
      refine wp_reg ?_
      refine st_move hf rfl rfl (by decide) ?_
      clear hf; intro a ha hf; clear ha
      obtain ⟨q101, hcall102, h⟩ := bnd h
      have hp103 : Hp _ _ _ (Res.sl (Ek.pair Ek.str (Ek.pair Ek.bool (Ek.pair (Ek.int .i64) Ek.bool))) 81 v95 xx8c_4 :: Res.obj 79 v41 [.int .i64 xx8c_0, .int .i64 xx8c_1, .int .i64 xx8c_2, .int .i64 xx8c_3, v95] :: Res.opt pk74 v57 q55.1 :: ow) := Hp.sel (pre := [Res.sl (Ek.pair Ek.str (Ek.pair Ek.bool (Ek.pair (Ek.int .i64) Ek.bool))) 81 v95 xx8c_4, Res.obj 79 v41 [.int .i64 xx8c_0, .int .i64 xx8c_1, .int .i64 xx8c_2, .int .i64 xx8c_3, v95], Res.opt pk74 v57 q55.1]) (tail := ow) (rs' := [Res.sl (Ek.pair Ek.str (Ek.pair Ek.bool (Ek.pair (Ek.int .i64) Ek.bool))) 81 v95 xx8c_4, Res.obj 79 v41 [.int .i64 xx8c_0, .int .i64 xx8c_1, .int .i64 xx8c_2, .int .i64 xx8c_3, v95], Res.opt pk74 v57 q55.1]) hp [0, 1, 2] (by decide) (by simp) rfl
      refine st_call hf (by decide) Try.func17 rfl rfl rfl rfl rfl (f_again_Sender_Offer_c _ _ _ _ _ _ _ _ hp103 hcall102) ?_
      rintro _ w ⟨v104, rfl, hp0⟩
      clear hp; have hp := hp0; clear hp0
      replace hp : Hp _ _ _ (Res.sl (Ek.pair Ek.str (Ek.pair Ek.bool (Ek.pair (Ek.int .i64) Ek.bool))) 81 v104 q101.2.2.2.2.2 :: Res.obj 79 v41 [.int .i64 q101.2.1, .int .i64 q101.2.2.1, .int .i64 q101.2.2.2.1, .int .i64 q101.2.2.2.2.1, v104] :: Res.opt pk74 v57 q55.1 :: ow) := hp
      refine ⟨_, rfl, ?_⟩
      clear hf; intro a hf
      refine st_ineq hf (by decide) rfl rfl rfl ?_
      clear hf; intro a ha hf; clear ha
      refine st_nil hf ?_
      refine th_n ?_
      refine wp_if hf rfl (fun hb => ?_) (fun hb => ?_)
      · replace h := ifT h hb
        refine wp_seq ?_
        refine wp_reg ?_
        refine st_assign hf rfl rfl (by decide) ?_
        clear hf; intro a ha hf; clear ha
        refine st_nil hf ?_
        refine th_n ?_
        refine wp_ret ?_
        refine ib_r ?_
        refine th_r ?_
        obtain rfl := Option.some.inj h
        have hp : Hp _ _ _ (ow) := Hp.sel (pre := [Res.sl (Ek.pair Ek.str (Ek.pair Ek.bool (Ek.pair (Ek.int .i64) Ek.bool))) 81 v104 q101.2.2.2.2.2, Res.obj 79 v41 [.int .i64 q101.2.1, .int .i64 q101.2.2.1, .int .i64 q101.2.2.2.1, .int .i64 q101.2.2.2.2.1, v104], Res.opt pk74 v57 q55.1]) (tail := ow) (rs' := []) hp [] (by decide) (by simp) rfl
        exact rnd_r (by simp) ⟨rfl, ⟨hf.sub ⟨rfl, trivial⟩, hp⟩⟩
      replace h := ifF h hb
      refine wp_skip ?_
      refine ib_n ?_
      refine th_n ?_
      refine wp_reg ?_
      refine st_move hf rfl rfl (by decide) ?_
      clear hf; intro a ha hf; clear ha
      refine st_iadd hf (by decide) rfl rfl rfl ?_
      clear hf; intro a ha hf; clear ha
      refine st_assign hf rfl rfl (by decide) ?_
      clear hf; intro a ha hf; clear ha
      refine st_nil hf ?_
      obtain rfl := Option.some.inj h
      exact rnd_l ⟨_, hf.sub ⟨rfl, rfl, rfl, rfl, trivial⟩, hp⟩
    replace h := ifF h hb
    refine wp_exit ?_
    refine th_e ?_
    obtain rfl := Option.some.inj h
    exact rnd_r (by simp) ⟨rfl, _, hf.sub ⟨rfl, rfl, rfl, trivial⟩, hp⟩
  clear hl hf hp
  intro e a w hne hO
  rcases q106 with q107 | q108
  · replace h := smL h
    obtain ⟨rfl, v98, hf, hp⟩ := hO
    refine ib_same ?_
    refine th_n ?_
    refine wp_seq ?_
    refine wp_reg ?_
    refine st_move hf rfl rfl (by decide) ?_
    clear hf; intro a ha hf; clear ha
    obtain ⟨q109, hcall110, h⟩ := bnd h
    have hp111 : Hp _ _ _ (Res.sl (Ek.pair Ek.str (Ek.pair Ek.bool (Ek.pair (Ek.int .i64) Ek.bool))) 81 v98 q107.2.2.2.2 :: Res.obj 79 v41 [.int .i64 q107.1, .int .i64 q107.2.1, .int .i64 q107.2.2.1, .int .i64 q107.2.2.2.1, v98] :: Res.opt pk74 v57 q55.1 :: ow) := Hp.sel (pre := [Res.sl (Ek.pair Ek.str (Ek.pair Ek.bool (Ek.pair (Ek.int .i64) Ek.bool))) 81 v98 q107.2.2.2.2, Res.obj 79 v41 [.int .i64 q107.1, .int .i64 q107.2.1, .int .i64 q107.2.2.1, .int .i64 q107.2.2.2.1, v98], Res.opt pk74 v57 q55.1]) (tail := ow) (rs' := [Res.sl (Ek.pair Ek.str (Ek.pair Ek.bool (Ek.pair (Ek.int .i64) Ek.bool))) 81 v98 q107.2.2.2.2, Res.obj 79 v41 [.int .i64 q107.1, .int .i64 q107.2.1, .int .i64 q107.2.2.1, .int .i64 q107.2.2.2.1, v98], Res.opt pk74 v57 q55.1]) hp [0, 1, 2] (by decide) (by simp) rfl
    refine st_call hf (by decide) Try.func19 rfl rfl rfl rfl rfl (f_again_Sender_Tick_c _ _ _ _ _ _ _ _ hp111 hcall110) ?_
    rintro _ w ⟨v112, v113, rfl, hp0⟩
    clear hp; have hp := hp0; clear hp0
    replace hp : Hp _ _ _ (Res.sl (Ek.pair (Ek.int .u8) (Ek.pair (Ek.int .u8) (Ek.pair Ek.bool Ek.str))) 31 v112 q109.1 :: Res.sl (Ek.pair Ek.str (Ek.pair Ek.bool (Ek.pair (Ek.int .i64) Ek.bool))) 81 v113 q109.2.2.2.2.2.2 :: Res.obj 79 v41 [.int .i64 q109.2.2.1, .int .i64 q109.2.2.2.1, .int .i64 q109.2.2.2.2.1, .int .i64 q109.2.2.2.2.2.1, v113] :: Res.opt pk74 v57 q55.1 :: ow) := hp
    refine ⟨_, rfl, ?_⟩
    clear hf; intro a hf
    refine st_move hf rfl rfl (by decide) ?_
    clear hf; intro a ha hf; clear ha
    refine st_extract hf (by decide) rfl rfl rfl ?_
    clear hf; intro a ha hf; clear ha
    refine st_extract hf (by decide) rfl rfl rfl ?_
    clear hf; intro a ha hf; clear ha
    refine st_assign hf rfl rfl (by decide) ?_
    clear hf; intro a ha hf; clear ha
    refine st_assign hf rfl rfl (by decide) ?_
    clear hf; intro a ha hf; clear ha
    refine st_nil hf ?_
    refine th_n ?_
    refine wp_seq ?_
    refine wp_reg ?_
    refine st_move hf rfl rfl (by decide) ?_
    clear hf; intro a ha hf; clear ha
    obtain ⟨q116, hcall117, h⟩ := bnd h
    have hp118 : Hp _ _ _ (Res.sl (Ek.pair Ek.str (Ek.pair Ek.bool (Ek.pair (Ek.int .i64) Ek.bool))) 81 v113 q109.2.2.2.2.2.2 :: Res.obj 79 v41 [.int .i64 q109.2.2.1, .int .i64 q109.2.2.2.1, .int .i64 q109.2.2.2.2.1, .int .i64 q109.2.2.2.2.2.1, v113] :: Res.sl (Ek.pair (Ek.int .u8) (Ek.pair (Ek.int .u8) (Ek.pair Ek.bool Ek.str))) 31 v112 q109.1 :: Res.opt pk74 v57 q55.1 :: ow) := Hp.sel (pre := [Res.sl (Ek.pair (Ek.int .u8) (Ek.pair (Ek.int .u8) (Ek.pair Ek.bool Ek.str))) 31 v112 q109.1, Res.sl (Ek.pair Ek.str (Ek.pair Ek.bool (Ek.pair (Ek.int .i64) Ek.bool))) 81 v113 q109.2.2.2.2.2.2, Res.obj 79 v41 [.int .i64 q109.2.2.1, .int .i64 q109.2.2.2.1, .int .i64 q109.2.2.2.2.1, .int .i64 q109.2.2.2.2.2.1, v113], Res.opt pk74 v57 q55.1]) (tail := ow) (rs' := [Res.sl (Ek.pair Ek.str (Ek.pair Ek.bool (Ek.pair (Ek.int .i64) Ek.bool))) 81 v113 q109.2.2.2.2.2.2, Res.obj 79 v41 [.int .i64 q109.2.2.1, .int .i64 q109.2.2.2.1, .int .i64 q109.2.2.2.2.1, .int .i64 q109.2.2.2.2.2.1, v113], Res.sl (Ek.pair (Ek.int .u8) (Ek.pair (Ek.int .u8) (Ek.pair Ek.bool Ek.str))) 31 v112 q109.1, Res.opt pk74 v57 q55.1]) hp [1, 2, 0, 3] (by decide) (by simp) rfl
    refine st_call hf (by decide) Try.func19 rfl rfl rfl rfl rfl (f_again_Sender_Tick_c _ _ _ _ _ _ _ _ hp118 hcall117) ?_
    rintro _ w ⟨v119, v120, rfl, hp0⟩
    clear hp; have hp := hp0; clear hp0
    replace hp : Hp _ _ _ (Res.sl (Ek.pair (Ek.int .u8) (Ek.pair (Ek.int .u8) (Ek.pair Ek.bool Ek.str))) 31 v119 q116.1 :: Res.sl (Ek.pair Ek.str (Ek.pair Ek.bool (Ek.pair (Ek.int .i64) Ek.bool))) 81 v120 q116.2.2.2.2.2.2 :: Res.obj 79 v41 [.int .i64 q116.2.2.1, .int .i64 q116.2.2.2.1, .int .i64 q116.2.2.2.2.1, .int .i64 q116.2.2.2.2.2.1, v120] :: Res.sl (Ek.pair (Ek.int .u8) (Ek.pair (Ek.int .u8) (Ek.pair Ek.bool Ek.str))) 31 v112 q109.1 :: Res.opt pk74 v57 q55.1 :: ow) := hp
    refine ⟨_, rfl, ?_⟩
    clear hf; intro a hf
    refine st_move hf rfl rfl (by decide) ?_
    clear hf; intro a ha hf; clear ha
    refine st_extract hf (by decide) rfl rfl rfl ?_
    clear hf; intro a ha hf; clear ha
    refine st_extract hf (by decide) rfl rfl rfl ?_
    clear hf; intro a ha hf; clear ha
    refine st_assign hf rfl rfl (by decide) ?_
    clear hf; intro a ha hf; clear ha
    refine st_assign hf rfl rfl (by decide) ?_
    clear hf; intro a ha hf; clear ha
    refine st_nil hf ?_
    refine th_n ?_
    refine wp_seq ?_
    refine wp_reg ?_
    refine st_move hf rfl rfl (by decide) ?_
    clear hf; intro a ha hf; clear ha
    obtain ⟨q123, hcall124, h⟩ := bnd h
    have hp125 : Hp _ _ _ (Res.sl (Ek.pair Ek.str (Ek.pair Ek.bool (Ek.pair (Ek.int .i64) Ek.bool))) 81 v120 q116.2.2.2.2.2.2 :: Res.obj 79 v41 [.int .i64 q116.2.2.1, .int .i64 q116.2.2.2.1, .int .i64 q116.2.2.2.2.1, .int .i64 q116.2.2.2.2.2.1, v120] :: Res.sl (Ek.pair (Ek.int .u8) (Ek.pair (Ek.int .u8) (Ek.pair Ek.bool Ek.str))) 31 v119 q116.1 :: Res.sl (Ek.pair (Ek.int .u8) (Ek.pair (Ek.int .u8) (Ek.pair Ek.bool Ek.str))) 31 v112 q109.1 :: Res.opt pk74 v57 q55.1 :: ow) := Hp.sel (pre := [Res.sl (Ek.pair (Ek.int .u8) (Ek.pair (Ek.int .u8) (Ek.pair Ek.bool Ek.str))) 31 v119 q116.1, Res.sl (Ek.pair Ek.str (Ek.pair Ek.bool (Ek.pair (Ek.int .i64) Ek.bool))) 81 v120 q116.2.2.2.2.2.2, Res.obj 79 v41 [.int .i64 q116.2.2.1, .int .i64 q116.2.2.2.1, .int .i64 q116.2.2.2.2.1, .int .i64 q116.2.2.2.2.2.1, v120], Res.sl (Ek.pair (Ek.int .u8) (Ek.pair (Ek.int .u8) (Ek.pair Ek.bool Ek.str))) 31 v112 q109.1, Res.opt pk74 v57 q55.1]) (tail := ow) (rs' := [Res.sl (Ek.pair Ek.str (Ek.pair Ek.bool (Ek.pair (Ek.int .i64) Ek.bool))) 81 v120 q116.2.2.2.2.2.2, Res.obj 79 v41 [.int .i64 q116.2.2.1, .int .i64 q116.2.2.2.1, .int .i64 q116.2.2.2.2.1, .int .i64 q116.2.2.2.2.2.1, v120], Res.sl (Ek.pair (Ek.int .u8) (Ek.pair (Ek.int .u8) (Ek.pair Ek.bool Ek.str))) 31 v119 q116.1, Res.sl (Ek.pair (Ek.int .u8) (Ek.pair (Ek.int .u8) (Ek.pair Ek.bool Ek.str))) 31 v112 q109.1, Res.opt pk74 v57 q55.1]) hp [1, 2, 0, 3, 4] (by decide) (by simp) rfl
    refine st_call hf (by decide) Try.func19 rfl rfl rfl rfl rfl (f_again_Sender_Tick_c _ _ _ _ _ _ _ _ hp125 hcall124) ?_
    rintro _ w ⟨v126, v127, rfl, hp0⟩
    clear hp; have hp := hp0; clear hp0
    replace hp : Hp _ _ _ (Res.sl (Ek.pair (Ek.int .u8) (Ek.pair (Ek.int .u8) (Ek.pair Ek.bool Ek.str))) 31 v126 q123.1 :: Res.sl (Ek.pair Ek.str (Ek.pair Ek.bool (Ek.pair (Ek.int .i64) Ek.bool))) 81 v127 q123.2.2.2.2.2.2 :: Res.obj 79 v41 [.int .i64 q123.2.2.1, .int .i64 q123.2.2.2.1, .int .i64 q123.2.2.2.2.1, .int .i64 q123.2.2.2.2.2.1, v127] :: Res.sl (Ek.pair (Ek.int .u8) (Ek.pair (Ek.int .u8) (Ek.pair Ek.bool Ek.str))) 31 v119 q116.1 :: Res.sl (Ek.pair (Ek.int .u8) (Ek.pair (Ek.int .u8) (Ek.pair Ek.bool Ek.str))) 31 v112 q109.1 :: Res.opt pk74 v57 q55.1 :: ow) := hp
    refine ⟨_, rfl, ?_⟩
    clear hf; intro a hf
    refine st_move hf rfl rfl (by decide) ?_
    clear hf; intro a ha hf; clear ha
    refine st_extract hf (by decide) rfl rfl rfl ?_
    clear hf; intro a ha hf; clear ha
    refine st_extract hf (by decide) rfl rfl rfl ?_
    clear hf; intro a ha hf; clear ha
    refine st_assign hf rfl rfl (by decide) ?_
    clear hf; intro a ha hf; clear ha
    refine st_nil hf ?_
    refine th_n ?_
    refine wp_seq ?_
    refine wp_reg ?_
    refine st_move hf rfl rfl (by decide) ?_
    clear hf; intro a ha hf; clear ha
    refine st_move hf rfl rfl (by decide) ?_
    clear hf; intro a ha hf; clear ha
    refine st_buildA (vals := [(0, .int .u8 (1 : Int)), (3, .string (bstr (mk0 (241 : Int) (0 : Int))))]) (cells := [.int .u8 (1 : Int), .int .u8 (0 : Int), .bool false, .string (bstr (mk0 (241 : Int) (0 : Int)))]) hf (by decide) rfl (by simp [hf.ev (x := (Operand.const (.int .u8 (1 : Int)))) rfl, hf.ev (x := (Operand.tmp 172)) rfl]) (fun w => by kernel_rfl) ?_
    clear hf; intro a ha hf; clear ha
    obtain ⟨s130, hs131, h⟩ := bnd h
    have hp : Hp _ _ _ (Res.opt pk74 v57 q55.1 :: Res.sl (Ek.pair (Ek.int .u8) (Ek.pair (Ek.int .u8) (Ek.pair Ek.bool Ek.str))) 31 v126 q123.1 :: Res.sl (Ek.pair Ek.str (Ek.pair Ek.bool (Ek.pair (Ek.int .i64) Ek.bool))) 81 v127 q123.2.2.2.2.2.2 :: Res.obj 79 v41 [.int .i64 q123.2.2.1, .int .i64 q123.2.2.2.1, .int .i64 q123.2.2.2.2.1, .int .i64 q123.2.2.2.2.2.1, v127] :: Res.sl (Ek.pair (Ek.int .u8) (Ek.pair (Ek.int .u8) (Ek.pair Ek.bool Ek.str))) 31 v119 q116.1 :: Res.sl (Ek.pair (Ek.int .u8) (Ek.pair (Ek.int .u8) (Ek.pair Ek.bool Ek.str))) 31 v112 q109.1 :: ow) := Hp.sel (pre := [Res.sl (Ek.pair (Ek.int .u8) (Ek.pair (Ek.int .u8) (Ek.pair Ek.bool Ek.str))) 31 v126 q123.1, Res.sl (Ek.pair Ek.str (Ek.pair Ek.bool (Ek.pair (Ek.int .i64) Ek.bool))) 81 v127 q123.2.2.2.2.2.2, Res.obj 79 v41 [.int .i64 q123.2.2.1, .int .i64 q123.2.2.2.1, .int .i64 q123.2.2.2.2.1, .int .i64 q123.2.2.2.2.2.1, v127], Res.sl (Ek.pair (Ek.int .u8) (Ek.pair (Ek.int .u8) (Ek.pair Ek.bool Ek.str))) 31 v119 q116.1, Res.sl (Ek.pair (Ek.int .u8) (Ek.pair (Ek.int .u8) (Ek.pair Ek.bool Ek.str))) 31 v112 q109.1, Res.opt pk74 v57 q55.1]) (tail := ow) (rs' := [Res.opt pk74 v57 q55.1, Res.sl (Ek.pair (Ek.int .u8) (Ek.pair (Ek.int .u8) (Ek.pair Ek.bool Ek.str))) 31 v126 q123.1, Res.sl (Ek.pair Ek.str (Ek.pair Ek.bool (Ek.pair (Ek.int .i64) Ek.bool))) 81 v127 q123.2.2.2.2.2.2, Res.obj 79 v41 [.int .i64 q123.2.2.1, .int .i64 q123.2.2.2.1, .int .i64 q123.2.2.2.2.1, .int .i64 q123.2.2.2.2.2.1, v127], Res.sl (Ek.pair (Ek.int .u8) (Ek.pair (Ek.int .u8) (Ek.pair Ek.bool Ek.str))) 31 v119 q116.1, Res.sl (Ek.pair (Ek.int .u8) (Ek.pair (Ek.int .u8) (Ek.pair Ek.bool Ek.str))) 31 v112 q109.1]) hp [5, 0, 1, 2, 3, 4] (by decide) (by simp) rfl
    replace hp : Hp _ _ _ (pk74.R v57 s130 :: Res.sl (Ek.pair (Ek.int .u8) (Ek.pair (Ek.int .u8) (Ek.pair Ek.bool Ek.str))) 31 v126 q123.1 :: Res.sl (Ek.pair Ek.str (Ek.pair Ek.bool (Ek.pair (Ek.int .i64) Ek.bool))) 81 v127 q123.2.2.2.2.2.2 :: Res.obj 79 v41 [.int .i64 q123.2.2.1, .int .i64 q123.2.2.2.1, .int .i64 q123.2.2.2.2.1, .int .i64 q123.2.2.2.2.2.1, v127] :: Res.sl (Ek.pair (Ek.int .u8) (Ek.pair (Ek.int .u8) (Ek.pair Ek.bool Ek.str))) 31 v119 q116.1 :: Res.sl (Ek.pair (Ek.int .u8) (Ek.pair (Ek.int .u8) (Ek.pair Ek.bool Ek.str))) 31 v112 q109.1 :: ow) := hp.optSome hs131
    obtain ⟨v132, hp⟩ := pk74_in hp
    replace hp : Hp _ _ _ (Res.obj 74 v57 [.int .i64 s130.1, .int .i64 s130.2.1, v132] :: Res.map (fun x : ByteArray => Value.string x) v132 s130.2.2 :: Res.sl (Ek.pair (Ek.int .u8) (Ek.pair (Ek.int .u8) (Ek.pair Ek.bool Ek.str))) 31 v126 q123.1 :: Res.sl (Ek.pair Ek.str (Ek.pair Ek.bool (Ek.pair (Ek.int .i64) Ek.bool))) 81 v127 q123.2.2.2.2.2.2 :: Res.obj 79 v41 [.int .i64 q123.2.2.1, .int .i64 q123.2.2.2.1, .int .i64 q123.2.2.2.2.1, .int .i64 q123.2.2.2.2.2.1, v127] :: Res.sl (Ek.pair (Ek.int .u8) (Ek.pair (Ek.int .u8) (Ek.pair Ek.bool Ek.str))) 31 v119 q116.1 :: Res.sl (Ek.pair (Ek.int .u8) (Ek.pair (Ek.int .u8) (Ek.pair Ek.bool Ek.str))) 31 v112 q109.1 :: ow) := hp
    obtain ⟨q134, hcall135, h⟩ := bnd h
    have hp136 : Hp _ _ _ (Res.map (fun x : ByteArray => Value.string x) v132 s130.2.2 :: Res.obj 74 v57 [.int .i64 s130.1, .int .i64 s130.2.1, v132] :: Res.sl (Ek.pair (Ek.int .u8) (Ek.pair (Ek.int .u8) (Ek.pair Ek.bool Ek.str))) 31 v126 q123.1 :: Res.sl (Ek.pair Ek.str (Ek.pair Ek.bool (Ek.pair (Ek.int .i64) Ek.bool))) 81 v127 q123.2.2.2.2.2.2 :: Res.obj 79 v41 [.int .i64 q123.2.2.1, .int .i64 q123.2.2.2.1, .int .i64 q123.2.2.2.2.1, .int .i64 q123.2.2.2.2.2.1, v127] :: Res.sl (Ek.pair (Ek.int .u8) (Ek.pair (Ek.int .u8) (Ek.pair Ek.bool Ek.str))) 31 v119 q116.1 :: Res.sl (Ek.pair (Ek.int .u8) (Ek.pair (Ek.int .u8) (Ek.pair Ek.bool Ek.str))) 31 v112 q109.1 :: ow) := Hp.sel (pre := [Res.obj 74 v57 [.int .i64 s130.1, .int .i64 s130.2.1, v132], Res.map (fun x : ByteArray => Value.string x) v132 s130.2.2, Res.sl (Ek.pair (Ek.int .u8) (Ek.pair (Ek.int .u8) (Ek.pair Ek.bool Ek.str))) 31 v126 q123.1, Res.sl (Ek.pair Ek.str (Ek.pair Ek.bool (Ek.pair (Ek.int .i64) Ek.bool))) 81 v127 q123.2.2.2.2.2.2, Res.obj 79 v41 [.int .i64 q123.2.2.1, .int .i64 q123.2.2.2.1, .int .i64 q123.2.2.2.2.1, .int .i64 q123.2.2.2.2.2.1, v127], Res.sl (Ek.pair (Ek.int .u8) (Ek.pair (Ek.int .u8) (Ek.pair Ek.bool Ek.str))) 31 v119 q116.1, Res.sl (Ek.pair (Ek.int .u8) (Ek.pair (Ek.int .u8) (Ek.pair Ek.bool Ek.str))) 31 v112 q109.1]) (tail := ow) (rs' := [Res.map (fun x : ByteArray => Value.string x) v132 s130.2.2, Res.obj 74 v57 [.int .i64 s130.1, .int .i64 s130.2.1, v132], Res.sl (Ek.pair (Ek.int .u8) (Ek.pair (Ek.int .u8) (Ek.pair Ek.bool Ek.str))) 31 v126 q123.1, Res.sl (Ek.pair Ek.str (Ek.pair Ek.bool (Ek.pair (Ek.int .i64) Ek.bool))) 81 v127 q123.2.2.2.2.2.2, Res.obj 79 v41 [.int .i64 q123.2.2.1, .int .i64 q123.2.2.2.1, .int .i64 q123.2.2.2.2.1, .int .i64 q123.2.2.2.2.2.1, v127], Res.sl (Ek.pair (Ek.int .u8) (Ek.pair (Ek.int .u8) (Ek.pair Ek.bool Ek.str))) 31 v119 q116.1, Res.sl (Ek.pair (Ek.int .u8) (Ek.pair (Ek.int .u8) (Ek.pair Ek.bool Ek.str))) 31 v112 q109.1]) hp [1, 0, 2, 3, 4, 5, 6] (by decide) (by simp) rfl
    refine st_call hf (by decide) Try.func10 rfl rfl rfl rfl rfl (f_again_Receiver_Take_c _ _ _ _ _ _ _ _ _ hp136 hcall135) ?_
    rintro _ w ⟨v137, v138, rfl, hp0⟩
    clear hp; have hp := hp0; clear hp0
    replace hp : Hp _ _ _ (Res.sl Ek.str 9 v137 q134.1 :: Res.map (fun x : ByteArray => Value.string x) v138 q134.2.2.2.2.2 :: Res.obj 74 v57 [.int .i64 q134.2.2.2.1, .int .i64 q134.2.2.2.2.1, v138] :: Res.sl (Ek.pair (Ek.int .u8) (Ek.pair (Ek.int .u8) (Ek.pair Ek.bool Ek.str))) 31 v126 q123.1 :: Res.sl (Ek.pair Ek.str (Ek.pair Ek.bool (Ek.pair (Ek.int .i64) Ek.bool))) 81 v127 q123.2.2.2.2.2.2 :: Res.obj 79 v41 [.int .i64 q123.2.2.1, .int .i64 q123.2.2.2.1, .int .i64 q123.2.2.2.2.1, .int .i64 q123.2.2.2.2.2.1, v127] :: Res.sl (Ek.pair (Ek.int .u8) (Ek.pair (Ek.int .u8) (Ek.pair Ek.bool Ek.str))) 31 v119 q116.1 :: Res.sl (Ek.pair (Ek.int .u8) (Ek.pair (Ek.int .u8) (Ek.pair Ek.bool Ek.str))) 31 v112 q109.1 :: ow) := hp
    refine ⟨_, rfl, ?_⟩
    clear hf; intro a hf
    refine st_move hf rfl rfl (by decide) ?_
    clear hf; intro a ha hf; clear ha
    refine st_extract hf (by decide) rfl rfl rfl ?_
    clear hf; intro a ha hf; clear ha
    refine st_extract hf (by decide) rfl rfl rfl ?_
    clear hf; intro a ha hf; clear ha
    refine st_extract hf (by decide) rfl rfl rfl ?_
    clear hf; intro a ha hf; clear ha
    refine st_assign hf rfl rfl (by decide) ?_
    clear hf; intro a ha hf; clear ha
    refine st_nil hf ?_
    refine th_n ?_
    refine wp_seq ?_
    refine wp_reg ?_
    refine st_move hf rfl rfl (by decide) ?_
    clear hf; intro a ha hf; clear ha
    refine st_buildA (vals := [(0, .int .u8 (1 : Int)), (2, .bool true)]) (cells := [.int .u8 (1 : Int), .int .u8 (0 : Int), .bool true, .string ByteArray.empty]) hf (by decide) rfl (by simp [hf.ev (x := (Operand.const (.int .u8 (1 : Int)))) rfl, hf.ev (x := (Operand.const (.bool true))) rfl]) (fun w => by kernel_rfl) ?_
    clear hf; intro a ha hf; clear ha
    obtain ⟨q141, hcall142, h⟩ := bnd h
    have hp143 : Hp _ _ _ (Res.map (fun x : ByteArray => Value.string x) v138 q134.2.2.2.2.2 :: Res.obj 74 v57 [.int .i64 q134.2.2.2.1, .int .i64 q134.2.2.2.2.1, v138] :: Res.sl Ek.str 9 v137 q134.1 :: Res.sl (Ek.pair (Ek.int .u8) (Ek.pair (Ek.int .u8) (Ek.pair Ek.bool Ek.str))) 31 v126 q123.1 :: Res.sl (Ek.pair Ek.str (Ek.pair Ek.bool (Ek.pair (Ek.int .i64) Ek.bool))) 81 v127 q123.2.2.2.2.2.2 :: Res.obj 79 v41 [.int .i64 q123.2.2.1, .int .i64 q123.2.2.2.1, .int .i64 q123.2.2.2.2.1, .int .i64 q123.2.2.2.2.2.1, v127] :: Res.sl (Ek.pair (Ek.int .u8) (Ek.pair (Ek.int .u8) (Ek.pair Ek.bool Ek.str))) 31 v119 q116.1 :: Res.sl (Ek.pair (Ek.int .u8) (Ek.pair (Ek.int .u8) (Ek.pair Ek.bool Ek.str))) 31 v112 q109.1 :: ow) := Hp.sel (pre := [Res.sl Ek.str 9 v137 q134.1, Res.map (fun x : ByteArray => Value.string x) v138 q134.2.2.2.2.2, Res.obj 74 v57 [.int .i64 q134.2.2.2.1, .int .i64 q134.2.2.2.2.1, v138], Res.sl (Ek.pair (Ek.int .u8) (Ek.pair (Ek.int .u8) (Ek.pair Ek.bool Ek.str))) 31 v126 q123.1, Res.sl (Ek.pair Ek.str (Ek.pair Ek.bool (Ek.pair (Ek.int .i64) Ek.bool))) 81 v127 q123.2.2.2.2.2.2, Res.obj 79 v41 [.int .i64 q123.2.2.1, .int .i64 q123.2.2.2.1, .int .i64 q123.2.2.2.2.1, .int .i64 q123.2.2.2.2.2.1, v127], Res.sl (Ek.pair (Ek.int .u8) (Ek.pair (Ek.int .u8) (Ek.pair Ek.bool Ek.str))) 31 v119 q116.1, Res.sl (Ek.pair (Ek.int .u8) (Ek.pair (Ek.int .u8) (Ek.pair Ek.bool Ek.str))) 31 v112 q109.1]) (tail := ow) (rs' := [Res.map (fun x : ByteArray => Value.string x) v138 q134.2.2.2.2.2, Res.obj 74 v57 [.int .i64 q134.2.2.2.1, .int .i64 q134.2.2.2.2.1, v138], Res.sl Ek.str 9 v137 q134.1, Res.sl (Ek.pair (Ek.int .u8) (Ek.pair (Ek.int .u8) (Ek.pair Ek.bool Ek.str))) 31 v126 q123.1, Res.sl (Ek.pair Ek.str (Ek.pair Ek.bool (Ek.pair (Ek.int .i64) Ek.bool))) 81 v127 q123.2.2.2.2.2.2, Res.obj 79 v41 [.int .i64 q123.2.2.1, .int .i64 q123.2.2.2.1, .int .i64 q123.2.2.2.2.1, .int .i64 q123.2.2.2.2.2.1, v127], Res.sl (Ek.pair (Ek.int .u8) (Ek.pair (Ek.int .u8) (Ek.pair Ek.bool Ek.str))) 31 v119 q116.1, Res.sl (Ek.pair (Ek.int .u8) (Ek.pair (Ek.int .u8) (Ek.pair Ek.bool Ek.str))) 31 v112 q109.1]) hp [1, 2, 0, 3, 4, 5, 6, 7] (by decide) (by simp) rfl
    refine st_call hf (by decide) Try.func10 rfl rfl rfl rfl rfl (f_again_Receiver_Take_c _ _ _ _ _ _ _ _ _ hp143 hcall142) ?_
    rintro _ w ⟨v144, v145, rfl, hp0⟩
    clear hp; have hp := hp0; clear hp0
    replace hp : Hp _ _ _ (Res.sl Ek.str 9 v144 q141.1 :: Res.map (fun x : ByteArray => Value.string x) v145 q141.2.2.2.2.2 :: Res.obj 74 v57 [.int .i64 q141.2.2.2.1, .int .i64 q141.2.2.2.2.1, v145] :: Res.sl Ek.str 9 v137 q134.1 :: Res.sl (Ek.pair (Ek.int .u8) (Ek.pair (Ek.int .u8) (Ek.pair Ek.bool Ek.str))) 31 v126 q123.1 :: Res.sl (Ek.pair Ek.str (Ek.pair Ek.bool (Ek.pair (Ek.int .i64) Ek.bool))) 81 v127 q123.2.2.2.2.2.2 :: Res.obj 79 v41 [.int .i64 q123.2.2.1, .int .i64 q123.2.2.2.1, .int .i64 q123.2.2.2.2.1, .int .i64 q123.2.2.2.2.2.1, v127] :: Res.sl (Ek.pair (Ek.int .u8) (Ek.pair (Ek.int .u8) (Ek.pair Ek.bool Ek.str))) 31 v119 q116.1 :: Res.sl (Ek.pair (Ek.int .u8) (Ek.pair (Ek.int .u8) (Ek.pair Ek.bool Ek.str))) 31 v112 q109.1 :: ow) := hp
    refine ⟨_, rfl, ?_⟩
    clear hf; intro a hf
    refine st_move hf rfl rfl (by decide) ?_
    clear hf; intro a ha hf; clear ha
    refine st_extract hf (by decide) rfl rfl rfl ?_
    clear hf; intro a ha hf; clear ha
    refine st_extract hf (by decide) rfl rfl rfl ?_
    clear hf; intro a ha hf; clear ha
    refine st_extract hf (by decide) rfl rfl rfl ?_
    clear hf; intro a ha hf; clear ha
    refine st_assign hf rfl rfl (by decide) ?_
    clear hf; intro a ha hf; clear ha
    refine st_nil hf ?_
    refine th_n ?_
    refine wp_seq ?_
    refine wp_reg ?_
    refine st_move hf rfl rfl (by decide) ?_
    clear hf; intro a ha hf; clear ha
    obtain ⟨q148, hcall149, h⟩ := bnd h
    have hp150 : Hp _ _ _ (Res.sl (Ek.pair Ek.str (Ek.pair Ek.bool (Ek.pair (Ek.int .i64) Ek.bool))) 81 v127 q123.2.2.2.2.2.2 :: Res.obj 79 v41 [.int .i64 q123.2.2.1, .int .i64 q123.2.2.2.1, .int .i64 q123.2.2.2.2.1, .int .i64 q123.2.2.2.2.2.1, v127] :: Res.sl Ek.str 9 v144 q141.1 :: Res.map (fun x : ByteArray => Value.string x) v145 q141.2.2.2.2.2 :: Res.obj 74 v57 [.int .i64 q141.2.2.2.1, .int .i64 q141.2.2.2.2.1, v145] :: Res.sl Ek.str 9 v137 q134.1 :: Res.sl (Ek.pair (Ek.int .u8) (Ek.pair (Ek.int .u8) (Ek.pair Ek.bool Ek.str))) 31 v126 q123.1 :: Res.sl (Ek.pair (Ek.int .u8) (Ek.pair (Ek.int .u8) (Ek.pair Ek.bool Ek.str))) 31 v119 q116.1 :: Res.sl (Ek.pair (Ek.int .u8) (Ek.pair (Ek.int .u8) (Ek.pair Ek.bool Ek.str))) 31 v112 q109.1 :: ow) := Hp.sel (pre := [Res.sl Ek.str 9 v144 q141.1, Res.map (fun x : ByteArray => Value.string x) v145 q141.2.2.2.2.2, Res.obj 74 v57 [.int .i64 q141.2.2.2.1, .int .i64 q141.2.2.2.2.1, v145], Res.sl Ek.str 9 v137 q134.1, Res.sl (Ek.pair (Ek.int .u8) (Ek.pair (Ek.int .u8) (Ek.pair Ek.bool Ek.str))) 31 v126 q123.1, Res.sl (Ek.pair Ek.str (Ek.pair Ek.bool (Ek.pair (Ek.int .i64) Ek.bool))) 81 v127 q123.2.2.2.2.2.2, Res.obj 79 v41 [.int .i64 q123.2.2.1, .int .i64 q123.2.2.2.1, .int .i64 q123.2.2.2.2.1, .int .i64 q123.2.2.2.2.2.1, v127], Res.sl (Ek.pair (Ek.int .u8) (Ek.pair (Ek.int .u8) (Ek.pair Ek.bool Ek.str))) 31 v119 q116.1, Res.sl (Ek.pair (Ek.int .u8) (Ek.pair (Ek.int .u8) (Ek.pair Ek.bool Ek.str))) 31 v112 q109.1]) (tail := ow) (rs' := [Res.sl (Ek.pair Ek.str (Ek.pair Ek.bool (Ek.pair (Ek.int .i64) Ek.bool))) 81 v127 q123.2.2.2.2.2.2, Res.obj 79 v41 [.int .i64 q123.2.2.1, .int .i64 q123.2.2.2.1, .int .i64 q123.2.2.2.2.1, .int .i64 q123.2.2.2.2.2.1, v127], Res.sl Ek.str 9 v144 q141.1, Res.map (fun x : ByteArray => Value.string x) v145 q141.2.2.2.2.2, Res.obj 74 v57 [.int .i64 q141.2.2.2.1, .int .i64 q141.2.2.2.2.1, v145], Res.sl Ek.str 9 v137 q134.1, Res.sl (Ek.pair (Ek.int .u8) (Ek.pair (Ek.int .u8) (Ek.pair Ek.bool Ek.str))) 31 v126 q123.1, Res.sl (Ek.pair (Ek.int .u8) (Ek.pair (Ek.int .u8) (Ek.pair Ek.bool Ek.str))) 31 v119 q116.1, Res.sl (Ek.pair (Ek.int .u8) (Ek.pair (Ek.int .u8) (Ek.pair Ek.bool Ek.str))) 31 v112 q109.1]) hp [5, 6, 0, 1, 2, 3, 4, 7, 8] (by decide) (by simp) rfl
    refine st_call hf (by decide) Try.func17 rfl rfl rfl rfl rfl (f_again_Sender_Offer_c _ _ _ _ _ _ _ _ hp150 hcall149) ?_
    rintro _ w ⟨v151, rfl, hp0⟩
    clear hp; have hp := hp0; clear hp0
    replace hp : Hp _ _ _ (Res.sl (Ek.pair Ek.str (Ek.pair Ek.bool (Ek.pair (Ek.int .i64) Ek.bool))) 81 v151 q148.2.2.2.2.2 :: Res.obj 79 v41 [.int .i64 q148.2.1, .int .i64 q148.2.2.1, .int .i64 q148.2.2.2.1, .int .i64 q148.2.2.2.2.1, v151] :: Res.sl Ek.str 9 v144 q141.1 :: Res.map (fun x : ByteArray => Value.string x) v145 q141.2.2.2.2.2 :: Res.obj 74 v57 [.int .i64 q141.2.2.2.1, .int .i64 q141.2.2.2.2.1, v145] :: Res.sl Ek.str 9 v137 q134.1 :: Res.sl (Ek.pair (Ek.int .u8) (Ek.pair (Ek.int .u8) (Ek.pair Ek.bool Ek.str))) 31 v126 q123.1 :: Res.sl (Ek.pair (Ek.int .u8) (Ek.pair (Ek.int .u8) (Ek.pair Ek.bool Ek.str))) 31 v119 q116.1 :: Res.sl (Ek.pair (Ek.int .u8) (Ek.pair (Ek.int .u8) (Ek.pair Ek.bool Ek.str))) 31 v112 q109.1 :: ow) := hp
    refine ⟨_, rfl, ?_⟩
    clear hf; intro a hf
    refine st_ieql hf (by decide) rfl rfl rfl ?_
    clear hf; intro a ha hf; clear ha
    refine st_move hf rfl rfl (by decide) ?_
    clear hf; intro a ha hf; clear ha
    obtain ⟨z155, hz153, h⟩ := bnd h
    refine wpList_cut 4 (fun a w => Fr 231 a [(8, v41), (9, .int .i64 q109.2.1), (11, .int .i64 q116.2.1), (13, .int .i64 q123.2.1), (15, .int .i64 q134.2.2.1), (17, .int .i64 q141.2.2.1), (18, .string (bstr (mk0 (241 : Int) (0 : Int)))), (20, v112), (21, v119), (192, .bool z155)] ∧ Hp S w0 w (Res.sl (Ek.pair Ek.str (Ek.pair Ek.bool (Ek.pair (Ek.int .i64) Ek.bool))) 81 v151 q148.2.2.2.2.2 :: Res.obj 79 v41 [.int .i64 q148.2.1, .int .i64 q148.2.2.1, .int .i64 q148.2.2.2.1, .int .i64 q148.2.2.2.2.1, v151] :: Res.sl Ek.str 9 v144 q141.1 :: Res.map (fun x : ByteArray => Value.string x) v145 q141.2.2.2.2.2 :: Res.obj 74 v57 [.int .i64 q141.2.2.2.1, .int .i64 q141.2.2.2.2.1, v145] :: Res.sl Ek.str 9 v137 q134.1 :: Res.sl (Ek.pair (Ek.int .u8) (Ek.pair (Ek.int .u8) (Ek.pair Ek.bool Ek.str))) 31 v126 q123.1 :: Res.sl (Ek.pair (Ek.int .u8) (Ek.pair (Ek.int .u8) (Ek.pair Ek.bool Ek.str))) 31 v119 q116.1 :: Res.sl (Ek.pair (Ek.int .u8) (Ek.pair (Ek.int .u8) (Ek.pair Ek.bool Ek.str))) 31 v112 q109.1 :: ow)) ?_ ?_
    · rcases Bool.eq_false_or_eq_true (q148.1 == (3 : Int)) with hb154 | hb154
      · skip
        replace hz153 := ifT hz153 hb154
        refine st_move hf (wantY hf rfl rfl hb154) rfl (by decide) ?_
        clear hf; intro a ha hf; clear ha
        obtain ⟨q156, hcall157, hz153⟩ := bnd hz153
        obtain ⟨S158, hp159, rd160, up161, bk162⟩ := Hp.lendS hp (i := 0) rfl
        obtain ⟨S163, hp164, rd165, up166, bk167⟩ := Hp.lendO hp159 (i := 0) rfl
        refine st_call hf (by decide) Try.func25 rfl rfl (wantY hf rfl rfl hb154) rfl rfl (f_again_Sender_Left_c hp164 _ _ _ _ _ _ ((rd160.now hp159).mono up166) _ rd165 hcall157) ?_
        rintro _ w ⟨rfl, hp0⟩
        have hp0 := bk167 _ _ hp0
        have hp0 := bk162 _ _ hp0
        clear hp; have hp := hp0; clear hp0
        replace hp : Hp _ _ _ (Res.sl (Ek.pair Ek.str (Ek.pair Ek.bool (Ek.pair (Ek.int .i64) Ek.bool))) 81 v151 q148.2.2.2.2.2 :: Res.obj 79 v41 [.int .i64 q148.2.1, .int .i64 q148.2.2.1, .int .i64 q148.2.2.2.1, .int .i64 q148.2.2.2.2.1, v151] :: Res.sl Ek.str 9 v144 q141.1 :: Res.map (fun x : ByteArray => Value.string x) v145 q141.2.2.2.2.2 :: Res.obj 74 v57 [.int .i64 q141.2.2.2.1, .int .i64 q141.2.2.2.2.1, v145] :: Res.sl Ek.str 9 v137 q134.1 :: Res.sl (Ek.pair (Ek.int .u8) (Ek.pair (Ek.int .u8) (Ek.pair Ek.bool Ek.str))) 31 v126 q123.1 :: Res.sl (Ek.pair (Ek.int .u8) (Ek.pair (Ek.int .u8) (Ek.pair Ek.bool Ek.str))) 31 v119 q116.1 :: Res.sl (Ek.pair (Ek.int .u8) (Ek.pair (Ek.int .u8) (Ek.pair Ek.bool Ek.str))) 31 v112 q109.1 :: ow) := hp
        refine ⟨_, rfl, ?_⟩
        clear hf; intro a hf
        refine st_ieql hf (by decide) (wantY hf rfl rfl hb154) rfl rfl ?_
        clear hf; intro a ha hf; clear ha
        obtain rfl := Option.some.inj hz153
        refine st_pick (v := .bool (q156 == (4096 : Int))) hf rfl rfl (fun hb' => ?_) (fun hb' => ?_) (by decide) ?_
        · rfl
        · exact absurd (hb154.symm.trans hb') (by decide)
        clear hf; intro a ha hf; clear ha
        refine st_nil hf (th_n ?_)
        exact ⟨hf.sub ⟨rfl, rfl, rfl, rfl, rfl, rfl, rfl, rfl, rfl, rfl, trivial⟩, hp⟩
      replace hz153 := ifF hz153 hb154
      refine st_skip hf (wantN hf rfl rfl hb154) rfl (by decide) ?_ rfl
      clear hf; intro a hf
      refine st_skip hf (wantN hf rfl rfl hb154) rfl (by decide) ?_ rfl
      clear hf; intro a hf
      refine st_skip hf (wantN hf rfl rfl hb154) rfl (by decide) ?_ rfl
      clear hf; intro a hf
      obtain rfl := Option.some.inj hz153
      refine st_pick (v := .bool false) hf rfl rfl (fun hb' => ?_) (fun hb' => ?_) (by decide) ?_
      · exact absurd (hb154.symm.trans hb') (by decide)
      · rfl
      clear hf; intro a ha hf; clear ha
      refine st_nil hf (th_n ?_)
      exact ⟨hf.sub ⟨rfl, rfl, rfl, rfl, rfl, rfl, rfl, rfl, rfl, rfl, trivial⟩, hp⟩
    rintro a w ⟨hf, hp⟩
    refine st_move hf rfl rfl (by decide) ?_
    clear hf; intro a ha hf; clear ha
    refine wpList_cut 3 (fun a w => Fr 231 a [(8, v41), (11, .int .i64 q116.2.1), (13, .int .i64 q123.2.1), (15, .int .i64 q134.2.2.1), (17, .int .i64 q141.2.2.1), (18, .string (bstr (mk0 (241 : Int) (0 : Int)))), (20, v112), (21, v119), (196, .bool (z155 && (q109.2.1 == (0 : Int))))] ∧ Hp S w0 w (Res.sl (Ek.pair Ek.str (Ek.pair Ek.bool (Ek.pair (Ek.int .i64) Ek.bool))) 81 v151 q148.2.2.2.2.2 :: Res.obj 79 v41 [.int .i64 q148.2.1, .int .i64 q148.2.2.1, .int .i64 q148.2.2.2.1, .int .i64 q148.2.2.2.2.1, v151] :: Res.sl Ek.str 9 v144 q141.1 :: Res.map (fun x : ByteArray => Value.string x) v145 q141.2.2.2.2.2 :: Res.obj 74 v57 [.int .i64 q141.2.2.2.1, .int .i64 q141.2.2.2.2.1, v145] :: Res.sl Ek.str 9 v137 q134.1 :: Res.sl (Ek.pair (Ek.int .u8) (Ek.pair (Ek.int .u8) (Ek.pair Ek.bool Ek.str))) 31 v126 q123.1 :: Res.sl (Ek.pair (Ek.int .u8) (Ek.pair (Ek.int .u8) (Ek.pair Ek.bool Ek.str))) 31 v119 q116.1 :: Res.sl (Ek.pair (Ek.int .u8) (Ek.pair (Ek.int .u8) (Ek.pair Ek.bool Ek.str))) 31 v112 q109.1 :: ow)) ?_ ?_
    · rcases Bool.eq_false_or_eq_true z155 with hb169 | hb169
      · skip
        refine st_move hf (wantY hf rfl rfl hb169) rfl (by decide) ?_
        clear hf; intro a ha hf; clear ha
        refine st_ieql hf (by decide) (wantY hf rfl rfl hb169) rfl rfl ?_
        clear hf; intro a ha hf; clear ha
        refine st_pick (v := .bool (q109.2.1 == (0 : Int))) hf rfl rfl (fun hb' => ?_) (fun hb' => ?_) (by decide) ?_
        · rfl
        · exact absurd (hb169.symm.trans hb') (by decide)
        clear hf; intro a ha hf; clear ha
        refine st_nil hf (th_n ?_)
        exact ⟨hf.sub ⟨rfl, rfl, rfl, rfl, rfl, rfl, rfl, rfl, (by rw [hb169]; rfl), trivial⟩, hp⟩
      refine st_skip hf (wantN hf rfl rfl hb169) rfl (by decide) ?_ rfl
      clear hf; intro a hf
      refine st_skip hf (wantN hf rfl rfl hb169) rfl (by decide) ?_ rfl
      clear hf; intro a hf
      refine st_pick (v := .bool false) hf rfl rfl (fun hb' => ?_) (fun hb' => ?_) (by decide) ?_
      · exact absurd (hb169.symm.trans hb') (by decide)
      · rfl
      clear hf; intro a ha hf; clear ha
      refine st_nil hf (th_n ?_)
      exact ⟨hf.sub ⟨rfl, rfl, rfl, rfl, rfl, rfl, rfl, rfl, (by rw [hb169]; rfl), trivial⟩, hp⟩
    rintro a w ⟨hf, hp⟩
    refine st_move hf rfl rfl (by decide) ?_
    clear hf; intro a ha hf; clear ha
    refine wpList_cut 4 (fun a w => Fr 231 a [(8, v41), (11, .int .i64 q116.2.1), (13, .int .i64 q123.2.1), (15, .int .i64 q134.2.2.1), (17, .int .i64 q141.2.2.1), (18, .string (bstr (mk0 (241 : Int) (0 : Int)))), (21, v119), (201, .bool ((z155 && (q109.2.1 == (0 : Int))) && ((q109.1.length : Int) == (128 : Int))))] ∧ Hp S w0 w (Res.sl (Ek.pair Ek.str (Ek.pair Ek.bool (Ek.pair (Ek.int .i64) Ek.bool))) 81 v151 q148.2.2.2.2.2 :: Res.obj 79 v41 [.int .i64 q148.2.1, .int .i64 q148.2.2.1, .int .i64 q148.2.2.2.1, .int .i64 q148.2.2.2.2.1, v151] :: Res.sl Ek.str 9 v144 q141.1 :: Res.map (fun x : ByteArray => Value.string x) v145 q141.2.2.2.2.2 :: Res.obj 74 v57 [.int .i64 q141.2.2.2.1, .int .i64 q141.2.2.2.2.1, v145] :: Res.sl Ek.str 9 v137 q134.1 :: Res.sl (Ek.pair (Ek.int .u8) (Ek.pair (Ek.int .u8) (Ek.pair Ek.bool Ek.str))) 31 v126 q123.1 :: Res.sl (Ek.pair (Ek.int .u8) (Ek.pair (Ek.int .u8) (Ek.pair Ek.bool Ek.str))) 31 v119 q116.1 :: Res.sl (Ek.pair (Ek.int .u8) (Ek.pair (Ek.int .u8) (Ek.pair Ek.bool Ek.str))) 31 v112 q109.1 :: ow)) ?_ ?_
    · rcases Bool.eq_false_or_eq_true (z155 && (q109.2.1 == (0 : Int))) with hb171 | hb171
      · skip
        refine st_move hf (wantY hf rfl rfl hb171) rfl (by decide) ?_
        clear hf; intro a ha hf; clear ha
        refine st_len (E := (Ek.pair (Ek.int .u8) (Ek.pair (Ek.int .u8) (Ek.pair Ek.bool Ek.str)))) hf (by decide) Try.underlying54 (wantY hf rfl rfl hb171) rfl (hp.sl (i := 8) rfl) ?_
        clear hf; intro a ha hf; clear ha
        refine st_ieql hf (by decide) (wantY hf rfl rfl hb171) rfl rfl ?_
        clear hf; intro a ha hf; clear ha
        refine st_pick (v := .bool ((q109.1.length : Int) == (128 : Int))) hf rfl rfl (fun hb' => ?_) (fun hb' => ?_) (by decide) ?_
        · rfl
        · exact absurd (hb171.symm.trans hb') (by decide)
        clear hf; intro a ha hf; clear ha
        refine st_nil hf (th_n ?_)
        exact ⟨hf.sub ⟨rfl, rfl, rfl, rfl, rfl, rfl, rfl, (by rw [hb171]; rfl), trivial⟩, hp⟩
      refine st_skip hf (wantN hf rfl rfl hb171) rfl (by decide) ?_ rfl
      clear hf; intro a hf
      refine st_skip hf (wantN hf rfl rfl hb171) rfl (by decide) ?_ rfl
      clear hf; intro a hf
      refine st_skip hf (wantN hf rfl rfl hb171) rfl (by decide) ?_ rfl
      clear hf; intro a hf
      refine st_pick (v := .bool false) hf rfl rfl (fun hb' => ?_) (fun hb' => ?_) (by decide) ?_
      · exact absurd (hb171.symm.trans hb') (by decide)
      · rfl
      clear hf; intro a ha hf; clear ha
      refine st_nil hf (th_n ?_)
      exact ⟨hf.sub ⟨rfl, rfl, rfl, rfl, rfl, rfl, rfl, (by rw [hb171]; rfl), trivial⟩, hp⟩
    rintro a w ⟨hf, hp⟩
    refine st_move hf rfl rfl (by decide) ?_
    clear hf; intro a ha hf; clear ha
    refine wpList_cut 3 (fun a w => Fr 231 a [(8, v41), (13, .int .i64 q123.2.1), (15, .int .i64 q134.2.2.1), (17, .int .i64 q141.2.2.1), (18, .string (bstr (mk0 (241 : Int) (0 : Int)))), (21, v119), (205, .bool (((z155 && (q109.2.1 == (0 : Int))) && ((q109.1.length : Int) == (128 : Int))) && (q116.2.1 == (0 : Int))))] ∧ Hp S w0 w (Res.sl (Ek.pair Ek.str (Ek.pair Ek.bool (Ek.pair (Ek.int .i64) Ek.bool))) 81 v151 q148.2.2.2.2.2 :: Res.obj 79 v41 [.int .i64 q148.2.1, .int .i64 q148.2.2.1, .int .i64 q148.2.2.2.1, .int .i64 q148.2.2.2.2.1, v151] :: Res.sl Ek.str 9 v144 q141.1 :: Res.map (fun x : ByteArray => Value.string x) v145 q141.2.2.2.2.2 :: Res.obj 74 v57 [.int .i64 q141.2.2.2.1, .int .i64 q141.2.2.2.2.1, v145] :: Res.sl Ek.str 9 v137 q134.1 :: Res.sl (Ek.pair (Ek.int .u8) (Ek.pair (Ek.int .u8) (Ek.pair Ek.bool Ek.str))) 31 v126 q123.1 :: Res.sl (Ek.pair (Ek.int .u8) (Ek.pair (Ek.int .u8) (Ek.pair Ek.bool Ek.str))) 31 v119 q116.1 :: Res.sl (Ek.pair (Ek.int .u8) (Ek.pair (Ek.int .u8) (Ek.pair Ek.bool Ek.str))) 31 v112 q109.1 :: ow)) ?_ ?_
    · rcases Bool.eq_false_or_eq_true ((z155 && (q109.2.1 == (0 : Int))) && ((q109.1.length : Int) == (128 : Int))) with hb173 | hb173
      · skip
        refine st_move hf (wantY hf rfl rfl hb173) rfl (by decide) ?_
        clear hf; intro a ha hf; clear ha
        refine st_ieql hf (by decide) (wantY hf rfl rfl hb173) rfl rfl ?_
        clear hf; intro a ha hf; clear ha
        refine st_pick (v := .bool (q116.2.1 == (0 : Int))) hf rfl rfl (fun hb' => ?_) (fun hb' => ?_) (by decide) ?_
        · rfl
        · exact absurd (hb173.symm.trans hb') (by decide)
        clear hf; intro a ha hf; clear ha
        refine st_nil hf (th_n ?_)
        exact ⟨hf.sub ⟨rfl, rfl, rfl, rfl, rfl, rfl, (by rw [hb173]; rfl), trivial⟩, hp⟩
      refine st_skip hf (wantN hf rfl rfl hb173) rfl (by decide) ?_ rfl
      clear hf; intro a hf
      refine st_skip hf (wantN hf rfl rfl hb173) rfl (by decide) ?_ rfl
      clear hf; intro a hf
      refine st_pick (v := .bool false) hf rfl rfl (fun hb' => ?_) (fun hb' => ?_) (by decide) ?_
      · exact absurd (hb173.symm.trans hb') (by decide)
      · rfl
      clear hf; intro a ha hf; clear ha
      refine st_nil hf (th_n ?_)
      exact ⟨hf.sub ⟨rfl, rfl, rfl, rfl, rfl, rfl, (by rw [hb173]; rfl), trivial⟩, hp⟩
    rintro a w ⟨hf, hp⟩
    refine st_move hf rfl rfl (by decide) ?_
    clear hf; intro a ha hf; clear ha
    refine wpList_cut 4 (fun a w => Fr 231 a [(8, v41), (13, .int .i64 q123.2.1), (15, .int .i64 q134.2.2.1), (17, .int .i64 q141.2.2.1), (18, .string (bstr (mk0 (241 : Int) (0 : Int)))), (210, .bool ((((z155 && (q109.2.1 == (0 : Int))) && ((q109.1.length : Int) == (128 : Int))) && (q116.2.1 == (0 : Int))) && ((q116.1.length : Int) == (0 : Int))))] ∧ Hp S w0 w (Res.sl (Ek.pair Ek.str (Ek.pair Ek.bool (Ek.pair (Ek.int .i64) Ek.bool))) 81 v151 q148.2.2.2.2.2 :: Res.obj 79 v41 [.int .i64 q148.2.1, .int .i64 q148.2.2.1, .int .i64 q148.2.2.2.1, .int .i64 q148.2.2.2.2.1, v151] :: Res.sl Ek.str 9 v144 q141.1 :: Res.map (fun x : ByteArray => Value.string x) v145 q141.2.2.2.2.2 :: Res.obj 74 v57 [.int .i64 q141.2.2.2.1, .int .i64 q141.2.2.2.2.1, v145] :: Res.sl Ek.str 9 v137 q134.1 :: Res.sl (Ek.pair (Ek.int .u8) (Ek.pair (Ek.int .u8) (Ek.pair Ek.bool Ek.str))) 31 v126 q123.1 :: Res.sl (Ek.pair (Ek.int .u8) (Ek.pair (Ek.int .u8) (Ek.pair Ek.bool Ek.str))) 31 v119 q116.1 :: Res.sl (Ek.pair (Ek.int .u8) (Ek.pair (Ek.int .u8) (Ek.pair Ek.bool Ek.str))) 31 v112 q109.1 :: ow)) ?_ ?_
    · rcases Bool.eq_false_or_eq_true (((z155 && (q109.2.1 == (0 : Int))) && ((q109.1.length : Int) == (128 : Int))) && (q116.2.1 == (0 : Int))) with hb175 | hb175
      · skip
        refine st_move hf (wantY hf rfl rfl hb175) rfl (by decide) ?_
        clear hf; intro a ha hf; clear ha
        refine st_len (E := (Ek.pair (Ek.int .u8) (Ek.pair (Ek.int .u8) (Ek.pair Ek.bool Ek.str)))) hf (by decide) Try.underlying54 (wantY hf rfl rfl hb175) rfl (hp.sl (i := 7) rfl) ?_
        clear hf; intro a ha hf; clear ha
        refine st_ieql hf (by decide) (wantY hf rfl rfl hb175) rfl rfl ?_
        clear hf; intro a ha hf; clear ha
        refine st_pick (v := .bool ((q116.1.length : Int) == (0 : Int))) hf rfl rfl (fun hb' => ?_) (fun hb' => ?_) (by decide) ?_
        · rfl
        · exact absurd (hb175.symm.trans hb') (by decide)
        clear hf; intro a ha hf; clear ha
        refine st_nil hf (th_n ?_)
        exact ⟨hf.sub ⟨rfl, rfl, rfl, rfl, rfl, (by rw [hb175]; rfl), trivial⟩, hp⟩
      refine st_skip hf (wantN hf rfl rfl hb175) rfl (by decide) ?_ rfl
      clear hf; intro a hf
      refine st_skip hf (wantN hf rfl rfl hb175) rfl (by decide) ?_ rfl
      clear hf; intro a hf
      refine st_skip hf (wantN hf rfl rfl hb175) rfl (by decide) ?_ rfl
      clear hf; intro a hf
      refine st_pick (v := .bool false) hf rfl rfl (fun hb' => ?_) (fun hb' => ?_) (by decide) ?_
      · exact absurd (hb175.symm.trans hb') (by decide)
      · rfl
      clear hf; intro a ha hf; clear ha
      refine st_nil hf (th_n ?_)
      exact ⟨hf.sub ⟨rfl, rfl, rfl, rfl, rfl, (by rw [hb175]; rfl), trivial⟩, hp⟩
    rintro a w ⟨hf, hp⟩
    refine st_move hf rfl rfl (by decide) ?_
    clear hf; intro a ha hf; clear ha
    refine wpList_cut 3 (fun a w => Fr 231 a [(8, v41), (15, .int .i64 q134.2.2.1), (17, .int .i64 q141.2.2.1), (18, .string (bstr (mk0 (241 : Int) (0 : Int)))), (214, .bool (((((z155 && (q109.2.1 == (0 : Int))) && ((q109.1.length : Int) == (128 : Int))) && (q116.2.1 == (0 : Int))) && ((q116.1.length : Int) == (0 : Int))) && (q123.2.1 == (1 : Int))))] ∧ Hp S w0 w (Res.sl (Ek.pair Ek.str (Ek.pair Ek.bool (Ek.pair (Ek.int .i64) Ek.bool))) 81 v151 q148.2.2.2.2.2 :: Res.obj 79 v41 [.int .i64 q148.2.1, .int .i64 q148.2.2.1, .int .i64 q148.2.2.2.1, .int .i64 q148.2.2.2.2.1, v151] :: Res.sl Ek.str 9 v144 q141.1 :: Res.map (fun x : ByteArray => Value.string x) v145 q141.2.2.2.2.2 :: Res.obj 74 v57 [.int .i64 q141.2.2.2.1, .int .i64 q141.2.2.2.2.1, v145] :: Res.sl Ek.str 9 v137 q134.1 :: Res.sl (Ek.pair (Ek.int .u8) (Ek.pair (Ek.int .u8) (Ek.pair Ek.bool Ek.str))) 31 v126 q123.1 :: Res.sl (Ek.pair (Ek.int .u8) (Ek.pair (Ek.int .u8) (Ek.pair Ek.bool Ek.str))) 31 v119 q116.1 :: Res.sl (Ek.pair (Ek.int .u8) (Ek.pair (Ek.int .u8) (Ek.pair Ek.bool Ek.str))) 31 v112 q109.1 :: ow)) ?_ ?_
    · rcases Bool.eq_false_or_eq_true ((((z155 && (q109.2.1 == (0 : Int))) && ((q109.1.length : Int) == (128 : Int))) && (q116.2.1 == (0 : Int))) && ((q116.1.length : Int) == (0 : Int))) with hb177 | hb177
      · skip
        refine st_move hf (wantY hf rfl rfl hb177) rfl (by decide) ?_
        clear hf; intro a ha hf; clear ha
        refine st_ieql hf (by decide) (wantY hf rfl rfl hb177) rfl rfl ?_
        clear hf; intro a ha hf; clear ha
        refine st_pick (v := .bool (q123.2.1 == (1 : Int))) hf rfl rfl (fun hb' => ?_) (fun hb' => ?_) (by decide) ?_
        · rfl
        · exact absurd (hb177.symm.trans hb') (by decide)
        clear hf; intro a ha hf; clear ha
        refine st_nil hf (th_n ?_)
        exact ⟨hf.sub ⟨rfl, rfl, rfl, rfl, (by rw [hb177]; rfl), trivial⟩, hp⟩
      refine st_skip hf (wantN hf rfl rfl hb177) rfl (by decide) ?_ rfl
      clear hf; intro a hf
      refine st_skip hf (wantN hf rfl rfl hb177) rfl (by decide) ?_ rfl
      clear hf; intro a hf
      refine st_pick (v := .bool false) hf rfl rfl (fun hb' => ?_) (fun hb' => ?_) (by decide) ?_
      · exact absurd (hb177.symm.trans hb') (by decide)
      · rfl
      clear hf; intro a ha hf; clear ha
      refine st_nil hf (th_n ?_)
      exact ⟨hf.sub ⟨rfl, rfl, rfl, rfl, (by rw [hb177]; rfl), trivial⟩, hp⟩
    rintro a w ⟨hf, hp⟩
    refine st_move hf rfl rfl (by decide) ?_
    clear hf; intro a ha hf; clear ha
    refine wpList_cut 3 (fun a w => Fr 231 a [(8, v41), (17, .int .i64 q141.2.2.1), (18, .string (bstr (mk0 (241 : Int) (0 : Int)))), (218, .bool ((((((z155 && (q109.2.1 == (0 : Int))) && ((q109.1.length : Int) == (128 : Int))) && (q116.2.1 == (0 : Int))) && ((q116.1.length : Int) == (0 : Int))) && (q123.2.1 == (1 : Int))) && (q134.2.2.1 == (4 : Int))))] ∧ Hp S w0 w (Res.sl (Ek.pair Ek.str (Ek.pair Ek.bool (Ek.pair (Ek.int .i64) Ek.bool))) 81 v151 q148.2.2.2.2.2 :: Res.obj 79 v41 [.int .i64 q148.2.1, .int .i64 q148.2.2.1, .int .i64 q148.2.2.2.1, .int .i64 q148.2.2.2.2.1, v151] :: Res.sl Ek.str 9 v144 q141.1 :: Res.map (fun x : ByteArray => Value.string x) v145 q141.2.2.2.2.2 :: Res.obj 74 v57 [.int .i64 q141.2.2.2.1, .int .i64 q141.2.2.2.2.1, v145] :: Res.sl Ek.str 9 v137 q134.1 :: Res.sl (Ek.pair (Ek.int .u8) (Ek.pair (Ek.int .u8) (Ek.pair Ek.bool Ek.str))) 31 v126 q123.1 :: Res.sl (Ek.pair (Ek.int .u8) (Ek.pair (Ek.int .u8) (Ek.pair Ek.bool Ek.str))) 31 v119 q116.1 :: Res.sl (Ek.pair (Ek.int .u8) (Ek.pair (Ek.int .u8) (Ek.pair Ek.bool Ek.str))) 31 v112 q109.1 :: ow)) ?_ ?_
    · rcases Bool.eq_false_or_eq_true (((((z155 && (q109.2.1 == (0 : Int))) && ((q109.1.length : Int) == (128 : Int))) && (q116.2.1 == (0 : Int))) && ((q116.1.length : Int) == (0 : Int))) && (q123.2.1 == (1 : Int))) with hb179 | hb179
      · skip
        refine st_move hf (wantY hf rfl rfl hb179) rfl (by decide) ?_
        clear hf; intro a ha hf; clear ha
        refine st_ieql hf (by decide) (wantY hf rfl rfl hb179) rfl rfl ?_
        clear hf; intro a ha hf; clear ha
        refine st_pick (v := .bool (q134.2.2.1 == (4 : Int))) hf rfl rfl (fun hb' => ?_) (fun hb' => ?_) (by decide) ?_
        · rfl
        · exact absurd (hb179.symm.trans hb') (by decide)
        clear hf; intro a ha hf; clear ha
        refine st_nil hf (th_n ?_)
        exact ⟨hf.sub ⟨rfl, rfl, rfl, (by rw [hb179]; rfl), trivial⟩, hp⟩
      refine st_skip hf (wantN hf rfl rfl hb179) rfl (by decide) ?_ rfl
      clear hf; intro a hf
      refine st_skip hf (wantN hf rfl rfl hb179) rfl (by decide) ?_ rfl
      clear hf; intro a hf
      refine st_pick (v := .bool false) hf rfl rfl (fun hb' => ?_) (fun hb' => ?_) (by decide) ?_
      · exact absurd (hb179.symm.trans hb') (by decide)
      · rfl
      clear hf; intro a ha hf; clear ha
      refine st_nil hf (th_n ?_)
      exact ⟨hf.sub ⟨rfl, rfl, rfl, (by rw [hb179]; rfl), trivial⟩, hp⟩
    rintro a w ⟨hf, hp⟩
    refine st_move hf rfl rfl (by decide) ?_
    clear hf; intro a ha hf; clear ha
    refine wpList_cut 3 (fun a w => Fr 231 a [(8, v41), (18, .string (bstr (mk0 (241 : Int) (0 : Int)))), (222, .bool (((((((z155 && (q109.2.1 == (0 : Int))) && ((q109.1.length : Int) == (128 : Int))) && (q116.2.1 == (0 : Int))) && ((q116.1.length : Int) == (0 : Int))) && (q123.2.1 == (1 : Int))) && (q134.2.2.1 == (4 : Int))) && (q141.2.2.1 == (4 : Int))))] ∧ Hp S w0 w (Res.sl (Ek.pair Ek.str (Ek.pair Ek.bool (Ek.pair (Ek.int .i64) Ek.bool))) 81 v151 q148.2.2.2.2.2 :: Res.obj 79 v41 [.int .i64 q148.2.1, .int .i64 q148.2.2.1, .int .i64 q148.2.2.2.1, .int .i64 q148.2.2.2.2.1, v151] :: Res.sl Ek.str 9 v144 q141.1 :: Res.map (fun x : ByteArray => Value.string x) v145 q141.2.2.2.2.2 :: Res.obj 74 v57 [.int .i64 q141.2.2.2.1, .int .i64 q141.2.2.2.2.1, v145] :: Res.sl Ek.str 9 v137 q134.1 :: Res.sl (Ek.pair (Ek.int .u8) (Ek.pair (Ek.int .u8) (Ek.pair Ek.bool Ek.str))) 31 v126 q123.1 :: Res.sl (Ek.pair (Ek.int .u8) (Ek.pair (Ek.int .u8) (Ek.pair Ek.bool Ek.str))) 31 v119 q116.1 :: Res.sl (Ek.pair (Ek.int .u8) (Ek.pair (Ek.int .u8) (Ek.pair Ek.bool Ek.str))) 31 v112 q109.1 :: ow)) ?_ ?_
    · rcases Bool.eq_false_or_eq_true ((((((z155 && (q109.2.1 == (0 : Int))) && ((q109.1.length : Int) == (128 : Int))) && (q116.2.1 == (0 : Int))) && ((q116.1.length : Int) == (0 : Int))) && (q123.2.1 == (1 : Int))) && (q134.2.2.1 == (4 : Int))) with hb181 | hb181
      · skip
        refine st_move hf (wantY hf rfl rfl hb181) rfl (by decide) ?_
        clear hf; intro a ha hf; clear ha
        refine st_ieql hf (by decide) (wantY hf rfl rfl hb181) rfl rfl ?_
        clear hf; intro a ha hf; clear ha
        refine st_pick (v := .bool (q141.2.2.1 == (4 : Int))) hf rfl rfl (fun hb' => ?_) (fun hb' => ?_) (by decide) ?_
        · rfl
        · exact absurd (hb181.symm.trans hb') (by decide)
        clear hf; intro a ha hf; clear ha
        refine st_nil hf (th_n ?_)
        exact ⟨hf.sub ⟨rfl, rfl, (by rw [hb181]; rfl), trivial⟩, hp⟩
      refine st_skip hf (wantN hf rfl rfl hb181) rfl (by decide) ?_ rfl
      clear hf; intro a hf
      refine st_skip hf (wantN hf rfl rfl hb181) rfl (by decide) ?_ rfl
      clear hf; intro a hf
      refine st_pick (v := .bool false) hf rfl rfl (fun hb' => ?_) (fun hb' => ?_) (by decide) ?_
      · exact absurd (hb181.symm.trans hb') (by decide)
      · rfl
      clear hf; intro a ha hf; clear ha
      refine st_nil hf (th_n ?_)
      exact ⟨hf.sub ⟨rfl, rfl, (by rw [hb181]; rfl), trivial⟩, hp⟩
    rintro a w ⟨hf, hp⟩
    refine st_move hf rfl rfl (by decide) ?_
    clear hf; intro a ha hf; clear ha
    obtain ⟨z184, hz182, h⟩ := bnd h
    refine wpList_cut 7 (fun a w => Fr 231 a [(230, .bool z184)] ∧ Hp S w0 w (Res.sl Ek.str 9 v144 q141.1 :: Res.map (fun x : ByteArray => Value.string x) v145 q141.2.2.2.2.2 :: Res.obj 74 v57 [.int .i64 q141.2.2.2.1, .int .i64 q141.2.2.2.2.1, v145] :: Res.sl Ek.str 9 v137 q134.1 :: Res.sl (Ek.pair (Ek.int .u8) (Ek.pair (Ek.int .u8) (Ek.pair Ek.bool Ek.str))) 31 v126 q123.1 :: Res.sl (Ek.pair (Ek.int .u8) (Ek.pair (Ek.int .u8) (Ek.pair Ek.bool Ek.str))) 31 v119 q116.1 :: Res.sl (Ek.pair (Ek.int .u8) (Ek.pair (Ek.int .u8) (Ek.pair Ek.bool Ek.str))) 31 v112 q109.1 :: ow)) ?_ ?_
    · rcases Bool.eq_false_or_eq_true (((((((z155 && (q109.2.1 == (0 : Int))) && ((q109.1.length : Int) == (128 : Int))) && (q116.2.1 == (0 : Int))) && ((q116.1.length : Int) == (0 : Int))) && (q123.2.1 == (1 : Int))) && (q134.2.2.1 == (4 : Int))) && (q141.2.2.1 == (4 : Int))) with hb183 | hb183
      · skip
        replace hz182 := ifT hz182 hb183
        refine st_move hf (wantY hf rfl rfl hb183) rfl (by decide) ?_
        clear hf; intro a ha hf; clear ha
        refine st_move hf (wantY hf rfl rfl hb183) rfl (by decide) ?_
        clear hf; intro a ha hf; clear ha
        obtain ⟨hc185, hz182⟩ := chk hz182
        refine st_strH hf (by decide) Try.underlying9 (wantY hf rfl rfl hb183) rfl rfl hc185 ?_
        clear hf; intro a ha hf; clear ha
        refine st_buildA (vals := [(0, .int .u8 (2 : Int)), (3, .string ((bstr (mk0 (241 : Int) (0 : Int))).extract 0 ((15 : Int)).toNat))]) (cells := [.int .u8 (2 : Int), .int .u8 (0 : Int), .bool false, .string ((bstr (mk0 (241 : Int) (0 : Int))).extract 0 ((15 : Int)).toNat)]) hf (by decide) (wantY hf rfl rfl hb183) (by simp [hf.ev (x := (Operand.const (.int .u8 (2 : Int)))) rfl, hf.ev (x := (Operand.tmp 226)) rfl]) (fun w => by kernel_rfl) ?_
        clear hf; intro a ha hf; clear ha
        obtain ⟨q186, hcall187, hz182⟩ := bnd hz182
        have hp188 : Hp _ _ _ (Res.sl (Ek.pair Ek.str (Ek.pair Ek.bool (Ek.pair (Ek.int .i64) Ek.bool))) 81 v151 q148.2.2.2.2.2 :: Res.obj 79 v41 [.int .i64 q148.2.1, .int .i64 q148.2.2.1, .int .i64 q148.2.2.2.1, .int .i64 q148.2.2.2.2.1, v151] :: Res.sl Ek.str 9 v144 q141.1 :: Res.map (fun x : ByteArray => Value.string x) v145 q141.2.2.2.2.2 :: Res.obj 74 v57 [.int .i64 q141.2.2.2.1, .int .i64 q141.2.2.2.2.1, v145] :: Res.sl Ek.str 9 v137 q134.1 :: Res.sl (Ek.pair (Ek.int .u8) (Ek.pair (Ek.int .u8) (Ek.pair Ek.bool Ek.str))) 31 v126 q123.1 :: Res.sl (Ek.pair (Ek.int .u8) (Ek.pair (Ek.int .u8) (Ek.pair Ek.bool Ek.str))) 31 v119 q116.1 :: Res.sl (Ek.pair (Ek.int .u8) (Ek.pair (Ek.int .u8) (Ek.pair Ek.bool Ek.str))) 31 v112 q109.1 :: ow) := Hp.sel (pre := [Res.sl (Ek.pair Ek.str (Ek.pair Ek.bool (Ek.pair (Ek.int .i64) Ek.bool))) 81 v151 q148.2.2.2.2.2, Res.obj 79 v41 [.int .i64 q148.2.1, .int .i64 q148.2.2.1, .int .i64 q148.2.2.2.1, .int .i64 q148.2.2.2.2.1, v151], Res.sl Ek.str 9 v144 q141.1, Res.map (fun x : ByteArray => Value.string x) v145 q141.2.2.2.2.2, Res.obj 74 v57 [.int .i64 q141.2.2.2.1, .int .i64 q141.2.2.2.2.1, v145], Res.sl Ek.str 9 v137 q134.1, Res.sl (Ek.pair (Ek.int .u8) (Ek.pair (Ek.int .u8) (Ek.pair Ek.bool Ek.str))) 31 v126 q123.1, Res.sl (Ek.pair (Ek.int .u8) (Ek.pair (Ek.int .u8) (Ek.pair Ek.bool Ek.str))) 31 v119 q116.1, Res.sl (Ek.pair (Ek.int .u8) (Ek.pair (Ek.int .u8) (Ek.pair Ek.bool Ek.str))) 31 v112 q109.1]) (tail := ow) (rs' := [Res.sl (Ek.pair Ek.str (Ek.pair Ek.bool (Ek.pair (Ek.int .i64) Ek.bool))) 81 v151 q148.2.2.2.2.2, Res.obj 79 v41 [.int .i64 q148.2.1, .int .i64 q148.2.2.1, .int .i64 q148.2.2.2.1, .int .i64 q148.2.2.2.2.1, v151], Res.sl Ek.str 9 v144 q141.1, Res.map (fun x : ByteArray => Value.string x) v145 q141.2.2.2.2.2, Res.obj 74 v57 [.int .i64 q141.2.2.2.1, .int .i64 q141.2.2.2.2.1, v145], Res.sl Ek.str 9 v137 q134.1, Res.sl (Ek.pair (Ek.int .u8) (Ek.pair (Ek.int .u8) (Ek.pair Ek.bool Ek.str))) 31 v126 q123.1, Res.sl (Ek.pair (Ek.int .u8) (Ek.pair (Ek.int .u8) (Ek.pair Ek.bool Ek.str))) 31 v119 q116.1, Res.sl (Ek.pair (Ek.int .u8) (Ek.pair (Ek.int .u8) (Ek.pair Ek.bool Ek.str))) 31 v112 q109.1]) hp [0, 1, 2, 3, 4, 5, 6, 7, 8] (by decide) (by simp) rfl
        refine st_call hf (by decide) Try.func23 rfl rfl (wantY hf rfl rfl hb183) rfl rfl (f_again_Sender_Hear_c _ _ _ _ _ _ _ _ _ _ _ hp188 hcall187) ?_
        rintro _ w ⟨v189, rfl, hp0⟩
        clear hp; have hp := hp0; clear hp0
        replace hp : Hp _ _ _ (Res.sl (Ek.pair Ek.str (Ek.pair Ek.bool (Ek.pair (Ek.int .i64) Ek.bool))) 81 v189 q186.2.2.2.2.2 :: Res.obj 79 v41 [.int .i64 q186.2.1, .int .i64 q186.2.2.1, .int .i64 q186.2.2.2.1, .int .i64 q186.2.2.2.2.1, v189] :: Res.sl Ek.str 9 v144 q141.1 :: Res.map (fun x : ByteArray => Value.string x) v145 q141.2.2.2.2.2 :: Res.obj 74 v57 [.int .i64 q141.2.2.2.1, .int .i64 q141.2.2.2.2.1, v145] :: Res.sl Ek.str 9 v137 q134.1 :: Res.sl (Ek.pair (Ek.int .u8) (Ek.pair (Ek.int .u8) (Ek.pair Ek.bool Ek.str))) 31 v126 q123.1 :: Res.sl (Ek.pair (Ek.int .u8) (Ek.pair (Ek.int .u8) (Ek.pair Ek.bool Ek.str))) 31 v119 q116.1 :: Res.sl (Ek.pair (Ek.int .u8) (Ek.pair (Ek.int .u8) (Ek.pair Ek.bool Ek.str))) 31 v112 q109.1 :: ow) := hp
        refine ⟨_, rfl, ?_⟩
        clear hf; intro a hf
        refine st_ieql hf (by decide) (wantY hf rfl rfl hb183) rfl rfl ?_
        clear hf; intro a ha hf; clear ha
        obtain rfl := Option.some.inj hz182
        refine st_pick (v := .bool (q186.1 == (4 : Int))) hf rfl rfl (fun hb' => ?_) (fun hb' => ?_) (by decide) ?_
        · rfl
        · exact absurd (hb183.symm.trans hb') (by decide)
        clear hf; intro a ha hf; clear ha
        refine st_nil hf (th_n ?_)
        have hp : Hp _ _ _ (Res.sl Ek.str 9 v144 q141.1 :: Res.map (fun x : ByteArray => Value.string x) v145 q141.2.2.2.2.2 :: Res.obj 74 v57 [.int .i64 q141.2.2.2.1, .int .i64 q141.2.2.2.2.1, v145] :: Res.sl Ek.str 9 v137 q134.1 :: Res.sl (Ek.pair (Ek.int .u8) (Ek.pair (Ek.int .u8) (Ek.pair Ek.bool Ek.str))) 31 v126 q123.1 :: Res.sl (Ek.pair (Ek.int .u8) (Ek.pair (Ek.int .u8) (Ek.pair Ek.bool Ek.str))) 31 v119 q116.1 :: Res.sl (Ek.pair (Ek.int .u8) (Ek.pair (Ek.int .u8) (Ek.pair Ek.bool Ek.str))) 31 v112 q109.1 :: ow) := Hp.sel (pre := [Res.sl (Ek.pair Ek.str (Ek.pair Ek.bool (Ek.pair (Ek.int .i64) Ek.bool))) 81 v189 q186.2.2.2.2.2, Res.obj 79 v41 [.int .i64 q186.2.1, .int .i64 q186.2.2.1, .int .i64 q186.2.2.2.1, .int .i64 q186.2.2.2.2.1, v189], Res.sl Ek.str 9 v144 q141.1, Res.map (fun x : ByteArray => Value.string x) v145 q141.2.2.2.2.2, Res.obj 74 v57 [.int .i64 q141.2.2.2.1, .int .i64 q141.2.2.2.2.1, v145], Res.sl Ek.str 9 v137 q134.1, Res.sl (Ek.pair (Ek.int .u8) (Ek.pair (Ek.int .u8) (Ek.pair Ek.bool Ek.str))) 31 v126 q123.1, Res.sl (Ek.pair (Ek.int .u8) (Ek.pair (Ek.int .u8) (Ek.pair Ek.bool Ek.str))) 31 v119 q116.1, Res.sl (Ek.pair (Ek.int .u8) (Ek.pair (Ek.int .u8) (Ek.pair Ek.bool Ek.str))) 31 v112 q109.1]) (tail := ow) (rs' := [Res.sl Ek.str 9 v144 q141.1, Res.map (fun x : ByteArray => Value.string x) v145 q141.2.2.2.2.2, Res.obj 74 v57 [.int .i64 q141.2.2.2.1, .int .i64 q141.2.2.2.2.1, v145], Res.sl Ek.str 9 v137 q134.1, Res.sl (Ek.pair (Ek.int .u8) (Ek.pair (Ek.int .u8) (Ek.pair Ek.bool Ek.str))) 31 v126 q123.1, Res.sl (Ek.pair (Ek.int .u8) (Ek.pair (Ek.int .u8) (Ek.pair Ek.bool Ek.str))) 31 v119 q116.1, Res.sl (Ek.pair (Ek.int .u8) (Ek.pair (Ek.int .u8) (Ek.pair Ek.bool Ek.str))) 31 v112 q109.1]) hp [2, 3, 4, 5, 6, 7, 8] (by decide) (by simp) rfl
        exact ⟨hf.sub ⟨rfl, trivial⟩, hp⟩
      replace hz182 := ifF hz182 hb183
      refine st_skip hf (wantN hf rfl rfl hb183) rfl (by decide) ?_ rfl
      clear hf; intro a hf
      refine st_skip hf (wantN hf rfl rfl hb183) rfl (by decide) ?_ rfl
      clear hf; intro a hf
      refine st_skip hf (wantN hf rfl rfl hb183) rfl (by decide) ?_ rfl
      clear hf; intro a hf
      refine st_skip hf (wantN hf rfl rfl hb183) rfl (by decide) ?_ rfl
      clear hf; intro a hf
      refine st_skip hf (wantN hf rfl rfl hb183) rfl (by decide) ?_ rfl
      clear hf; intro a hf
      refine st_skip hf (wantN hf rfl rfl hb183) rfl (by decide) ?_ rfl
      clear hf; intro a hf
      obtain rfl := Option.some.inj hz182
      refine st_pick (v := .bool false) hf rfl rfl (fun hb' => ?_) (fun hb' => ?_) (by decide) ?_
      · exact absurd (hb183.symm.trans hb') (by decide)
      · rfl
      clear hf; intro a ha hf; clear ha
      refine st_nil hf (th_n ?_)
      have hp : Hp _ _ _ (Res.sl Ek.str 9 v144 q141.1 :: Res.map (fun x : ByteArray => Value.string x) v145 q141.2.2.2.2.2 :: Res.obj 74 v57 [.int .i64 q141.2.2.2.1, .int .i64 q141.2.2.2.2.1, v145] :: Res.sl Ek.str 9 v137 q134.1 :: Res.sl (Ek.pair (Ek.int .u8) (Ek.pair (Ek.int .u8) (Ek.pair Ek.bool Ek.str))) 31 v126 q123.1 :: Res.sl (Ek.pair (Ek.int .u8) (Ek.pair (Ek.int .u8) (Ek.pair Ek.bool Ek.str))) 31 v119 q116.1 :: Res.sl (Ek.pair (Ek.int .u8) (Ek.pair (Ek.int .u8) (Ek.pair Ek.bool Ek.str))) 31 v112 q109.1 :: ow) := Hp.sel (pre := [Res.sl (Ek.pair Ek.str (Ek.pair Ek.bool (Ek.pair (Ek.int .i64) Ek.bool))) 81 v151 q148.2.2.2.2.2, Res.obj 79 v41 [.int .i64 q148.2.1, .int .i64 q148.2.2.1, .int .i64 q148.2.2.2.1, .int .i64 q148.2.2.2.2.1, v151], Res.sl Ek.str 9 v144 q141.1, Res.map (fun x : ByteArray => Value.string x) v145 q141.2.2.2.2.2, Res.obj 74 v57 [.int .i64 q141.2.2.2.1, .int .i64 q141.2.2.2.2.1, v145], Res.sl Ek.str 9 v137 q134.1, Res.sl (Ek.pair (Ek.int .u8) (Ek.pair (Ek.int .u8) (Ek.pair Ek.bool Ek.str))) 31 v126 q123.1, Res.sl (Ek.pair (Ek.int .u8) (Ek.pair (Ek.int .u8) (Ek.pair Ek.bool Ek.str))) 31 v119 q116.1, Res.sl (Ek.pair (Ek.int .u8) (Ek.pair (Ek.int .u8) (Ek.pair Ek.bool Ek.str))) 31 v112 q109.1]) (tail := ow) (rs' := [Res.sl Ek.str 9 v144 q141.1, Res.map (fun x : ByteArray => Value.string x) v145 q141.2.2.2.2.2, Res.obj 74 v57 [.int .i64 q141.2.2.2.1, .int .i64 q141.2.2.2.2.1, v145], Res.sl Ek.str 9 v137 q134.1, Res.sl (Ek.pair (Ek.int .u8) (Ek.pair (Ek.int .u8) (Ek.pair Ek.bool Ek.str))) 31 v126 q123.1, Res.sl (Ek.pair (Ek.int .u8) (Ek.pair (Ek.int .u8) (Ek.pair Ek.bool Ek.str))) 31 v119 q116.1, Res.sl (Ek.pair (Ek.int .u8) (Ek.pair (Ek.int .u8) (Ek.pair Ek.bool Ek.str))) 31 v112 q109.1]) hp [2, 3, 4, 5, 6, 7, 8] (by decide) (by simp) rfl
      exact ⟨hf.sub ⟨rfl, trivial⟩, hp⟩
    rintro a w ⟨hf, hp⟩
    refine st_assign hf rfl rfl (by decide) ?_
    clear hf; intro a ha hf; clear ha
    refine st_nil hf ?_
    refine th_n ?_
    refine wp_ret ?_
    obtain rfl := Option.some.inj h
    have hp : Hp _ _ _ (ow) := Hp.sel (pre := [Res.sl Ek.str 9 v144 q141.1, Res.map (fun x : ByteArray => Value.string x) v145 q141.2.2.2.2.2, Res.obj 74 v57 [.int .i64 q141.2.2.2.1, .int .i64 q141.2.2.2.2.1, v145], Res.sl Ek.str 9 v137 q134.1, Res.sl (Ek.pair (Ek.int .u8) (Ek.pair (Ek.int .u8) (Ek.pair Ek.bool Ek.str))) 31 v126 q123.1, Res.sl (Ek.pair (Ek.int .u8) (Ek.pair (Ek.int .u8) (Ek.pair Ek.bool Ek.str))) 31 v119 q116.1, Res.sl (Ek.pair (Ek.int .u8) (Ek.pair (Ek.int .u8) (Ek.pair Ek.bool Ek.str))) 31 v112 q109.1]) (tail := ow) (rs' := []) hp [] (by decide) (by simp) rfl
    exact ⟨rfl, ⟨hf.sub ⟨rfl, trivial⟩, hp⟩⟩
  replace h := smR h
  obtain ⟨rfl, hf, hp⟩ := hO
  refine ib_r ?_
  refine th_r ?_
  obtain rfl := Option.some.inj h
  exact ⟨rfl, ⟨hf.sub ⟨rfl, trivial⟩, hp⟩⟩

end Go.Proofs.Ytmdigffgmohcnaa
