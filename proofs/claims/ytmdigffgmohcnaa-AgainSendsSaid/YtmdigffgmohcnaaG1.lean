/- The functions foghorn foghornlaw28.AgainSends: what each answers, as a plain function, and that its call answers it; printed by gen.py. -/
import Derived.Test.YtmdigffgmohcnaaProg
import Derived.Test.YtmdigffgmohcnaaGlUa
import Derived.KernelRfl
import Derived.Test.YtmdigffgmohcnaaG1p2
set_option linter.unusedVariables false
set_option linter.unusedSimpArgs false
set_option maxRecDepth 100000
set_option maxHeartbeats 4000000
namespace Go.Proofs.Ytmdigffgmohcnaa
open GL
noncomputable def f_foghornlaw28_AgainSends.j1 (i11 : Int) (xx7c_0 : Int) (xx7c_1 : Int) (xx7c_2 : Int) (xx7c_3 : Int) (xx7c_4 : (List (ByteArray × Bool × Int × Bool))) (yx9c_0 : Int) (yx9c_1 : Int) (yx9c_2 : Int) (yx9c_3 : (List (ByteArray × Int × Bool))) : Option ((Int × Int × Int × Int × (List (ByteArray × Bool × Int × Bool)) × Int × Int × Int × (List (ByteArray × Int × Bool)) × Int) ⊕ (Unit ⊕ Bool)) := ((f_again_Sender_Left xx7c_0 xx7c_1 xx7c_2 xx7c_3 xx7c_4).bind fun q33 => ((f_foghornref28_Sender_Left yx9c_0 yx9c_1 yx9c_2 yx9c_3).bind fun q45 => (if (q33 != q45) = true then (some (Sum.inr (Sum.inr false))) else (some (Sum.inl (xx7c_0, xx7c_1, xx7c_2, xx7c_3, xx7c_4, yx9c_0, yx9c_1, yx9c_2, yx9c_3, (IntKind.i64.wrap (i11 + (1 : Int)))))))))
noncomputable def f_foghornlaw28_AgainSends.s2c (ax13 : (List (Int × Int × Bool × ByteArray))) (k17 : Int) : Option (((List (Int × Int × Bool × ByteArray)) × Int) ⊕ Unit) := (if (decide (k17 < (ax13.length : Int))) = true then (if 0 ≤ k17 ∧ k17 < (ax13.length : Int) then (some (Sum.inl ((ax13.set (k17).toNat ((0 : Int), (0 : Int), false, ByteArray.empty)), (IntKind.i64.wrap (k17 + (1 : Int)))))) else none) else (some (Sum.inr ())))
noncomputable def f_foghornlaw28_AgainSends.s2  (s : ((List (Int × Int × Bool × ByteArray)) × Int)) : Option (((List (Int × Int × Bool × ByteArray)) × Int) ⊕ Unit) := f_foghornlaw28_AgainSends.s2c s.1 s.2
noncomputable def f_foghornlaw28_AgainSends.j2 (xx7c_0 : Int) (xx7c_1 : Int) (xx7c_2 : Int) (xx7c_3 : Int) (xx7c_4 : (List (ByteArray × Bool × Int × Bool))) (yx9c_0 : Int) (yx9c_1 : Int) (yx9c_2 : Int) (yx9c_3 : (List (ByteArray × Int × Bool))) (i11 : Int) (now12 : Int) : Option ((Int × Int × Int × Int × (List (ByteArray × Bool × Int × Bool)) × Int × Int × Int × (List (ByteArray × Int × Bool)) × Int) ⊕ (Unit ⊕ Bool)) := ((f_again_Sender_Tick xx7c_0 xx7c_1 xx7c_2 xx7c_3 xx7c_4 now12).bind fun q71 => ((f_foghornref28_Sender_Tick yx9c_0 yx9c_1 yx9c_2 yx9c_3 now12).bind fun q78 => ((if (q71.2.1 != q78.2.1) = true then (some true) else ((f_foghornlaw28_sameAll q71.1 q78.1).bind fun q88 => (some (!q88)))).bind fun z87 => (if z87 = true then (some (Sum.inr (Sum.inr false))) else ((loop f_foghornlaw28_AgainSends.s2 (q71.1, (0 : Int))).bind (fun q103 => (f_foghornlaw28_AgainSends.j1 i11 q71.2.2.1 q71.2.2.2.1 q71.2.2.2.2.1 q71.2.2.2.2.2.1 q71.2.2.2.2.2.2 q78.2.2.1 q78.2.2.2.1 q78.2.2.2.2.1 q78.2.2.2.2.2)))))))
noncomputable def f_foghornlaw28_AgainSends.j3 (xx7c_0 : Int) (xx7c_1 : Int) (xx7c_2 : Int) (xx7c_3 : Int) (xx7c_4 : (List (ByteArray × Bool × Int × Bool))) (yx9c_0 : Int) (yx9c_1 : Int) (yx9c_2 : Int) (yx9c_3 : (List (ByteArray × Int × Bool))) (i11 : Int) (f18c_0 : Int) (f18c_1 : Int) (f18c_2 : Bool) (f18c_3 : ByteArray) : Option ((Int × Int × Int × Int × (List (ByteArray × Bool × Int × Bool)) × Int × Int × Int × (List (ByteArray × Int × Bool)) × Int) ⊕ (Unit ⊕ Bool)) := ((f_again_Sender_Hear xx7c_0 xx7c_1 xx7c_2 xx7c_3 xx7c_4 f18c_0 f18c_1 f18c_2 f18c_3).bind fun q116 => ((f_foghornref28_Sender_Hear yx9c_0 yx9c_1 yx9c_2 yx9c_3 f18c_0 f18c_1 f18c_2 f18c_3).bind fun q121 => (if (q116.1 != q121.1) = true then (some (Sum.inr (Sum.inr false))) else (f_foghornlaw28_AgainSends.j1 i11 q116.2.1 q116.2.2.1 q116.2.2.2.1 q116.2.2.2.2.1 q116.2.2.2.2.2 q121.2.1 q121.2.2.1 q121.2.2.2.1 q121.2.2.2.2))))
noncomputable def f_foghornlaw28_AgainSends.s1c (l2 : (List (Int × Int × Bool × (Int × Int × Bool × ByteArray)))) (xx7c_0 : Int) (xx7c_1 : Int) (xx7c_2 : Int) (xx7c_3 : Int) (xx7c_4 : (List (ByteArray × Bool × Int × Bool))) (yx9c_0 : Int) (yx9c_1 : Int) (yx9c_2 : Int) (yx9c_3 : (List (ByteArray × Int × Bool))) (i11 : Int) : Option ((Int × Int × Int × Int × (List (ByteArray × Bool × Int × Bool)) × Int × Int × Int × (List (ByteArray × Int × Bool)) × Int) ⊕ (Unit ⊕ Bool)) := (if ((decide (i11 < (l2.length : Int))) && (decide (i11 < (400 : Int)))) = true then (if 0 ≤ i11 ∧ i11 < (l2.length : Int) then (if ((((gt l2 i11).1).tmod (4 : Int)) == (0 : Int)) = true then (if 0 ≤ i11 ∧ i11 < (l2.length : Int) then ((f_again_Sender_Offer xx7c_0 xx7c_1 xx7c_2 xx7c_3 xx7c_4 (((gt l2 i11).2.2.2).2.2.2)).bind fun q59 => (if 0 ≤ i11 ∧ i11 < (l2.length : Int) then ((f_foghornref28_Sender_Offer yx9c_0 yx9c_1 yx9c_2 yx9c_3 (((gt l2 i11).2.2.2).2.2.2)).bind fun q65 => (if (q59.1 != q65.1) = true then (some (Sum.inr (Sum.inr false))) else (f_foghornlaw28_AgainSends.j1 i11 q59.2.1 q59.2.2.1 q59.2.2.2.1 q59.2.2.2.2.1 q59.2.2.2.2.2 q65.2.1 q65.2.2.1 q65.2.2.2.1 q65.2.2.2.2))) else none)) else none) else (if ((((gt l2 i11).1).tmod (4 : Int)) == (1 : Int)) = true then (if 0 ≤ i11 ∧ i11 < (l2.length : Int) then (if 0 ≤ i11 ∧ i11 < (l2.length : Int) then (if ((gt l2 i11).2.2.1) = true then (f_foghornlaw28_AgainSends.j2 xx7c_0 xx7c_1 xx7c_2 xx7c_3 xx7c_4 yx9c_0 yx9c_1 yx9c_2 yx9c_3 i11 (IntKind.i64.wrap (yx9c_2 + (iand .i64 ((gt l2 i11).2.1) (15 : Int))))) else (f_foghornlaw28_AgainSends.j2 xx7c_0 xx7c_1 xx7c_2 xx7c_3 xx7c_4 yx9c_0 yx9c_1 yx9c_2 yx9c_3 i11 ((gt l2 i11).2.1))) else none) else none) else (if ((((gt l2 i11).1).tmod (4 : Int)) == (2 : Int)) = true then (if 0 ≤ i11 ∧ i11 < (l2.length : Int) then (if 0 ≤ i11 ∧ i11 < (l2.length : Int) then (if ((gt l2 i11).2.2.1) = true then ((f_foghornref28_Sender_Front yx9c_0 yx9c_1 yx9c_2 yx9c_3).bind fun q127 => (f_foghornlaw28_AgainSends.j3 xx7c_0 xx7c_1 xx7c_2 xx7c_3 xx7c_4 yx9c_0 yx9c_1 yx9c_2 yx9c_3 i11 (((gt l2 i11).2.2.2).1) (IntKind.u8.wrap (((((gt l2 i11).2.2.2).2.1).tmod (16 : Int)) + (IntKind.u8.wrap ((q127).tmod (256 : Int))))) (((gt l2 i11).2.2.2).2.2.1) (((gt l2 i11).2.2.2).2.2.2))) else (f_foghornlaw28_AgainSends.j3 xx7c_0 xx7c_1 xx7c_2 xx7c_3 xx7c_4 yx9c_0 yx9c_1 yx9c_2 yx9c_3 i11 (((gt l2 i11).2.2.2).1) (((gt l2 i11).2.2.2).2.1) (((gt l2 i11).2.2.2).2.2.1) (((gt l2 i11).2.2.2).2.2.2))) else none) else none) else (f_foghornlaw28_AgainSends.j1 i11 xx7c_0 xx7c_1 xx7c_2 xx7c_3 xx7c_4 yx9c_0 yx9c_1 yx9c_2 yx9c_3)))) else none) else (some (Sum.inr (Sum.inl ()))))
noncomputable def f_foghornlaw28_AgainSends.s1 (l2 : (List (Int × Int × Bool × (Int × Int × Bool × ByteArray)))) (s : (Int × Int × Int × Int × (List (ByteArray × Bool × Int × Bool)) × Int × Int × Int × (List (ByteArray × Int × Bool)) × Int)) : Option ((Int × Int × Int × Int × (List (ByteArray × Bool × Int × Bool)) × Int × Int × Int × (List (ByteArray × Int × Bool)) × Int) ⊕ (Unit ⊕ Bool)) := f_foghornlaw28_AgainSends.s1c l2 s.1 s.2.1 s.2.2.1 s.2.2.2.1 s.2.2.2.2.1 s.2.2.2.2.2.1 s.2.2.2.2.2.2.1 s.2.2.2.2.2.2.2.1 s.2.2.2.2.2.2.2.2.1 s.2.2.2.2.2.2.2.2.2
noncomputable def f_foghornlaw28_AgainSends (window0 : Int) (wait1 : Int) (l2 : (List (Int × Int × Bool × (Int × Int × Bool × ByteArray)))) : Option Bool := ((f_again_NewSender window0 wait1).bind fun q1 => ((f_foghornref28_NewSender window0 wait1).bind fun q5 => (if ((q1.2 != q5.2) || (((q1.1).isNone) != (q1.2 != (0 : Int)))) = true then (some false) else (if (q1.2 != (0 : Int)) = true then (some true) else ((q1.1).bind fun s11 => ((q5.1).bind fun s15 => ((loop (f_foghornlaw28_AgainSends.s1 l2) (s11.1, s11.2.1, s11.2.2.1, s11.2.2.2.1, s11.2.2.2.2, s15.1, s15.2.1, s15.2.2.1, s15.2.2.2, (0 : Int))).bind (fun q139 => sm q139 (fun q140 => (some true)) (fun q141 => (some q141))))))))))
theorem f_foghornlaw28_AgainSends_c {S : Nat → Prop} {w0 w : World} {ow : List Res} (hp : Hp S w0 w ow) (window0 : Int) (wait1 : Int) (vl2 : Value) (l2 : (List (Int × Int × Bool × (Int × Int × Bool × ByteArray)))) (hl2 : RdS (Ek.pair (Ek.int .u8) (Ek.pair (Ek.int .i64) (Ek.pair Ek.bool (Ek.pair (Ek.int .u8) (Ek.pair (Ek.int .u8) (Ek.pair Ek.bool Ek.str)))))) S w0 vl2 l2) {r : Bool} (h : f_foghornlaw28_AgainSends window0 wait1 l2 = some r) :
    Calls Try.prog 4 #[.int .i64 window0, .int .i64 wait1, vl2] w (fun e w' => e = .returned (.bool r) ∧ Hp S w0 w' (ow)) := by
  unfold f_foghornlaw28_AgainSends at h
  refine enter (n := 161) (args := [.int .i64 window0, .int .i64 wait1, vl2]) Try.func4 rfl rfl (Nat.le_of_ble_eq_true rfl) fun a hf => ?_
  replace hf : Fr 161 a [(0, .int .i64 window0), (1, .int .i64 wait1), (2, vl2)] := hf
  refine wp_mono (Q := fun e a w => e = .ret ∧ Fr 161 a [(6, .bool r)] ∧ Hp S w0 w (ow)) ?_ ?_
  rotate_left
  · rintro e a w ⟨rfl, hf, hp⟩
    exact ret1 hf rfl rfl ⟨rfl, hp⟩
  refine wp_seq ?_
  refine wp_reg ?_
  refine st_assign hf rfl rfl (by decide) ?_
  clear hf; intro a ha hf; clear ha
  refine st_nil hf ?_
  refine th_n ?_
  refine wp_seq ?_
  refine wp_reg ?_
  refine st_move hf rfl rfl (by decide) ?_
  clear hf; intro a ha hf; clear ha
  refine st_move hf rfl rfl (by decide) ?_
  clear hf; intro a ha hf; clear ha
  obtain ⟨q1, hcall2, h⟩ := bnd h
  refine st_call hf (by decide) Try.func15 rfl rfl rfl rfl rfl (f_again_NewSender_c hp _ _ hcall2) ?_
  rintro _ w ⟨v3, rfl, hp0⟩
  clear hp; have hp := hp0; clear hp0
  replace hp : Hp _ _ _ (Res.opt pk79 v3 q1.1 :: ow) := hp
  refine ⟨_, rfl, ?_⟩
  clear hf; intro a hf
  refine st_move hf rfl rfl (by decide) ?_
  clear hf; intro a ha hf; clear ha
  refine st_extract hf (by decide) rfl rfl rfl ?_
  clear hf; intro a ha hf; clear ha
  refine st_extract hf (by decide) rfl rfl rfl ?_
  clear hf; intro a ha hf; clear ha
  refine st_assign hf rfl rfl (by decide) ?_
  clear hf; intro a ha hf; clear ha
  refine st_assign hf rfl rfl (by decide) ?_
  clear hf; intro a ha hf; clear ha
  refine st_nil hf ?_
  refine th_n ?_
  refine wp_seq ?_
  refine wp_reg ?_
  refine st_move hf rfl rfl (by decide) ?_
  clear hf; intro a ha hf; clear ha
  refine st_move hf rfl rfl (by decide) ?_
  clear hf; intro a ha hf; clear ha
  obtain ⟨q5, hcall6, h⟩ := bnd h
  refine st_call hf (by decide) Try.func16 rfl rfl rfl rfl rfl (f_foghornref28_NewSender_c hp _ _ hcall6) ?_
  rintro _ w ⟨v7, rfl, hp0⟩
  clear hp; have hp := hp0; clear hp0
  replace hp : Hp _ _ _ (Res.opt pk53 v7 q5.1 :: Res.opt pk79 v3 q1.1 :: ow) := hp
  refine ⟨_, rfl, ?_⟩
  clear hf; intro a hf
  refine st_move hf rfl rfl (by decide) ?_
  clear hf; intro a ha hf; clear ha
  refine st_extract hf (by decide) rfl rfl rfl ?_
  clear hf; intro a ha hf; clear ha
  refine st_extract hf (by decide) rfl rfl rfl ?_
  clear hf; intro a ha hf; clear ha
  refine st_assign hf rfl rfl (by decide) ?_
  clear hf; intro a ha hf; clear ha
  refine st_assign hf rfl rfl (by decide) ?_
  clear hf; intro a ha hf; clear ha
  refine st_nil hf ?_
  refine th_n ?_
  refine wp_seq ?_
  refine wp_seq ?_
  refine wp_reg ?_
  refine st_move hf rfl rfl (by decide) ?_
  clear hf; intro a ha hf; clear ha
  refine st_move hf rfl rfl (by decide) ?_
  clear hf; intro a ha hf; clear ha
  refine st_ineq hf (by decide) rfl rfl rfl ?_
  clear hf; intro a ha hf; clear ha
  refine st_move hf rfl rfl (by decide) ?_
  clear hf; intro a ha hf; clear ha
  refine wpList_cut 6 (fun a w => Fr 161 a [(2, vl2), (7, v3), (8, .int .i64 q1.2), (9, v7), (40, .bool ((q1.2 != q5.2) || (((q1.1).isNone) != (q1.2 != (0 : Int)))))] ∧ Hp S w0 w (Res.opt pk53 v7 q5.1 :: Res.opt pk79 v3 q1.1 :: ow)) ?_ ?_
  · rcases Bool.eq_false_or_eq_true (q1.2 != q5.2) with hb10 | hb10
    · skip
      refine st_skip hf (wantN hf rfl rfl hb10) rfl (by decide) ?_ rfl
      clear hf; intro a hf
      refine st_skip hf (wantN hf rfl rfl hb10) rfl (by decide) ?_ rfl
      clear hf; intro a hf
      refine st_skip hf (wantN hf rfl rfl hb10) rfl (by decide) ?_ rfl
      clear hf; intro a hf
      refine st_skip hf (wantN hf rfl rfl hb10) rfl (by decide) ?_ rfl
      clear hf; intro a hf
      refine st_skip hf (wantN hf rfl rfl hb10) rfl (by decide) ?_ rfl
      clear hf; intro a hf
      refine st_pick (v := .bool true) hf rfl rfl (fun hb' => ?_) (fun hb' => ?_) (by decide) ?_
      · rfl
      · exact absurd (hb10.symm.trans hb') (by decide)
      clear hf; intro a ha hf; clear ha
      refine st_nil hf (th_n ?_)
      exact ⟨hf.sub ⟨rfl, rfl, rfl, rfl, (by rw [hb10]; rfl), trivial⟩, hp⟩
    refine st_move hf (wantY hf rfl rfl hb10) rfl (by decide) ?_
    clear hf; intro a ha hf; clear ha
    refine st_peql hf (by decide) Try.underlying44 (wantY hf rfl rfl hb10) rfl rfl (hp.nilB (i := 1) rfl) ?_
    clear hf; intro a ha hf; clear ha
    refine st_move hf (wantY hf rfl rfl hb10) rfl (by decide) ?_
    clear hf; intro a ha hf; clear ha
    refine st_ineq hf (by decide) (wantY hf rfl rfl hb10) rfl rfl ?_
    clear hf; intro a ha hf; clear ha
    refine st_bneq hf (by decide) Try.underlying4 (wantY hf rfl rfl hb10) rfl rfl ?_
    clear hf; intro a ha hf; clear ha
    refine st_pick (v := .bool (((q1.1).isNone) != (q1.2 != (0 : Int)))) hf rfl rfl (fun hb' => ?_) (fun hb' => ?_) (by decide) ?_
    · exact absurd (hb10.symm.trans hb') (by decide)
    · rfl
    clear hf; intro a ha hf; clear ha
    refine st_nil hf (th_n ?_)
    exact ⟨hf.sub ⟨rfl, rfl, rfl, rfl, (by rw [hb10]; rfl), trivial⟩, hp⟩
  rintro a w ⟨hf, hp⟩
  refine st_nil hf ?_
  refine th_n ?_
  refine wp_if hf rfl (fun hb => ?_) (fun hb => ?_)
  · replace h := ifT h hb
    refine wp_seq ?_
    refine wp_reg ?_
    refine st_assign hf rfl rfl (by decide) ?_
    clear hf; intro a ha hf; clear ha
    refine st_nil hf ?_
    refine th_n ?_
    refine wp_ret ?_
    refine th_r ?_
    obtain rfl := Option.some.inj h
    have hp : Hp _ _ _ (ow) := Hp.sel (pre := [Res.opt pk53 v7 q5.1, Res.opt pk79 v3 q1.1]) (tail := ow) (rs' := []) hp [] (by decide) (by simp) rfl
    exact ⟨rfl, ⟨hf.sub ⟨rfl, trivial⟩, hp⟩⟩
  replace h := ifF h hb
  refine wp_skip ?_
  refine th_n ?_
  refine wp_seq ?_
  refine wp_seq ?_
  refine wp_reg ?_
  refine st_move hf rfl rfl (by decide) ?_
  clear hf; intro a ha hf; clear ha
  refine st_ineq hf (by decide) rfl rfl rfl ?_
  clear hf; intro a ha hf; clear ha
  refine st_nil hf ?_
  refine th_n ?_
  refine wp_if hf rfl (fun hb => ?_) (fun hb => ?_)
  · replace h := ifT h hb
    refine wp_seq ?_
    refine wp_reg ?_
    refine st_assign hf rfl rfl (by decide) ?_
    clear hf; intro a ha hf; clear ha
    refine st_nil hf ?_
    refine th_n ?_
    refine wp_ret ?_
    refine th_r ?_
    obtain rfl := Option.some.inj h
    have hp : Hp _ _ _ (ow) := Hp.sel (pre := [Res.opt pk53 v7 q5.1, Res.opt pk79 v3 q1.1]) (tail := ow) (rs' := []) hp [] (by decide) (by simp) rfl
    exact ⟨rfl, ⟨hf.sub ⟨rfl, trivial⟩, hp⟩⟩
  replace h := ifF h hb
  refine wp_skip ?_
  refine th_n ?_
  refine wp_seq ?_
  refine wp_seq ?_
  refine wp_reg ?_
  refine st_assign hf rfl rfl (by decide) ?_
  clear hf; intro a ha hf; clear ha
  refine st_nil hf ?_
  refine th_n ?_
  refine wp_block ?_
  obtain ⟨s11, hs12, h⟩ := bnd h
  have hp : Hp _ _ _ (Res.opt pk79 v3 q1.1 :: Res.opt pk53 v7 q5.1 :: ow) := Hp.sel (pre := [Res.opt pk53 v7 q5.1, Res.opt pk79 v3 q1.1]) (tail := ow) (rs' := [Res.opt pk79 v3 q1.1, Res.opt pk53 v7 q5.1]) hp [1, 0] (by decide) (by simp) rfl
  replace hp : Hp _ _ _ (pk79.R v3 s11 :: Res.opt pk53 v7 q5.1 :: ow) := hp.optSome hs12
  obtain ⟨v13, hp⟩ := pk79_in hp
  replace hp : Hp _ _ _ (Res.obj 79 v3 [.int .i64 s11.1, .int .i64 s11.2.1, .int .i64 s11.2.2.1, .int .i64 s11.2.2.2.1, v13] :: Res.sl (Ek.pair Ek.str (Ek.pair Ek.bool (Ek.pair (Ek.int .i64) Ek.bool))) 81 v13 s11.2.2.2.2 :: Res.opt pk53 v7 q5.1 :: ow) := hp
  obtain ⟨s15, hs16, h⟩ := bnd h
  have hp : Hp _ _ _ (Res.opt pk53 v7 q5.1 :: Res.obj 79 v3 [.int .i64 s11.1, .int .i64 s11.2.1, .int .i64 s11.2.2.1, .int .i64 s11.2.2.2.1, v13] :: Res.sl (Ek.pair Ek.str (Ek.pair Ek.bool (Ek.pair (Ek.int .i64) Ek.bool))) 81 v13 s11.2.2.2.2 :: ow) := Hp.sel (pre := [Res.obj 79 v3 [.int .i64 s11.1, .int .i64 s11.2.1, .int .i64 s11.2.2.1, .int .i64 s11.2.2.2.1, v13], Res.sl (Ek.pair Ek.str (Ek.pair Ek.bool (Ek.pair (Ek.int .i64) Ek.bool))) 81 v13 s11.2.2.2.2, Res.opt pk53 v7 q5.1]) (tail := ow) (rs' := [Res.opt pk53 v7 q5.1, Res.obj 79 v3 [.int .i64 s11.1, .int .i64 s11.2.1, .int .i64 s11.2.2.1, .int .i64 s11.2.2.2.1, v13], Res.sl (Ek.pair Ek.str (Ek.pair Ek.bool (Ek.pair (Ek.int .i64) Ek.bool))) 81 v13 s11.2.2.2.2]) hp [2, 0, 1] (by decide) (by simp) rfl
  replace hp : Hp _ _ _ (pk53.R v7 s15 :: Res.obj 79 v3 [.int .i64 s11.1, .int .i64 s11.2.1, .int .i64 s11.2.2.1, .int .i64 s11.2.2.2.1, v13] :: Res.sl (Ek.pair Ek.str (Ek.pair Ek.bool (Ek.pair (Ek.int .i64) Ek.bool))) 81 v13 s11.2.2.2.2 :: ow) := hp.optSome hs16
  obtain ⟨v17, hp⟩ := pk53_in hp
  replace hp : Hp _ _ _ (Res.obj 53 v7 [.int .i64 s15.1, .int .i64 s15.2.1, .int .i64 s15.2.2.1, v17] :: Res.sl (Ek.pair Ek.str (Ek.pair (Ek.int .i64) Ek.bool)) 83 v17 s15.2.2.2 :: Res.obj 79 v3 [.int .i64 s11.1, .int .i64 s11.2.1, .int .i64 s11.2.2.1, .int .i64 s11.2.2.2.1, v13] :: Res.sl (Ek.pair Ek.str (Ek.pair Ek.bool (Ek.pair (Ek.int .i64) Ek.bool))) 81 v13 s11.2.2.2.2 :: ow) := hp
  obtain ⟨q139, hl, h⟩ := bnd h
  have hp : Hp _ _ _ (Res.sl (Ek.pair Ek.str (Ek.pair Ek.bool (Ek.pair (Ek.int .i64) Ek.bool))) 81 v13 s11.2.2.2.2 :: Res.obj 79 v3 [.int .i64 s11.1, .int .i64 s11.2.1, .int .i64 s11.2.2.1, .int .i64 s11.2.2.2.1, v13] :: Res.sl (Ek.pair Ek.str (Ek.pair (Ek.int .i64) Ek.bool)) 83 v17 s15.2.2.2 :: Res.obj 53 v7 [.int .i64 s15.1, .int .i64 s15.2.1, .int .i64 s15.2.2.1, v17] :: ow) := Hp.sel (pre := [Res.obj 53 v7 [.int .i64 s15.1, .int .i64 s15.2.1, .int .i64 s15.2.2.1, v17], Res.sl (Ek.pair Ek.str (Ek.pair (Ek.int .i64) Ek.bool)) 83 v17 s15.2.2.2, Res.obj 79 v3 [.int .i64 s11.1, .int .i64 s11.2.1, .int .i64 s11.2.2.1, .int .i64 s11.2.2.2.1, v13], Res.sl (Ek.pair Ek.str (Ek.pair Ek.bool (Ek.pair (Ek.int .i64) Ek.bool))) 81 v13 s11.2.2.2.2]) (tail := ow) (rs' := [Res.sl (Ek.pair Ek.str (Ek.pair Ek.bool (Ek.pair (Ek.int .i64) Ek.bool))) 81 v13 s11.2.2.2.2, Res.obj 79 v3 [.int .i64 s11.1, .int .i64 s11.2.1, .int .i64 s11.2.2.1, .int .i64 s11.2.2.2.1, v13], Res.sl (Ek.pair Ek.str (Ek.pair (Ek.int .i64) Ek.bool)) 83 v17 s15.2.2.2, Res.obj 53 v7 [.int .i64 s15.1, .int .i64 s15.2.1, .int .i64 s15.2.2.1, v17]]) hp [3, 2, 1, 0] (by decide) (by simp) rfl
  refine wp_loop_pure (f := (f_foghornlaw28_AgainSends.s1 l2)) (s := (s11.1, s11.2.1, s11.2.2.1, s11.2.2.2.1, s11.2.2.2.2, s15.1, s15.2.1, s15.2.2.1, s15.2.2.2, (0 : Int))) (fun s a w => ∃ (v19 : Value) (v22 : Value), Fr 161 a [(2, vl2), (7, v3), (9, v7), (11, .int .i64 s.2.2.2.2.2.2.2.2.2)] ∧ Hp S w0 w (Res.sl (Ek.pair Ek.str (Ek.pair Ek.bool (Ek.pair (Ek.int .i64) Ek.bool))) 81 v19 s.2.2.2.2.1 :: Res.obj 79 v3 [.int .i64 s.1, .int .i64 s.2.1, .int .i64 s.2.2.1, .int .i64 s.2.2.2.1, v19] :: Res.sl (Ek.pair Ek.str (Ek.pair (Ek.int .i64) Ek.bool)) 83 v22 s.2.2.2.2.2.2.2.2.1 :: Res.obj 53 v7 [.int .i64 s.2.2.2.2.2.1, .int .i64 s.2.2.2.2.2.2.1, .int .i64 s.2.2.2.2.2.2.2.1, v22] :: ow)) (fun q e a w => match q with | (Sum.inl q) => e = .exit 0 ∧ Fr 161 a [] ∧ Hp S w0 w (ow) | (Sum.inr q) => e = .ret ∧ Fr 161 a [(6, .bool q)] ∧ Hp S w0 w (ow)) ?_ hl ⟨_, _, hf.sub ⟨rfl, rfl, rfl, rfl, trivial⟩, hp⟩ ?_
  · clear hl hf hp
    intro s x a w h hI
    obtain ⟨xx7c_0, xx7c_1, xx7c_2, xx7c_3, xx7c_4, yx9c_0, yx9c_1, yx9c_2, yx9c_3, i11⟩ := s
    obtain ⟨v19, v22, hf, hp⟩ : ∃ (v19 : Value) (v22 : Value), Fr 161 a [(2, vl2), (7, v3), (9, v7), (11, .int .i64 i11)] ∧ Hp S w0 w (Res.sl (Ek.pair Ek.str (Ek.pair Ek.bool (Ek.pair (Ek.int .i64) Ek.bool))) 81 v19 xx7c_4 :: Res.obj 79 v3 [.int .i64 xx7c_0, .int .i64 xx7c_1, .int .i64 xx7c_2, .int .i64 xx7c_3, v19] :: Res.sl (Ek.pair Ek.str (Ek.pair (Ek.int .i64) Ek.bool)) 83 v22 yx9c_3 :: Res.obj 53 v7 [.int .i64 yx9c_0, .int .i64 yx9c_1, .int .i64 yx9c_2, v22] :: ow) := hI
    replace h : f_foghornlaw28_AgainSends.s1c l2 xx7c_0 xx7c_1 xx7c_2 xx7c_3 xx7c_4 yx9c_0 yx9c_1 yx9c_2 yx9c_3 i11 = some x := h
    unfold f_foghornlaw28_AgainSends.s1c at h
    refine wp_seq ?_
    refine wp_seq ?_
    refine wp_reg ?_
    refine st_move hf rfl rfl (by decide) ?_
    clear hf; intro a ha hf; clear ha
    refine st_move hf rfl rfl (by decide) ?_
    clear hf; intro a ha hf; clear ha
    refine st_len (E := (Ek.pair (Ek.int .u8) (Ek.pair (Ek.int .i64) (Ek.pair Ek.bool (Ek.pair (Ek.int .u8) (Ek.pair (Ek.int .u8) (Ek.pair Ek.bool Ek.str))))))) hf (by decide) Try.underlying22 rfl rfl (hl2.sl hp) ?_
    clear hf; intro a ha hf; clear ha
    refine st_ilss hf (by decide) rfl rfl rfl ?_
    clear hf; intro a ha hf; clear ha
    refine st_move hf rfl rfl (by decide) ?_
    clear hf; intro a ha hf; clear ha
    refine wpList_cut 3 (fun a w => Fr 161 a [(2, vl2), (7, v3), (9, v7), (11, .int .i64 i11), (50, .bool ((decide (i11 < (l2.length : Int))) && (decide (i11 < (400 : Int)))))] ∧ Hp S w0 w (Res.sl (Ek.pair Ek.str (Ek.pair Ek.bool (Ek.pair (Ek.int .i64) Ek.bool))) 81 v19 xx7c_4 :: Res.obj 79 v3 [.int .i64 xx7c_0, .int .i64 xx7c_1, .int .i64 xx7c_2, .int .i64 xx7c_3, v19] :: Res.sl (Ek.pair Ek.str (Ek.pair (Ek.int .i64) Ek.bool)) 83 v22 yx9c_3 :: Res.obj 53 v7 [.int .i64 yx9c_0, .int .i64 yx9c_1, .int .i64 yx9c_2, v22] :: ow)) ?_ ?_
    · rcases Bool.eq_false_or_eq_true (decide (i11 < (l2.length : Int))) with hb26 | hb26
      · skip
        refine st_move hf (wantY hf rfl rfl hb26) rfl (by decide) ?_
        clear hf; intro a ha hf; clear ha
        refine st_ilss hf (by decide) (wantY hf rfl rfl hb26) rfl rfl ?_
        clear hf; intro a ha hf; clear ha
        refine st_pick (v := .bool (decide (i11 < (400 : Int)))) hf rfl rfl (fun hb' => ?_) (fun hb' => ?_) (by decide) ?_
        · rfl
        · exact absurd (hb26.symm.trans hb') (by decide)
        clear hf; intro a ha hf; clear ha
        refine st_nil hf (th_n ?_)
        exact ⟨hf.sub ⟨rfl, rfl, rfl, rfl, (by rw [hb26]; rfl), trivial⟩, hp⟩
      refine st_skip hf (wantN hf rfl rfl hb26) rfl (by decide) ?_ rfl
      clear hf; intro a hf
      refine st_skip hf (wantN hf rfl rfl hb26) rfl (by decide) ?_ rfl
      clear hf; intro a hf
      refine st_pick (v := .bool false) hf rfl rfl (fun hb' => ?_) (fun hb' => ?_) (by decide) ?_
      · exact absurd (hb26.symm.trans hb') (by decide)
      · rfl
      clear hf; intro a ha hf; clear ha
      refine st_nil hf (th_n ?_)
      exact ⟨hf.sub ⟨rfl, rfl, rfl, rfl, (by rw [hb26]; rfl), trivial⟩, hp⟩
    rintro a w ⟨hf, hp⟩
    refine st_nil hf ?_
    refine th_n ?_
    refine wp_if hf rfl (fun hb => ?_) (fun hb => ?_)
    · replace h := ifT h hb
      refine wp_skip ?_
      refine th_n ?_
      refine wp_seq ?_
      refine wp_block ?_
      refine wp_seq_cut (fun a w => ∃ (xx7c_0 : Int) (xx7c_1 : Int) (xx7c_2 : Int) (xx7c_3 : Int) (xx7c_4 : (List (ByteArray × Bool × Int × Bool))) (yx9c_0 : Int) (yx9c_1 : Int) (yx9c_2 : Int) (yx9c_3 : (List (ByteArray × Int × Bool))) (v27 : Value) (v30 : Value), f_foghornlaw28_AgainSends.j1 i11 xx7c_0 xx7c_1 xx7c_2 xx7c_3 xx7c_4 yx9c_0 yx9c_1 yx9c_2 yx9c_3 = some x ∧ Fr 161 a [(2, vl2), (7, v3), (9, v7), (11, .int .i64 i11)] ∧ Hp S w0 w (Res.sl (Ek.pair Ek.str (Ek.pair Ek.bool (Ek.pair (Ek.int .i64) Ek.bool))) 81 v27 xx7c_4 :: Res.obj 79 v3 [.int .i64 xx7c_0, .int .i64 xx7c_1, .int .i64 xx7c_2, .int .i64 xx7c_3, v27] :: Res.sl (Ek.pair Ek.str (Ek.pair (Ek.int .i64) Ek.bool)) 83 v30 yx9c_3 :: Res.obj 53 v7 [.int .i64 yx9c_0, .int .i64 yx9c_1, .int .i64 yx9c_2, v30] :: ow)) ?_ ?_
      · skip
        refine wp_seq ?_
        refine wp_reg ?_
        refine st_move hf rfl rfl (by decide) ?_
        clear hf; intro a ha hf; clear ha
        refine st_move hf rfl rfl (by decide) ?_
        clear hf; intro a ha hf; clear ha
        obtain ⟨hc57, h⟩ := chk h
        refine st_index (E := (Ek.pair (Ek.int .u8) (Ek.pair (Ek.int .i64) (Ek.pair Ek.bool (Ek.pair (Ek.int .u8) (Ek.pair (Ek.int .u8) (Ek.pair Ek.bool Ek.str))))))) hf (by decide) Try.underlying22 elt33 rfl rfl rfl (hl2.sl hp) hc57.1 hc57.2 ?_
        clear hf; intro a ha hf; clear ha
        refine st_faP (off := 0) (sz := 1) hf (by decide) (by kernel_rfl) (by decide) rfl rfl (Sl.isP (hl2.sl hp) hc57.1 hc57.2) ?_
        clear hf; intro a ha hf; clear ha
        refine st_ldQ (F := (Ek.int .u8)) (yv := (gt l2 i11).1) hf (by decide) pl5 (fun x => .int .u8 x) (fun _ _ h => h) rfl rfl (Sl.part (E := (Ek.pair (Ek.int .u8) (Ek.pair (Ek.int .i64) (Ek.pair Ek.bool (Ek.pair (Ek.int .u8) (Ek.pair (Ek.int .u8) (Ek.pair Ek.bool Ek.str))))))) (F := (Ek.int .u8)) (o := 0) (Sub.fst (E := (Ek.int .u8)) (F := (Ek.pair (Ek.int .i64) (Ek.pair Ek.bool (Ek.pair (Ek.int .u8) (Ek.pair (Ek.int .u8) (Ek.pair Ek.bool Ek.str))))))) (hl2.sl hp) hc57.1 hc57.2) ?_
        clear hf; intro a ha hf; clear ha
        refine st_irem hf (by decide) rfl rfl rfl (by decide) ?_
        clear hf; intro a ha hf; clear ha
        refine st_nil hf ?_
        refine th_n ?_
        refine wp_block ?_
        refine wp_seq ?_
        refine wp_reg ?_
        refine st_ieql hf (by decide) rfl rfl rfl ?_
        clear hf; intro a ha hf; clear ha
        refine st_assign hf rfl rfl (by decide) ?_
        clear hf; intro a ha hf; clear ha
        refine st_nil hf ?_
        refine th_n ?_
        refine wp_if hf rfl (fun hb => ?_) (fun hb => ?_)
        · replace h := ifT h hb
          refine wp_seq ?_
          obtain ⟨hc58, h⟩ := chk h
          obtain ⟨q59, hcall60, h⟩ := bnd h
          obtain ⟨hc64, h⟩ := chk h
          obtain ⟨q65, hcall66, h⟩ := bnd h
          refine wp_cutN (fun a w => ∃ (v62 : Value) (v68 : Value), Fr 161 a [(2, vl2), (7, v3), (9, v7), (11, .int .i64 i11), (77, .bool (q59.1 != q65.1))] ∧ Hp S w0 w (Res.sl (Ek.pair Ek.str (Ek.pair (Ek.int .i64) Ek.bool)) 83 v68 q65.2.2.2.2 :: Res.obj 53 v7 [.int .i64 q65.2.1, .int .i64 q65.2.2.1, .int .i64 q65.2.2.2.1, v68] :: Res.sl (Ek.pair Ek.str (Ek.pair Ek.bool (Ek.pair (Ek.int .i64) Ek.bool))) 81 v62 q59.2.2.2.2.2 :: Res.obj 79 v3 [.int .i64 q59.2.1, .int .i64 q59.2.2.1, .int .i64 q59.2.2.2.1, .int .i64 q59.2.2.2.2.1, v62] :: ow)) ?_ ?_
          · have hp := hp.same (Same.drew w)
            refine dr_begin' (fun a w => ∃ (v62 : Value) (v68 : Value), Fr 161 a [(2, vl2), (7, v3), (9, v7), (11, .int .i64 i11), (77, .bool (q59.1 != q65.1))] ∧ Hp S w0 w (Res.sl (Ek.pair Ek.str (Ek.pair (Ek.int .i64) Ek.bool)) 83 v68 q65.2.2.2.2 :: Res.obj 53 v7 [.int .i64 q65.2.1, .int .i64 q65.2.2.1, .int .i64 q65.2.2.2.1, v68] :: Res.sl (Ek.pair Ek.str (Ek.pair Ek.bool (Ek.pair (Ek.int .i64) Ek.bool))) 81 v62 q59.2.2.2.2.2 :: Res.obj 79 v3 [.int .i64 q59.2.1, .int .i64 q59.2.2.1, .int .i64 q59.2.2.2.1, .int .i64 q59.2.2.2.2.1, v62] :: ow)) (fun w' => ∃ l, Hp S w0 w' l) [] (by kernel_rfl) ?_
            refine dr_take 0 (v3) rfl (by kernel_rfl) (by kernel_rfl) (by kernel_rfl) (by kernel_rfl) rfl rfl hf (by decide) rfl (fun w hp => ?_) ⟨_, hp⟩ ?_
            · obtain ⟨_, hp⟩ := hp
              refine st_move hf rfl rfl (by decide) ?_
              clear hf; intro a ha hf
              exact st_nil hf (th_n ⟨ha, rfl⟩)
            clear hf; intro a hf
            refine dr_take 1 (vl2) rfl (by kernel_rfl) (by kernel_rfl) (by kernel_rfl) (by kernel_rfl) rfl rfl hf (by decide) rfl (fun w hp => ?_) ⟨_, hp⟩ ?_
            · obtain ⟨_, hp⟩ := hp
              refine st_move hf rfl rfl (by decide) ?_
              clear hf; intro a ha hf
              exact st_nil hf (th_n ⟨ha, rfl⟩)
            clear hf; intro a hf
            refine dr_take 2 (.int .i64 i11) rfl (by kernel_rfl) (by kernel_rfl) (by kernel_rfl) (by kernel_rfl) rfl rfl hf (by decide) rfl (fun w hp => ?_) ⟨_, hp⟩ ?_
            · obtain ⟨_, hp⟩ := hp
              refine st_move hf rfl rfl (by decide) ?_
              clear hf; intro a ha hf
              exact st_nil hf (th_n ⟨ha, rfl⟩)
            clear hf; intro a hf
            refine dr_take 3 (eptr vl2 i11 7) rfl (by kernel_rfl) (by kernel_rfl) (by kernel_rfl) (by kernel_rfl) rfl rfl hf (by decide) rfl (fun w hp => ?_) ⟨_, hp⟩ ?_
            · obtain ⟨_, hp⟩ := hp
              refine st_index (E := (Ek.pair (Ek.int .u8) (Ek.pair (Ek.int .i64) (Ek.pair Ek.bool (Ek.pair (Ek.int .u8) (Ek.pair (Ek.int .u8) (Ek.pair Ek.bool Ek.str))))))) hf (by decide) Try.underlying22 elt33 rfl rfl rfl (hl2.sl hp) hc58.1 hc58.2 ?_
              clear hf; intro a ha hf
              exact st_nil hf (th_n ⟨ha, rfl⟩)
            clear hf; intro a hf
            refine dr_take 4 (optr (eptr vl2 i11 7) 3) rfl (by kernel_rfl) (by kernel_rfl) (by kernel_rfl) (by kernel_rfl) rfl rfl hf (by decide) rfl (fun w hp => ?_) ⟨_, hp⟩ ?_
            · obtain ⟨_, hp⟩ := hp
              refine st_faP (off := 3) (sz := 4) hf (by decide) (by kernel_rfl) (by decide) rfl rfl (Sl.isP (hl2.sl hp) hc58.1 hc58.2) ?_
              clear hf; intro a ha hf
              exact st_nil hf (th_n ⟨ha, rfl⟩)
            clear hf; intro a hf
            refine dr_take 5 (optr (eptr vl2 i11 7) (3 + 3)) rfl (by kernel_rfl) (by kernel_rfl) (by kernel_rfl) (by kernel_rfl) rfl rfl hf (by decide) rfl (fun w hp => ?_) ⟨_, hp⟩ ?_
            · obtain ⟨_, hp⟩ := hp
              refine st_faQ (off := 3) (sz := 1) hf (by decide) (by kernel_rfl) (by decide) rfl rfl (Sl.isP (hl2.sl hp) hc58.1 hc58.2) ?_
              clear hf; intro a ha hf
              exact st_nil hf (th_n ⟨ha, rfl⟩)
            clear hf; intro a hf
            refine dr_take 6 (.string (((gt l2 i11).2.2.2).2.2.2)) rfl (by kernel_rfl) (by kernel_rfl) (by kernel_rfl) (by kernel_rfl) rfl rfl hf (by decide) rfl (fun w hp => ?_) ⟨_, hp⟩ ?_
            · obtain ⟨_, hp⟩ := hp
              refine st_ldQ (F := Ek.str) (yv := ((gt l2 i11).2.2.2).2.2.2) hf (by decide) pl9 (fun x => .string x) (fun _ _ h => h) rfl rfl (Sl.part (E := (Ek.pair (Ek.int .u8) (Ek.pair (Ek.int .i64) (Ek.pair Ek.bool (Ek.pair (Ek.int .u8) (Ek.pair (Ek.int .u8) (Ek.pair Ek.bool Ek.str))))))) (F := Ek.str) (o := 3 + 3) (Sub.comp (Sub.comp (Sub.snd (E := (Ek.int .u8)) (F := (Ek.pair (Ek.int .i64) (Ek.pair Ek.bool (Ek.pair (Ek.int .u8) (Ek.pair (Ek.int .u8) (Ek.pair Ek.bool Ek.str))))))) (Sub.comp (Sub.snd (E := (Ek.int .i64)) (F := (Ek.pair Ek.bool (Ek.pair (Ek.int .u8) (Ek.pair (Ek.int .u8) (Ek.pair Ek.bool Ek.str)))))) (Sub.snd (E := Ek.bool) (F := (Ek.pair (Ek.int .u8) (Ek.pair (Ek.int .u8) (Ek.pair Ek.bool Ek.str))))))) (Sub.comp (Sub.snd (E := (Ek.int .u8)) (F := (Ek.pair (Ek.int .u8) (Ek.pair Ek.bool Ek.str)))) (Sub.comp (Sub.snd (E := (Ek.int .u8)) (F := (Ek.pair Ek.bool Ek.str))) (Sub.snd (E := Ek.bool) (F := Ek.str))))) (hl2.sl hp) hc58.1 hc58.2) ?_
              clear hf; intro a ha hf
              exact st_nil hf (th_n ⟨ha, rfl⟩)
            clear hf; intro a hf
            refine dr_take 8 (v7) rfl (by kernel_rfl) (by kernel_rfl) (by kernel_rfl) (by kernel_rfl) rfl rfl hf (by decide) rfl (fun w hp => ?_) ⟨_, hp⟩ ?_
            · obtain ⟨_, hp⟩ := hp
              refine st_move hf rfl rfl (by decide) ?_
              clear hf; intro a ha hf
              exact st_nil hf (th_n ⟨ha, rfl⟩)
            clear hf; intro a hf
            refine dr_take 9 (vl2) rfl (by kernel_rfl) (by kernel_rfl) (by kernel_rfl) (by kernel_rfl) rfl rfl hf (by decide) rfl (fun w hp => ?_) ⟨_, hp⟩ ?_
            · obtain ⟨_, hp⟩ := hp
              refine st_move hf rfl rfl (by decide) ?_
              clear hf; intro a ha hf
              exact st_nil hf (th_n ⟨ha, rfl⟩)
            clear hf; intro a hf
            refine dr_take 10 (.int .i64 i11) rfl (by kernel_rfl) (by kernel_rfl) (by kernel_rfl) (by kernel_rfl) rfl rfl hf (by decide) rfl (fun w hp => ?_) ⟨_, hp⟩ ?_
            · obtain ⟨_, hp⟩ := hp
              refine st_move hf rfl rfl (by decide) ?_
              clear hf; intro a ha hf
              exact st_nil hf (th_n ⟨ha, rfl⟩)
            clear hf; intro a hf
            refine dr_take 11 (eptr vl2 i11 7) rfl (by kernel_rfl) (by kernel_rfl) (by kernel_rfl) (by kernel_rfl) rfl rfl hf (by decide) rfl (fun w hp => ?_) ⟨_, hp⟩ ?_
            · obtain ⟨_, hp⟩ := hp
              refine st_index (E := (Ek.pair (Ek.int .u8) (Ek.pair (Ek.int .i64) (Ek.pair Ek.bool (Ek.pair (Ek.int .u8) (Ek.pair (Ek.int .u8) (Ek.pair Ek.bool Ek.str))))))) hf (by decide) Try.underlying22 elt33 rfl rfl rfl (hl2.sl hp) hc64.1 hc64.2 ?_
              clear hf; intro a ha hf
              exact st_nil hf (th_n ⟨ha, rfl⟩)
            clear hf; intro a hf
            refine dr_take 12 (optr (eptr vl2 i11 7) 3) rfl (by kernel_rfl) (by kernel_rfl) (by kernel_rfl) (by kernel_rfl) rfl rfl hf (by decide) rfl (fun w hp => ?_) ⟨_, hp⟩ ?_
            · obtain ⟨_, hp⟩ := hp
              refine st_faP (off := 3) (sz := 4) hf (by decide) (by kernel_rfl) (by decide) rfl rfl (Sl.isP (hl2.sl hp) hc64.1 hc64.2) ?_
              clear hf; intro a ha hf
              exact st_nil hf (th_n ⟨ha, rfl⟩)
            clear hf; intro a hf
            refine dr_take 13 (optr (eptr vl2 i11 7) (3 + 3)) rfl (by kernel_rfl) (by kernel_rfl) (by kernel_rfl) (by kernel_rfl) rfl rfl hf (by decide) rfl (fun w hp => ?_) ⟨_, hp⟩ ?_
            · obtain ⟨_, hp⟩ := hp
              refine st_faQ (off := 3) (sz := 1) hf (by decide) (by kernel_rfl) (by decide) rfl rfl (Sl.isP (hl2.sl hp) hc64.1 hc64.2) ?_
              clear hf; intro a ha hf
              exact st_nil hf (th_n ⟨ha, rfl⟩)
            clear hf; intro a hf
            refine dr_take 14 (.string (((gt l2 i11).2.2.2).2.2.2)) rfl (by kernel_rfl) (by kernel_rfl) (by kernel_rfl) (by kernel_rfl) rfl rfl hf (by decide) rfl (fun w hp => ?_) ⟨_, hp⟩ ?_
            · obtain ⟨_, hp⟩ := hp
              refine st_ldQ (F := Ek.str) (yv := ((gt l2 i11).2.2.2).2.2.2) hf (by decide) pl9 (fun x => .string x) (fun _ _ h => h) rfl rfl (Sl.part (E := (Ek.pair (Ek.int .u8) (Ek.pair (Ek.int .i64) (Ek.pair Ek.bool (Ek.pair (Ek.int .u8) (Ek.pair (Ek.int .u8) (Ek.pair Ek.bool Ek.str))))))) (F := Ek.str) (o := 3 + 3) (Sub.comp (Sub.comp (Sub.snd (E := (Ek.int .u8)) (F := (Ek.pair (Ek.int .i64) (Ek.pair Ek.bool (Ek.pair (Ek.int .u8) (Ek.pair (Ek.int .u8) (Ek.pair Ek.bool Ek.str))))))) (Sub.comp (Sub.snd (E := (Ek.int .i64)) (F := (Ek.pair Ek.bool (Ek.pair (Ek.int .u8) (Ek.pair (Ek.int .u8) (Ek.pair Ek.bool Ek.str)))))) (Sub.snd (E := Ek.bool) (F := (Ek.pair (Ek.int .u8) (Ek.pair (Ek.int .u8) (Ek.pair Ek.bool Ek.str))))))) (Sub.comp (Sub.snd (E := (Ek.int .u8)) (F := (Ek.pair (Ek.int .u8) (Ek.pair Ek.bool Ek.str)))) (Sub.comp (Sub.snd (E := (Ek.int .u8)) (F := (Ek.pair Ek.bool Ek.str))) (Sub.snd (E := Ek.bool) (F := Ek.str))))) (hl2.sl hp) hc64.1 hc64.2) ?_
              clear hf; intro a ha hf
              exact st_nil hf (th_n ⟨ha, rfl⟩)
            clear hf; intro a hf
            refine dr_one 7 rfl (by kernel_rfl) ?_
            have hp61 : Hp _ _ _ (Res.sl (Ek.pair Ek.str (Ek.pair Ek.bool (Ek.pair (Ek.int .i64) Ek.bool))) 81 v19 xx7c_4 :: Res.obj 79 v3 [.int .i64 xx7c_0, .int .i64 xx7c_1, .int .i64 xx7c_2, .int .i64 xx7c_3, v19] :: Res.sl (Ek.pair Ek.str (Ek.pair (Ek.int .i64) Ek.bool)) 83 v22 yx9c_3 :: Res.obj 53 v7 [.int .i64 yx9c_0, .int .i64 yx9c_1, .int .i64 yx9c_2, v22] :: ow) := Hp.sel (pre := [Res.sl (Ek.pair Ek.str (Ek.pair Ek.bool (Ek.pair (Ek.int .i64) Ek.bool))) 81 v19 xx7c_4, Res.obj 79 v3 [.int .i64 xx7c_0, .int .i64 xx7c_1, .int .i64 xx7c_2, .int .i64 xx7c_3, v19], Res.sl (Ek.pair Ek.str (Ek.pair (Ek.int .i64) Ek.bool)) 83 v22 yx9c_3, Res.obj 53 v7 [.int .i64 yx9c_0, .int .i64 yx9c_1, .int .i64 yx9c_2, v22]]) (tail := ow) (rs' := [Res.sl (Ek.pair Ek.str (Ek.pair Ek.bool (Ek.pair (Ek.int .i64) Ek.bool))) 81 v19 xx7c_4, Res.obj 79 v3 [.int .i64 xx7c_0, .int .i64 xx7c_1, .int .i64 xx7c_2, .int .i64 xx7c_3, v19], Res.sl (Ek.pair Ek.str (Ek.pair (Ek.int .i64) Ek.bool)) 83 v22 yx9c_3, Res.obj 53 v7 [.int .i64 yx9c_0, .int .i64 yx9c_1, .int .i64 yx9c_2, v22]]) hp [0, 1, 2, 3] (by decide) (by simp) rfl
            refine st_call hf (by decide) Try.func17 rfl rfl rfl rfl rfl (f_again_Sender_Offer_c _ _ _ _ _ _ _ _ hp61 hcall60) ?_
            rintro _ w ⟨v62, rfl, hp0⟩
            clear hp; have hp := hp0; clear hp0
            replace hp : Hp _ _ _ (Res.sl (Ek.pair Ek.str (Ek.pair Ek.bool (Ek.pair (Ek.int .i64) Ek.bool))) 81 v62 q59.2.2.2.2.2 :: Res.obj 79 v3 [.int .i64 q59.2.1, .int .i64 q59.2.2.1, .int .i64 q59.2.2.2.1, .int .i64 q59.2.2.2.2.1, v62] :: Res.sl (Ek.pair Ek.str (Ek.pair (Ek.int .i64) Ek.bool)) 83 v22 yx9c_3 :: Res.obj 53 v7 [.int .i64 yx9c_0, .int .i64 yx9c_1, .int .i64 yx9c_2, v22] :: ow) := hp
            refine ⟨_, rfl, ?_⟩
            clear hf; intro a hf
            refine st_nil hf (th_n ⟨fun _ _ => ⟨_, hp⟩, ?_⟩)
            refine dr_one 15 rfl (by kernel_rfl) ?_
            have hp67 : Hp _ _ _ (Res.sl (Ek.pair Ek.str (Ek.pair (Ek.int .i64) Ek.bool)) 83 v22 yx9c_3 :: Res.obj 53 v7 [.int .i64 yx9c_0, .int .i64 yx9c_1, .int .i64 yx9c_2, v22] :: Res.sl (Ek.pair Ek.str (Ek.pair Ek.bool (Ek.pair (Ek.int .i64) Ek.bool))) 81 v62 q59.2.2.2.2.2 :: Res.obj 79 v3 [.int .i64 q59.2.1, .int .i64 q59.2.2.1, .int .i64 q59.2.2.2.1, .int .i64 q59.2.2.2.2.1, v62] :: ow) := Hp.sel (pre := [Res.sl (Ek.pair Ek.str (Ek.pair Ek.bool (Ek.pair (Ek.int .i64) Ek.bool))) 81 v62 q59.2.2.2.2.2, Res.obj 79 v3 [.int .i64 q59.2.1, .int .i64 q59.2.2.1, .int .i64 q59.2.2.2.1, .int .i64 q59.2.2.2.2.1, v62], Res.sl (Ek.pair Ek.str (Ek.pair (Ek.int .i64) Ek.bool)) 83 v22 yx9c_3, Res.obj 53 v7 [.int .i64 yx9c_0, .int .i64 yx9c_1, .int .i64 yx9c_2, v22]]) (tail := ow) (rs' := [Res.sl (Ek.pair Ek.str (Ek.pair (Ek.int .i64) Ek.bool)) 83 v22 yx9c_3, Res.obj 53 v7 [.int .i64 yx9c_0, .int .i64 yx9c_1, .int .i64 yx9c_2, v22], Res.sl (Ek.pair Ek.str (Ek.pair Ek.bool (Ek.pair (Ek.int .i64) Ek.bool))) 81 v62 q59.2.2.2.2.2, Res.obj 79 v3 [.int .i64 q59.2.1, .int .i64 q59.2.2.1, .int .i64 q59.2.2.2.1, .int .i64 q59.2.2.2.2.1, v62]]) hp [2, 3, 0, 1] (by decide) (by simp) rfl
            refine st_call hf (by decide) Try.func18 rfl rfl rfl rfl rfl (f_foghornref28_Sender_Offer_c _ _ _ _ _ _ _ hp67 hcall66) ?_
            rintro _ w ⟨v68, rfl, hp0⟩
            clear hp; have hp := hp0; clear hp0
            replace hp : Hp _ _ _ (Res.sl (Ek.pair Ek.str (Ek.pair (Ek.int .i64) Ek.bool)) 83 v68 q65.2.2.2.2 :: Res.obj 53 v7 [.int .i64 q65.2.1, .int .i64 q65.2.2.1, .int .i64 q65.2.2.2.1, v68] :: Res.sl (Ek.pair Ek.str (Ek.pair Ek.bool (Ek.pair (Ek.int .i64) Ek.bool))) 81 v62 q59.2.2.2.2.2 :: Res.obj 79 v3 [.int .i64 q59.2.1, .int .i64 q59.2.2.1, .int .i64 q59.2.2.2.1, .int .i64 q59.2.2.2.2.1, v62] :: ow) := hp
            refine ⟨_, rfl, ?_⟩
            clear hf; intro a hf
            refine st_nil hf (th_n ⟨fun _ _ => ⟨_, hp⟩, ?_⟩)
            refine dr_take 16 (.bool (q59.1 != q65.1)) rfl (by kernel_rfl) (by kernel_rfl) (by kernel_rfl) (by kernel_rfl) rfl rfl hf (by decide) rfl (fun w hp => ?_) ⟨_, hp⟩ ?_
            · obtain ⟨_, hp⟩ := hp
              refine st_ineq hf (by decide) rfl rfl rfl ?_
              clear hf; intro a ha hf
              exact st_nil hf (th_n ⟨ha, rfl⟩)
            clear hf; intro a hf
            refine dr_end (by kernel_rfl) ?_ _
            exact ⟨v62, v68, hf.sub ⟨rfl, rfl, rfl, rfl, rfl, trivial⟩, hp⟩
          rintro a w ⟨v62, v68, hf, hp⟩
          refine th_n ?_
          refine wp_if hf rfl (fun hb => ?_) (fun hb => ?_)
          · replace h := ifT h hb
            refine wp_seq ?_
            refine wp_reg ?_
            refine st_assign hf rfl rfl (by decide) ?_
            clear hf; intro a ha hf; clear ha
            refine st_nil hf ?_
            refine th_n ?_
            refine wp_ret ?_
            refine ib_r ?_
            refine th_r ?_
            refine ib_r ?_
            refine th_r ?_
            obtain rfl := Option.some.inj h
            have hp : Hp _ _ _ (ow) := Hp.sel (pre := [Res.sl (Ek.pair Ek.str (Ek.pair (Ek.int .i64) Ek.bool)) 83 v68 q65.2.2.2.2, Res.obj 53 v7 [.int .i64 q65.2.1, .int .i64 q65.2.2.1, .int .i64 q65.2.2.2.1, v68], Res.sl (Ek.pair Ek.str (Ek.pair Ek.bool (Ek.pair (Ek.int .i64) Ek.bool))) 81 v62 q59.2.2.2.2.2, Res.obj 79 v3 [.int .i64 q59.2.1, .int .i64 q59.2.2.1, .int .i64 q59.2.2.2.1, .int .i64 q59.2.2.2.2.1, v62]]) (tail := ow) (rs' := []) hp [] (by decide) (by simp) rfl
            exact rnd_r (by simp) ⟨rfl, ⟨hf.sub ⟨rfl, trivial⟩, hp⟩⟩
          replace h := ifF h hb
          refine wp_skip ?_
          refine ib_n ?_
          have hp : Hp _ _ _ (Res.sl (Ek.pair Ek.str (Ek.pair Ek.bool (Ek.pair (Ek.int .i64) Ek.bool))) 81 v62 q59.2.2.2.2.2 :: Res.obj 79 v3 [.int .i64 q59.2.1, .int .i64 q59.2.2.1, .int .i64 q59.2.2.2.1, .int .i64 q59.2.2.2.2.1, v62] :: Res.sl (Ek.pair Ek.str (Ek.pair (Ek.int .i64) Ek.bool)) 83 v68 q65.2.2.2.2 :: Res.obj 53 v7 [.int .i64 q65.2.1, .int .i64 q65.2.2.1, .int .i64 q65.2.2.2.1, v68] :: ow) := Hp.sel (pre := [Res.sl (Ek.pair Ek.str (Ek.pair (Ek.int .i64) Ek.bool)) 83 v68 q65.2.2.2.2, Res.obj 53 v7 [.int .i64 q65.2.1, .int .i64 q65.2.2.1, .int .i64 q65.2.2.2.1, v68], Res.sl (Ek.pair Ek.str (Ek.pair Ek.bool (Ek.pair (Ek.int .i64) Ek.bool))) 81 v62 q59.2.2.2.2.2, Res.obj 79 v3 [.int .i64 q59.2.1, .int .i64 q59.2.2.1, .int .i64 q59.2.2.2.1, .int .i64 q59.2.2.2.2.1, v62]]) (tail := ow) (rs' := [Res.sl (Ek.pair Ek.str (Ek.pair Ek.bool (Ek.pair (Ek.int .i64) Ek.bool))) 81 v62 q59.2.2.2.2.2, Res.obj 79 v3 [.int .i64 q59.2.1, .int .i64 q59.2.2.1, .int .i64 q59.2.2.2.1, .int .i64 q59.2.2.2.2.1, v62], Res.sl (Ek.pair Ek.str (Ek.pair (Ek.int .i64) Ek.bool)) 83 v68 q65.2.2.2.2, Res.obj 53 v7 [.int .i64 q65.2.1, .int .i64 q65.2.2.1, .int .i64 q65.2.2.2.1, v68]]) hp [2, 3, 0, 1] (by decide) (by simp) rfl
          refine th_n ?_
          exact ⟨_, _, _, _, _, _, _, _, _, _, _, h, hf.sub ⟨rfl, rfl, rfl, rfl, trivial⟩, hp⟩
        replace h := ifF h hb
        refine wp_seq ?_
        refine wp_reg ?_
        refine st_ieql hf (by decide) rfl rfl rfl ?_
        clear hf; intro a ha hf; clear ha
        refine st_assign hf rfl rfl (by decide) ?_
        clear hf; intro a ha hf; clear ha
        refine st_nil hf ?_
        refine th_n ?_
        refine wp_if hf rfl (fun hb => ?_) (fun hb => ?_)
        · replace h := ifT h hb
          refine wp_seq ?_
          refine wp_reg ?_
          refine st_move hf rfl rfl (by decide) ?_
          clear hf; intro a ha hf; clear ha
          refine st_move hf rfl rfl (by decide) ?_
          clear hf; intro a ha hf; clear ha
          obtain ⟨hc70, h⟩ := chk h
          refine st_index (E := (Ek.pair (Ek.int .u8) (Ek.pair (Ek.int .i64) (Ek.pair Ek.bool (Ek.pair (Ek.int .u8) (Ek.pair (Ek.int .u8) (Ek.pair Ek.bool Ek.str))))))) hf (by decide) Try.underlying22 elt33 rfl rfl rfl (hl2.sl hp) hc70.1 hc70.2 ?_
          clear hf; intro a ha hf; clear ha
          refine st_faP (off := 1) (sz := 1) hf (by decide) (by kernel_rfl) (by decide) rfl rfl (Sl.isP (hl2.sl hp) hc70.1 hc70.2) ?_
          clear hf; intro a ha hf; clear ha
          refine st_ldQ (F := (Ek.int .i64)) (yv := (gt l2 i11).2.1) hf (by decide) pl2 (fun x => .int .i64 x) (fun _ _ h => h) rfl rfl (Sl.part (E := (Ek.pair (Ek.int .u8) (Ek.pair (Ek.int .i64) (Ek.pair Ek.bool (Ek.pair (Ek.int .u8) (Ek.pair (Ek.int .u8) (Ek.pair Ek.bool Ek.str))))))) (F := (Ek.int .i64)) (o := 1) (Sub.comp (Sub.snd (E := (Ek.int .u8)) (F := (Ek.pair (Ek.int .i64) (Ek.pair Ek.bool (Ek.pair (Ek.int .u8) (Ek.pair (Ek.int .u8) (Ek.pair Ek.bool Ek.str))))))) (Sub.fst (E := (Ek.int .i64)) (F := (Ek.pair Ek.bool (Ek.pair (Ek.int .u8) (Ek.pair (Ek.int .u8) (Ek.pair Ek.bool Ek.str))))))) (hl2.sl hp) hc70.1 hc70.2) ?_
          clear hf; intro a ha hf; clear ha
          refine st_assign hf rfl rfl (by decide) ?_
          clear hf; intro a ha hf; clear ha
          refine st_nil hf ?_
          refine th_n ?_
          refine wp_seq_cut (fun a w => ∃ (now12 : Int), f_foghornlaw28_AgainSends.j2 xx7c_0 xx7c_1 xx7c_2 xx7c_3 xx7c_4 yx9c_0 yx9c_1 yx9c_2 yx9c_3 i11 now12 = some x ∧ Fr 161 a [(2, vl2), (7, v3), (9, v7), (11, .int .i64 i11), (12, .int .i64 now12)] ∧ Hp S w0 w (Res.obj 79 v3 [.int .i64 xx7c_0, .int .i64 xx7c_1, .int .i64 xx7c_2, .int .i64 xx7c_3, v19] :: Res.sl (Ek.pair Ek.str (Ek.pair Ek.bool (Ek.pair (Ek.int .i64) Ek.bool))) 81 v19 xx7c_4 :: Res.obj 53 v7 [.int .i64 yx9c_0, .int .i64 yx9c_1, .int .i64 yx9c_2, v22] :: Res.sl (Ek.pair Ek.str (Ek.pair (Ek.int .i64) Ek.bool)) 83 v22 yx9c_3 :: ow)) ?_ ?_
          · skip
            refine wp_seq ?_
            refine wp_reg ?_
            refine st_move hf rfl rfl (by decide) ?_
            clear hf; intro a ha hf; clear ha
            refine st_move hf rfl rfl (by decide) ?_
            clear hf; intro a ha hf; clear ha
            obtain ⟨hc104, h⟩ := chk h
            refine st_index (E := (Ek.pair (Ek.int .u8) (Ek.pair (Ek.int .i64) (Ek.pair Ek.bool (Ek.pair (Ek.int .u8) (Ek.pair (Ek.int .u8) (Ek.pair Ek.bool Ek.str))))))) hf (by decide) Try.underlying22 elt33 rfl rfl rfl (hl2.sl hp) hc104.1 hc104.2 ?_
            clear hf; intro a ha hf; clear ha
            refine st_faP (off := 2) (sz := 1) hf (by decide) (by kernel_rfl) (by decide) rfl rfl (Sl.isP (hl2.sl hp) hc104.1 hc104.2) ?_
            clear hf; intro a ha hf; clear ha
            refine st_ldQ (F := Ek.bool) (yv := (gt l2 i11).2.2.1) hf (by decide) pl4 (fun x => .bool x) (fun _ _ h => h) rfl rfl (Sl.part (E := (Ek.pair (Ek.int .u8) (Ek.pair (Ek.int .i64) (Ek.pair Ek.bool (Ek.pair (Ek.int .u8) (Ek.pair (Ek.int .u8) (Ek.pair Ek.bool Ek.str))))))) (F := Ek.bool) (o := 2) (Sub.comp (Sub.snd (E := (Ek.int .u8)) (F := (Ek.pair (Ek.int .i64) (Ek.pair Ek.bool (Ek.pair (Ek.int .u8) (Ek.pair (Ek.int .u8) (Ek.pair Ek.bool Ek.str))))))) (Sub.comp (Sub.snd (E := (Ek.int .i64)) (F := (Ek.pair Ek.bool (Ek.pair (Ek.int .u8) (Ek.pair (Ek.int .u8) (Ek.pair Ek.bool Ek.str)))))) (Sub.fst (E := Ek.bool) (F := (Ek.pair (Ek.int .u8) (Ek.pair (Ek.int .u8) (Ek.pair Ek.bool Ek.str))))))) (hl2.sl hp) hc104.1 hc104.2) ?_
            clear hf; intro a ha hf; clear ha
            refine st_nil hf ?_
            refine th_n ?_
            refine wp_if hf rfl (fun hb => ?_) (fun hb => ?_)
            · replace h := ifT h hb
              refine wp_reg ?_
              refine st_move hf rfl rfl (by decide) ?_
              clear hf; intro a ha hf; clear ha
              refine st_nilV hf (by decide) rfl rfl (hp.ob (i := 3) rfl) ?_
              clear hf; intro a ha hf; clear ha
              refine st_fa (o' := 2) hf (by decide) (off := 2) (sz := 1) (by kernel_rfl) (by decide) rfl rfl (hp.ob (i := 3) rfl) rfl ?_
              clear hf; intro a ha hf; clear ha
              refine st_ldO (u := .int .i64 yx9c_2) hf (by decide) pl2 rfl rfl (hp.ob (i := 3) rfl) rfl ?_
              clear hf; intro a ha hf; clear ha
              refine st_move hf rfl rfl (by decide) ?_
              clear hf; intro a ha hf; clear ha
              refine st_iand hf (by decide) rfl rfl rfl ?_
              clear hf; intro a ha hf; clear ha
              refine st_iadd hf (by decide) rfl rfl rfl ?_
              clear hf; intro a ha hf; clear ha
              refine st_assign hf rfl rfl (by decide) ?_
              clear hf; intro a ha hf; clear ha
              refine st_nil hf ?_
              have hp : Hp _ _ _ (Res.obj 79 v3 [.int .i64 xx7c_0, .int .i64 xx7c_1, .int .i64 xx7c_2, .int .i64 xx7c_3, v19] :: Res.sl (Ek.pair Ek.str (Ek.pair Ek.bool (Ek.pair (Ek.int .i64) Ek.bool))) 81 v19 xx7c_4 :: Res.obj 53 v7 [.int .i64 yx9c_0, .int .i64 yx9c_1, .int .i64 yx9c_2, v22] :: Res.sl (Ek.pair Ek.str (Ek.pair (Ek.int .i64) Ek.bool)) 83 v22 yx9c_3 :: ow) := Hp.sel (pre := [Res.sl (Ek.pair Ek.str (Ek.pair Ek.bool (Ek.pair (Ek.int .i64) Ek.bool))) 81 v19 xx7c_4, Res.obj 79 v3 [.int .i64 xx7c_0, .int .i64 xx7c_1, .int .i64 xx7c_2, .int .i64 xx7c_3, v19], Res.sl (Ek.pair Ek.str (Ek.pair (Ek.int .i64) Ek.bool)) 83 v22 yx9c_3, Res.obj 53 v7 [.int .i64 yx9c_0, .int .i64 yx9c_1, .int .i64 yx9c_2, v22]]) (tail := ow) (rs' := [Res.obj 79 v3 [.int .i64 xx7c_0, .int .i64 xx7c_1, .int .i64 xx7c_2, .int .i64 xx7c_3, v19], Res.sl (Ek.pair Ek.str (Ek.pair Ek.bool (Ek.pair (Ek.int .i64) Ek.bool))) 81 v19 xx7c_4, Res.obj 53 v7 [.int .i64 yx9c_0, .int .i64 yx9c_1, .int .i64 yx9c_2, v22], Res.sl (Ek.pair Ek.str (Ek.pair (Ek.int .i64) Ek.bool)) 83 v22 yx9c_3]) hp [1, 0, 3, 2] (by decide) (by simp) rfl
              refine th_n ?_
              exact ⟨_, h, hf.sub ⟨rfl, rfl, rfl, rfl, rfl, trivial⟩, hp⟩
            replace h := ifF h hb
            refine wp_skip ?_
            have hp : Hp _ _ _ (Res.obj 79 v3 [.int .i64 xx7c_0, .int .i64 xx7c_1, .int .i64 xx7c_2, .int .i64 xx7c_3, v19] :: Res.sl (Ek.pair Ek.str (Ek.pair Ek.bool (Ek.pair (Ek.int .i64) Ek.bool))) 81 v19 xx7c_4 :: Res.obj 53 v7 [.int .i64 yx9c_0, .int .i64 yx9c_1, .int .i64 yx9c_2, v22] :: Res.sl (Ek.pair Ek.str (Ek.pair (Ek.int .i64) Ek.bool)) 83 v22 yx9c_3 :: ow) := Hp.sel (pre := [Res.sl (Ek.pair Ek.str (Ek.pair Ek.bool (Ek.pair (Ek.int .i64) Ek.bool))) 81 v19 xx7c_4, Res.obj 79 v3 [.int .i64 xx7c_0, .int .i64 xx7c_1, .int .i64 xx7c_2, .int .i64 xx7c_3, v19], Res.sl (Ek.pair Ek.str (Ek.pair (Ek.int .i64) Ek.bool)) 83 v22 yx9c_3, Res.obj 53 v7 [.int .i64 yx9c_0, .int .i64 yx9c_1, .int .i64 yx9c_2, v22]]) (tail := ow) (rs' := [Res.obj 79 v3 [.int .i64 xx7c_0, .int .i64 xx7c_1, .int .i64 xx7c_2, .int .i64 xx7c_3, v19], Res.sl (Ek.pair Ek.str (Ek.pair Ek.bool (Ek.pair (Ek.int .i64) Ek.bool))) 81 v19 xx7c_4, Res.obj 53 v7 [.int .i64 yx9c_0, .int .i64 yx9c_1, .int .i64 yx9c_2, v22], Res.sl (Ek.pair Ek.str (Ek.pair (Ek.int .i64) Ek.bool)) 83 v22 yx9c_3]) hp [1, 0, 3, 2] (by decide) (by simp) rfl
            refine th_n ?_
            exact ⟨_, h, hf.sub ⟨rfl, rfl, rfl, rfl, rfl, trivial⟩, hp⟩
          rintro a w ⟨now12, h, hf, hp⟩
          unfold f_foghornlaw28_AgainSends.j2 at h
          refine wp_seq ?_
          refine wp_reg ?_
          refine st_move hf rfl rfl (by decide) ?_
          clear hf; intro a ha hf; clear ha
          refine st_move hf rfl rfl (by decide) ?_
          clear hf; intro a ha hf; clear ha
          obtain ⟨q71, hcall72, h⟩ := bnd h
          have hp73 : Hp _ _ _ (Res.sl (Ek.pair Ek.str (Ek.pair Ek.bool (Ek.pair (Ek.int .i64) Ek.bool))) 81 v19 xx7c_4 :: Res.obj 79 v3 [.int .i64 xx7c_0, .int .i64 xx7c_1, .int .i64 xx7c_2, .int .i64 xx7c_3, v19] :: Res.obj 53 v7 [.int .i64 yx9c_0, .int .i64 yx9c_1, .int .i64 yx9c_2, v22] :: Res.sl (Ek.pair Ek.str (Ek.pair (Ek.int .i64) Ek.bool)) 83 v22 yx9c_3 :: ow) := Hp.sel (pre := [Res.obj 79 v3 [.int .i64 xx7c_0, .int .i64 xx7c_1, .int .i64 xx7c_2, .int .i64 xx7c_3, v19], Res.sl (Ek.pair Ek.str (Ek.pair Ek.bool (Ek.pair (Ek.int .i64) Ek.bool))) 81 v19 xx7c_4, Res.obj 53 v7 [.int .i64 yx9c_0, .int .i64 yx9c_1, .int .i64 yx9c_2, v22], Res.sl (Ek.pair Ek.str (Ek.pair (Ek.int .i64) Ek.bool)) 83 v22 yx9c_3]) (tail := ow) (rs' := [Res.sl (Ek.pair Ek.str (Ek.pair Ek.bool (Ek.pair (Ek.int .i64) Ek.bool))) 81 v19 xx7c_4, Res.obj 79 v3 [.int .i64 xx7c_0, .int .i64 xx7c_1, .int .i64 xx7c_2, .int .i64 xx7c_3, v19], Res.obj 53 v7 [.int .i64 yx9c_0, .int .i64 yx9c_1, .int .i64 yx9c_2, v22], Res.sl (Ek.pair Ek.str (Ek.pair (Ek.int .i64) Ek.bool)) 83 v22 yx9c_3]) hp [1, 0, 2, 3] (by decide) (by simp) rfl
          refine st_call hf (by decide) Try.func19 rfl rfl rfl rfl rfl (f_again_Sender_Tick_c _ _ _ _ _ _ _ _ hp73 hcall72) ?_
          rintro _ w ⟨v74, v75, rfl, hp0⟩
          clear hp; have hp := hp0; clear hp0
          replace hp : Hp _ _ _ (Res.sl (Ek.pair (Ek.int .u8) (Ek.pair (Ek.int .u8) (Ek.pair Ek.bool Ek.str))) 31 v74 q71.1 :: Res.sl (Ek.pair Ek.str (Ek.pair Ek.bool (Ek.pair (Ek.int .i64) Ek.bool))) 81 v75 q71.2.2.2.2.2.2 :: Res.obj 79 v3 [.int .i64 q71.2.2.1, .int .i64 q71.2.2.2.1, .int .i64 q71.2.2.2.2.1, .int .i64 q71.2.2.2.2.2.1, v75] :: Res.obj 53 v7 [.int .i64 yx9c_0, .int .i64 yx9c_1, .int .i64 yx9c_2, v22] :: Res.sl (Ek.pair Ek.str (Ek.pair (Ek.int .i64) Ek.bool)) 83 v22 yx9c_3 :: ow) := hp
          refine ⟨_, rfl, ?_⟩
          clear hf; intro a hf
          refine st_move hf rfl rfl (by decide) ?_
          clear hf; intro a ha hf; clear ha
          refine st_extract hf (by decide) rfl rfl rfl ?_
          clear hf; intro a ha hf; clear ha
          refine st_extract hf (by decide) rfl rfl rfl ?_
          clear hf; intro a ha hf; clear ha
          refine st_assign hf rfl rfl (by decide) ?_
          clear hf; intro a ha hf; clear ha
          refine st_assign hf rfl rfl (by decide) ?_
          clear hf; intro a ha hf; clear ha
          refine st_nil hf ?_
          refine th_n ?_
          refine wp_seq ?_
          refine wp_reg ?_
          refine st_move hf rfl rfl (by decide) ?_
          clear hf; intro a ha hf; clear ha
          refine st_move hf rfl rfl (by decide) ?_
          clear hf; intro a ha hf; clear ha
          obtain ⟨q78, hcall79, h⟩ := bnd h
          have hp80 : Hp _ _ _ (Res.sl (Ek.pair Ek.str (Ek.pair (Ek.int .i64) Ek.bool)) 83 v22 yx9c_3 :: Res.obj 53 v7 [.int .i64 yx9c_0, .int .i64 yx9c_1, .int .i64 yx9c_2, v22] :: Res.sl (Ek.pair (Ek.int .u8) (Ek.pair (Ek.int .u8) (Ek.pair Ek.bool Ek.str))) 31 v74 q71.1 :: Res.sl (Ek.pair Ek.str (Ek.pair Ek.bool (Ek.pair (Ek.int .i64) Ek.bool))) 81 v75 q71.2.2.2.2.2.2 :: Res.obj 79 v3 [.int .i64 q71.2.2.1, .int .i64 q71.2.2.2.1, .int .i64 q71.2.2.2.2.1, .int .i64 q71.2.2.2.2.2.1, v75] :: ow) := Hp.sel (pre := [Res.sl (Ek.pair (Ek.int .u8) (Ek.pair (Ek.int .u8) (Ek.pair Ek.bool Ek.str))) 31 v74 q71.1, Res.sl (Ek.pair Ek.str (Ek.pair Ek.bool (Ek.pair (Ek.int .i64) Ek.bool))) 81 v75 q71.2.2.2.2.2.2, Res.obj 79 v3 [.int .i64 q71.2.2.1, .int .i64 q71.2.2.2.1, .int .i64 q71.2.2.2.2.1, .int .i64 q71.2.2.2.2.2.1, v75], Res.obj 53 v7 [.int .i64 yx9c_0, .int .i64 yx9c_1, .int .i64 yx9c_2, v22], Res.sl (Ek.pair Ek.str (Ek.pair (Ek.int .i64) Ek.bool)) 83 v22 yx9c_3]) (tail := ow) (rs' := [Res.sl (Ek.pair Ek.str (Ek.pair (Ek.int .i64) Ek.bool)) 83 v22 yx9c_3, Res.obj 53 v7 [.int .i64 yx9c_0, .int .i64 yx9c_1, .int .i64 yx9c_2, v22], Res.sl (Ek.pair (Ek.int .u8) (Ek.pair (Ek.int .u8) (Ek.pair Ek.bool Ek.str))) 31 v74 q71.1, Res.sl (Ek.pair Ek.str (Ek.pair Ek.bool (Ek.pair (Ek.int .i64) Ek.bool))) 81 v75 q71.2.2.2.2.2.2, Res.obj 79 v3 [.int .i64 q71.2.2.1, .int .i64 q71.2.2.2.1, .int .i64 q71.2.2.2.2.1, .int .i64 q71.2.2.2.2.2.1, v75]]) hp [4, 3, 0, 1, 2] (by decide) (by simp) rfl
          refine st_call hf (by decide) Try.func20 rfl rfl rfl rfl rfl (f_foghornref28_Sender_Tick_c _ _ _ _ _ _ _ hp80 hcall79) ?_
          rintro _ w ⟨v81, v82, rfl, hp0⟩
          clear hp; have hp := hp0; clear hp0
          replace hp : Hp _ _ _ (Res.sl (Ek.pair (Ek.int .u8) (Ek.pair (Ek.int .u8) (Ek.pair Ek.bool Ek.str))) 31 v81 q78.1 :: Res.sl (Ek.pair Ek.str (Ek.pair (Ek.int .i64) Ek.bool)) 83 v82 q78.2.2.2.2.2 :: Res.obj 53 v7 [.int .i64 q78.2.2.1, .int .i64 q78.2.2.2.1, .int .i64 q78.2.2.2.2.1, v82] :: Res.sl (Ek.pair (Ek.int .u8) (Ek.pair (Ek.int .u8) (Ek.pair Ek.bool Ek.str))) 31 v74 q71.1 :: Res.sl (Ek.pair Ek.str (Ek.pair Ek.bool (Ek.pair (Ek.int .i64) Ek.bool))) 81 v75 q71.2.2.2.2.2.2 :: Res.obj 79 v3 [.int .i64 q71.2.2.1, .int .i64 q71.2.2.2.1, .int .i64 q71.2.2.2.2.1, .int .i64 q71.2.2.2.2.2.1, v75] :: ow) := hp
          refine ⟨_, rfl, ?_⟩
          clear hf; intro a hf
          refine st_move hf rfl rfl (by decide) ?_
          clear hf; intro a ha hf; clear ha
          refine st_extract hf (by decide) rfl rfl rfl ?_
          clear hf; intro a ha hf; clear ha
          refine st_extract hf (by decide) rfl rfl rfl ?_
          clear hf; intro a ha hf; clear ha
          refine st_assign hf rfl rfl (by decide) ?_
          clear hf; intro a ha hf; clear ha
          refine st_assign hf rfl rfl (by decide) ?_
          clear hf; intro a ha hf; clear ha
          refine st_nil hf ?_
          refine th_n ?_
          refine wp_seq ?_
          refine wp_seq ?_
          refine wp_reg ?_
          refine st_move hf rfl rfl (by decide) ?_
          clear hf; intro a ha hf; clear ha
          refine st_move hf rfl rfl (by decide) ?_
          clear hf; intro a ha hf; clear ha
          refine st_ineq hf (by decide) rfl rfl rfl ?_
          clear hf; intro a ha hf; clear ha
          refine st_move hf rfl rfl (by decide) ?_
          clear hf; intro a ha hf; clear ha
          obtain ⟨z87, hz85, h⟩ := bnd h
          refine wpList_cut 5 (fun a w => Fr 161 a [(2, vl2), (7, v3), (9, v7), (11, .int .i64 i11), (13, v74), (117, .bool z87)] ∧ Hp S w0 w (Res.sl (Ek.pair (Ek.int .u8) (Ek.pair (Ek.int .u8) (Ek.pair Ek.bool Ek.str))) 31 v81 q78.1 :: Res.sl (Ek.pair Ek.str (Ek.pair (Ek.int .i64) Ek.bool)) 83 v82 q78.2.2.2.2.2 :: Res.obj 53 v7 [.int .i64 q78.2.2.1, .int .i64 q78.2.2.2.1, .int .i64 q78.2.2.2.2.1, v82] :: Res.sl (Ek.pair (Ek.int .u8) (Ek.pair (Ek.int .u8) (Ek.pair Ek.bool Ek.str))) 31 v74 q71.1 :: Res.sl (Ek.pair Ek.str (Ek.pair Ek.bool (Ek.pair (Ek.int .i64) Ek.bool))) 81 v75 q71.2.2.2.2.2.2 :: Res.obj 79 v3 [.int .i64 q71.2.2.1, .int .i64 q71.2.2.2.1, .int .i64 q71.2.2.2.2.1, .int .i64 q71.2.2.2.2.2.1, v75] :: ow)) ?_ ?_
          · rcases Bool.eq_false_or_eq_true (q71.2.1 != q78.2.1) with hb86 | hb86
            · skip
              replace hz85 := ifT hz85 hb86
              refine st_skip hf (wantN hf rfl rfl hb86) rfl (by decide) ?_ rfl
              clear hf; intro a hf
              refine st_skip hf (wantN hf rfl rfl hb86) rfl (by decide) ?_ rfl
              clear hf; intro a hf
              refine st_skip hf (wantN hf rfl rfl hb86) rfl (by decide) ?_ rfl
              clear hf; intro a hf
              refine st_skip hf (wantN hf rfl rfl hb86) rfl (by decide) ?_ rfl
              clear hf; intro a hf
              obtain rfl := Option.some.inj hz85
              refine st_pick (v := .bool true) hf rfl rfl (fun hb' => ?_) (fun hb' => ?_) (by decide) ?_
              · rfl
              · exact absurd (hb86.symm.trans hb') (by decide)
              clear hf; intro a ha hf; clear ha
              refine st_nil hf (th_n ?_)
              exact ⟨hf.sub ⟨rfl, rfl, rfl, rfl, rfl, rfl, trivial⟩, hp⟩
            replace hz85 := ifF hz85 hb86
            refine st_move hf (wantY hf rfl rfl hb86) rfl (by decide) ?_
            clear hf; intro a ha hf; clear ha
            refine st_move hf (wantY hf rfl rfl hb86) rfl (by decide) ?_
            clear hf; intro a ha hf; clear ha
            obtain ⟨q88, hcall89, hz85⟩ := bnd hz85
            obtain ⟨S90, hp91, rd92, up93, bk94⟩ := Hp.lendS hp (i := 3) rfl
            obtain ⟨S95, hp96, rd97, up98, bk99⟩ := Hp.lendS hp91 (i := 0) rfl
            refine st_call hf (by decide) Try.func21 rfl rfl (wantY hf rfl rfl hb86) rfl rfl (f_foghornlaw28_sameAll_c hp96 _ _ ((rd92.now hp91).mono up98) _ _ rd97 hcall89) ?_
            rintro _ w ⟨rfl, hp0⟩
            have hp0 := bk99 _ _ hp0
            have hp0 := bk94 _ _ hp0
            clear hp; have hp := hp0; clear hp0
            replace hp : Hp _ _ _ (Res.sl (Ek.pair (Ek.int .u8) (Ek.pair (Ek.int .u8) (Ek.pair Ek.bool Ek.str))) 31 v74 q71.1 :: Res.sl (Ek.pair (Ek.int .u8) (Ek.pair (Ek.int .u8) (Ek.pair Ek.bool Ek.str))) 31 v81 q78.1 :: Res.sl (Ek.pair Ek.str (Ek.pair (Ek.int .i64) Ek.bool)) 83 v82 q78.2.2.2.2.2 :: Res.obj 53 v7 [.int .i64 q78.2.2.1, .int .i64 q78.2.2.2.1, .int .i64 q78.2.2.2.2.1, v82] :: Res.sl (Ek.pair Ek.str (Ek.pair Ek.bool (Ek.pair (Ek.int .i64) Ek.bool))) 81 v75 q71.2.2.2.2.2.2 :: Res.obj 79 v3 [.int .i64 q71.2.2.1, .int .i64 q71.2.2.2.1, .int .i64 q71.2.2.2.2.1, .int .i64 q71.2.2.2.2.2.1, v75] :: ow) := hp
            refine ⟨_, rfl, ?_⟩
            clear hf; intro a hf
            refine st_not hf (by decide) (wantY hf rfl rfl hb86) rfl ?_
            clear hf; intro a ha hf; clear ha
            obtain rfl := Option.some.inj hz85
            refine st_pick (v := .bool (!q88)) hf rfl rfl (fun hb' => ?_) (fun hb' => ?_) (by decide) ?_
            · exact absurd (hb86.symm.trans hb') (by decide)
            · rfl
            clear hf; intro a ha hf; clear ha
            refine st_nil hf (th_n ?_)
            have hp : Hp _ _ _ (Res.sl (Ek.pair (Ek.int .u8) (Ek.pair (Ek.int .u8) (Ek.pair Ek.bool Ek.str))) 31 v81 q78.1 :: Res.sl (Ek.pair Ek.str (Ek.pair (Ek.int .i64) Ek.bool)) 83 v82 q78.2.2.2.2.2 :: Res.obj 53 v7 [.int .i64 q78.2.2.1, .int .i64 q78.2.2.2.1, .int .i64 q78.2.2.2.2.1, v82] :: Res.sl (Ek.pair (Ek.int .u8) (Ek.pair (Ek.int .u8) (Ek.pair Ek.bool Ek.str))) 31 v74 q71.1 :: Res.sl (Ek.pair Ek.str (Ek.pair Ek.bool (Ek.pair (Ek.int .i64) Ek.bool))) 81 v75 q71.2.2.2.2.2.2 :: Res.obj 79 v3 [.int .i64 q71.2.2.1, .int .i64 q71.2.2.2.1, .int .i64 q71.2.2.2.2.1, .int .i64 q71.2.2.2.2.2.1, v75] :: ow) := Hp.sel (pre := [Res.sl (Ek.pair (Ek.int .u8) (Ek.pair (Ek.int .u8) (Ek.pair Ek.bool Ek.str))) 31 v74 q71.1, Res.sl (Ek.pair (Ek.int .u8) (Ek.pair (Ek.int .u8) (Ek.pair Ek.bool Ek.str))) 31 v81 q78.1, Res.sl (Ek.pair Ek.str (Ek.pair (Ek.int .i64) Ek.bool)) 83 v82 q78.2.2.2.2.2, Res.obj 53 v7 [.int .i64 q78.2.2.1, .int .i64 q78.2.2.2.1, .int .i64 q78.2.2.2.2.1, v82], Res.sl (Ek.pair Ek.str (Ek.pair Ek.bool (Ek.pair (Ek.int .i64) Ek.bool))) 81 v75 q71.2.2.2.2.2.2, Res.obj 79 v3 [.int .i64 q71.2.2.1, .int .i64 q71.2.2.2.1, .int .i64 q71.2.2.2.2.1, .int .i64 q71.2.2.2.2.2.1, v75]]) (tail := ow) (rs' := [Res.sl (Ek.pair (Ek.int .u8) (Ek.pair (Ek.int .u8) (Ek.pair Ek.bool Ek.str))) 31 v81 q78.1, Res.sl (Ek.pair Ek.str (Ek.pair (Ek.int .i64) Ek.bool)) 83 v82 q78.2.2.2.2.2, Res.obj 53 v7 [.int .i64 q78.2.2.1, .int .i64 q78.2.2.2.1, .int .i64 q78.2.2.2.2.1, v82], Res.sl (Ek.pair (Ek.int .u8) (Ek.pair (Ek.int .u8) (Ek.pair Ek.bool Ek.str))) 31 v74 q71.1, Res.sl (Ek.pair Ek.str (Ek.pair Ek.bool (Ek.pair (Ek.int .i64) Ek.bool))) 81 v75 q71.2.2.2.2.2.2, Res.obj 79 v3 [.int .i64 q71.2.2.1, .int .i64 q71.2.2.2.1, .int .i64 q71.2.2.2.2.1, .int .i64 q71.2.2.2.2.2.1, v75]]) hp [1, 2, 3, 0, 4, 5] (by decide) (by simp) rfl
            exact ⟨hf.sub ⟨rfl, rfl, rfl, rfl, rfl, rfl, trivial⟩, hp⟩
          rintro a w ⟨hf, hp⟩
          refine st_nil hf ?_
          refine th_n ?_
          refine wp_if hf rfl (fun hb => ?_) (fun hb => ?_)
          · replace h := ifT h hb
            refine wp_seq ?_
            refine wp_reg ?_
            refine st_assign hf rfl rfl (by decide) ?_
            clear hf; intro a ha hf; clear ha
            refine st_nil hf ?_
            refine th_n ?_
            refine wp_ret ?_
            refine th_r ?_
            refine ib_r ?_
            refine th_r ?_
            refine ib_r ?_
            refine th_r ?_
            obtain rfl := Option.some.inj h
            have hp : Hp _ _ _ (ow) := Hp.sel (pre := [Res.sl (Ek.pair (Ek.int .u8) (Ek.pair (Ek.int .u8) (Ek.pair Ek.bool Ek.str))) 31 v81 q78.1, Res.sl (Ek.pair Ek.str (Ek.pair (Ek.int .i64) Ek.bool)) 83 v82 q78.2.2.2.2.2, Res.obj 53 v7 [.int .i64 q78.2.2.1, .int .i64 q78.2.2.2.1, .int .i64 q78.2.2.2.2.1, v82], Res.sl (Ek.pair (Ek.int .u8) (Ek.pair (Ek.int .u8) (Ek.pair Ek.bool Ek.str))) 31 v74 q71.1, Res.sl (Ek.pair Ek.str (Ek.pair Ek.bool (Ek.pair (Ek.int .i64) Ek.bool))) 81 v75 q71.2.2.2.2.2.2, Res.obj 79 v3 [.int .i64 q71.2.2.1, .int .i64 q71.2.2.2.1, .int .i64 q71.2.2.2.2.1, .int .i64 q71.2.2.2.2.2.1, v75]]) (tail := ow) (rs' := []) hp [] (by decide) (by simp) rfl
            exact rnd_r (by simp) ⟨rfl, ⟨hf.sub ⟨rfl, trivial⟩, hp⟩⟩
          replace h := ifF h hb
          refine wp_skip ?_
          refine th_n ?_
          refine wp_seq ?_
          refine wp_reg ?_
          refine st_assign hf rfl rfl (by decide) ?_
          clear hf; intro a ha hf; clear ha
          refine st_nil hf ?_
          refine th_n ?_
          refine wp_block ?_
          obtain ⟨q103, hl, h⟩ := bnd h
          have hp : Hp _ _ _ (Res.sl (Ek.pair (Ek.int .u8) (Ek.pair (Ek.int .u8) (Ek.pair Ek.bool Ek.str))) 31 v74 q71.1 :: Res.obj 79 v3 [.int .i64 q71.2.2.1, .int .i64 q71.2.2.2.1, .int .i64 q71.2.2.2.2.1, .int .i64 q71.2.2.2.2.2.1, v75] :: Res.sl (Ek.pair Ek.str (Ek.pair Ek.bool (Ek.pair (Ek.int .i64) Ek.bool))) 81 v75 q71.2.2.2.2.2.2 :: Res.obj 53 v7 [.int .i64 q78.2.2.1, .int .i64 q78.2.2.2.1, .int .i64 q78.2.2.2.2.1, v82] :: Res.sl (Ek.pair Ek.str (Ek.pair (Ek.int .i64) Ek.bool)) 83 v82 q78.2.2.2.2.2 :: ow) := Hp.sel (pre := [Res.sl (Ek.pair (Ek.int .u8) (Ek.pair (Ek.int .u8) (Ek.pair Ek.bool Ek.str))) 31 v81 q78.1, Res.sl (Ek.pair Ek.str (Ek.pair (Ek.int .i64) Ek.bool)) 83 v82 q78.2.2.2.2.2, Res.obj 53 v7 [.int .i64 q78.2.2.1, .int .i64 q78.2.2.2.1, .int .i64 q78.2.2.2.2.1, v82], Res.sl (Ek.pair (Ek.int .u8) (Ek.pair (Ek.int .u8) (Ek.pair Ek.bool Ek.str))) 31 v74 q71.1, Res.sl (Ek.pair Ek.str (Ek.pair Ek.bool (Ek.pair (Ek.int .i64) Ek.bool))) 81 v75 q71.2.2.2.2.2.2, Res.obj 79 v3 [.int .i64 q71.2.2.1, .int .i64 q71.2.2.2.1, .int .i64 q71.2.2.2.2.1, .int .i64 q71.2.2.2.2.2.1, v75]]) (tail := ow) (rs' := [Res.sl (Ek.pair (Ek.int .u8) (Ek.pair (Ek.int .u8) (Ek.pair Ek.bool Ek.str))) 31 v74 q71.1, Res.obj 79 v3 [.int .i64 q71.2.2.1, .int .i64 q71.2.2.2.1, .int .i64 q71.2.2.2.2.1, .int .i64 q71.2.2.2.2.2.1, v75], Res.sl (Ek.pair Ek.str (Ek.pair Ek.bool (Ek.pair (Ek.int .i64) Ek.bool))) 81 v75 q71.2.2.2.2.2.2, Res.obj 53 v7 [.int .i64 q78.2.2.1, .int .i64 q78.2.2.2.1, .int .i64 q78.2.2.2.2.1, v82], Res.sl (Ek.pair Ek.str (Ek.pair (Ek.int .i64) Ek.bool)) 83 v82 q78.2.2.2.2.2]) hp [3, 5, 4, 2, 1] (by decide) (by simp) rfl
          refine wp_loop_pure (f := f_foghornlaw28_AgainSends.s2) (s := (q71.1, (0 : Int))) (fun s a w => ∃ (v100 : Value), Fr 161 a [(2, vl2), (7, v3), (9, v7), (11, .int .i64 i11), (13, v100), (17, .int .i64 s.2)] ∧ Hp S w0 w (Res.sl (Ek.pair (Ek.int .u8) (Ek.pair (Ek.int .u8) (Ek.pair Ek.bool Ek.str))) 31 v100 s.1 :: Res.obj 79 v3 [.int .i64 q71.2.2.1, .int .i64 q71.2.2.2.1, .int .i64 q71.2.2.2.2.1, .int .i64 q71.2.2.2.2.2.1, v75] :: Res.sl (Ek.pair Ek.str (Ek.pair Ek.bool (Ek.pair (Ek.int .i64) Ek.bool))) 81 v75 q71.2.2.2.2.2.2 :: Res.obj 53 v7 [.int .i64 q78.2.2.1, .int .i64 q78.2.2.2.1, .int .i64 q78.2.2.2.2.1, v82] :: Res.sl (Ek.pair Ek.str (Ek.pair (Ek.int .i64) Ek.bool)) 83 v82 q78.2.2.2.2.2 :: ow)) (fun q e a w => e = .exit 3 ∧ Fr 161 a [(2, vl2), (7, v3), (9, v7), (11, .int .i64 i11)] ∧ Hp S w0 w (Res.obj 79 v3 [.int .i64 q71.2.2.1, .int .i64 q71.2.2.2.1, .int .i64 q71.2.2.2.2.1, .int .i64 q71.2.2.2.2.2.1, v75] :: Res.sl (Ek.pair Ek.str (Ek.pair Ek.bool (Ek.pair (Ek.int .i64) Ek.bool))) 81 v75 q71.2.2.2.2.2.2 :: Res.obj 53 v7 [.int .i64 q78.2.2.1, .int .i64 q78.2.2.2.1, .int .i64 q78.2.2.2.2.1, v82] :: Res.sl (Ek.pair Ek.str (Ek.pair (Ek.int .i64) Ek.bool)) 83 v82 q78.2.2.2.2.2 :: ow)) ?_ hl ⟨_, hf.sub ⟨rfl, rfl, rfl, rfl, rfl, rfl, trivial⟩, hp⟩ ?_
          · clear hl hf hp
            intro s x a w h hI
            obtain ⟨ax13, k17⟩ := s
            obtain ⟨v100, hf, hp⟩ : ∃ (v100 : Value), Fr 161 a [(2, vl2), (7, v3), (9, v7), (11, .int .i64 i11), (13, v100), (17, .int .i64 k17)] ∧ Hp S w0 w (Res.sl (Ek.pair (Ek.int .u8) (Ek.pair (Ek.int .u8) (Ek.pair Ek.bool Ek.str))) 31 v100 ax13 :: Res.obj 79 v3 [.int .i64 q71.2.2.1, .int .i64 q71.2.2.2.1, .int .i64 q71.2.2.2.2.1, .int .i64 q71.2.2.2.2.2.1, v75] :: Res.sl (Ek.pair Ek.str (Ek.pair Ek.bool (Ek.pair (Ek.int .i64) Ek.bool))) 81 v75 q71.2.2.2.2.2.2 :: Res.obj 53 v7 [.int .i64 q78.2.2.1, .int .i64 q78.2.2.2.1, .int .i64 q78.2.2.2.2.1, v82] :: Res.sl (Ek.pair Ek.str (Ek.pair (Ek.int .i64) Ek.bool)) 83 v82 q78.2.2.2.2.2 :: ow) := hI
            replace h : f_foghornlaw28_AgainSends.s2c ax13 k17 = some x := h
            unfold f_foghornlaw28_AgainSends.s2c at h
            refine wp_seq ?_
            refine wp_seq ?_
            refine wp_reg ?_
            refine st_move hf rfl rfl (by decide) ?_
            clear hf; intro a ha hf; clear ha
            refine st_move hf rfl rfl (by decide) ?_
            clear hf; intro a ha hf; clear ha
            refine st_len (E := (Ek.pair (Ek.int .u8) (Ek.pair (Ek.int .u8) (Ek.pair Ek.bool Ek.str)))) hf (by decide) Try.underlying54 rfl rfl (hp.sl (i := 0) rfl) ?_
            clear hf; intro a ha hf; clear ha
            refine st_ilss hf (by decide) rfl rfl rfl ?_
            clear hf; intro a ha hf; clear ha
            refine st_nil hf ?_
            refine th_n ?_
            refine wp_if hf rfl (fun hb => ?_) (fun hb => ?_)
            · replace h := ifT h hb
              refine wp_skip ?_
              refine th_n ?_
              refine wp_seq ?_
              refine wp_block ?_
              refine wp_reg ?_
              refine st_move hf rfl rfl (by decide) ?_
              clear hf; intro a ha hf; clear ha
              refine st_move hf rfl rfl (by decide) ?_
              clear hf; intro a ha hf; clear ha
              refine st_buildA (vals := []) (cells := [.int .u8 (0 : Int), .int .u8 (0 : Int), .bool false, .string ByteArray.empty]) hf (by decide) rfl (by simp []) (fun w => by kernel_rfl) ?_
              clear hf; intro a ha hf; clear ha
              obtain ⟨hc102, h⟩ := chk h
              refine st_index (E := (Ek.pair (Ek.int .u8) (Ek.pair (Ek.int .u8) (Ek.pair Ek.bool Ek.str)))) hf (by decide) Try.underlying54 elt31 rfl rfl rfl (hp.sl (i := 0) rfl) hc102.1 hc102.2 ?_
              clear hf; intro a ha hf; clear ha
              refine st_store (E := (Ek.pair (Ek.int .u8) (Ek.pair (Ek.int .u8) (Ek.pair Ek.bool Ek.str)))) (x' := ((0 : Int), (0 : Int), false, ByteArray.empty)) hf elt31 hp (i := 0) rfl rfl rfl rfl ⟨[.int .u8 (0 : Int)], [.int .u8 (0 : Int), .bool false, .string ByteArray.empty], rfl, rfl, ⟨[.int .u8 (0 : Int)], [.bool false, .string ByteArray.empty], rfl, rfl, ⟨[.bool false], [.string ByteArray.empty], rfl, rfl, rfl⟩⟩⟩ hc102.1 hc102.2 ?_
              clear hf; intro a w hf hp0; clear hp; have hp := hp0; clear hp0
              replace hp : Hp _ _ _ (Res.sl (Ek.pair (Ek.int .u8) (Ek.pair (Ek.int .u8) (Ek.pair Ek.bool Ek.str))) 31 v100 (ax13.set (k17).toNat ((0 : Int), (0 : Int), false, ByteArray.empty)) :: Res.obj 79 v3 [.int .i64 q71.2.2.1, .int .i64 q71.2.2.2.1, .int .i64 q71.2.2.2.2.1, .int .i64 q71.2.2.2.2.2.1, v75] :: Res.sl (Ek.pair Ek.str (Ek.pair Ek.bool (Ek.pair (Ek.int .i64) Ek.bool))) 81 v75 q71.2.2.2.2.2.2 :: Res.obj 53 v7 [.int .i64 q78.2.2.1, .int .i64 q78.2.2.2.1, .int .i64 q78.2.2.2.2.1, v82] :: Res.sl (Ek.pair Ek.str (Ek.pair (Ek.int .i64) Ek.bool)) 83 v82 q78.2.2.2.2.2 :: ow) := hp
              refine st_nil hf ?_
              refine ib_n ?_
              refine th_n ?_
              refine wp_reg ?_
              refine st_move hf rfl rfl (by decide) ?_
              clear hf; intro a ha hf; clear ha
              refine st_iadd hf (by decide) rfl rfl rfl ?_
              clear hf; intro a ha hf; clear ha
              refine st_assign hf rfl rfl (by decide) ?_
              clear hf; intro a ha hf; clear ha
              refine st_nil hf ?_
              obtain rfl := Option.some.inj h
              exact rnd_l ⟨_, hf.sub ⟨rfl, rfl, rfl, rfl, rfl, rfl, trivial⟩, hp⟩
            replace h := ifF h hb
            refine wp_exit ?_
            refine th_e ?_
            obtain rfl := Option.some.inj h
            have hp : Hp _ _ _ (Res.obj 79 v3 [.int .i64 q71.2.2.1, .int .i64 q71.2.2.2.1, .int .i64 q71.2.2.2.2.1, .int .i64 q71.2.2.2.2.2.1, v75] :: Res.sl (Ek.pair Ek.str (Ek.pair Ek.bool (Ek.pair (Ek.int .i64) Ek.bool))) 81 v75 q71.2.2.2.2.2.2 :: Res.obj 53 v7 [.int .i64 q78.2.2.1, .int .i64 q78.2.2.2.1, .int .i64 q78.2.2.2.2.1, v82] :: Res.sl (Ek.pair Ek.str (Ek.pair (Ek.int .i64) Ek.bool)) 83 v82 q78.2.2.2.2.2 :: ow) := Hp.sel (pre := [Res.sl (Ek.pair (Ek.int .u8) (Ek.pair (Ek.int .u8) (Ek.pair Ek.bool Ek.str))) 31 v100 ax13, Res.obj 79 v3 [.int .i64 q71.2.2.1, .int .i64 q71.2.2.2.1, .int .i64 q71.2.2.2.2.1, .int .i64 q71.2.2.2.2.2.1, v75], Res.sl (Ek.pair Ek.str (Ek.pair Ek.bool (Ek.pair (Ek.int .i64) Ek.bool))) 81 v75 q71.2.2.2.2.2.2, Res.obj 53 v7 [.int .i64 q78.2.2.1, .int .i64 q78.2.2.2.1, .int .i64 q78.2.2.2.2.1, v82], Res.sl (Ek.pair Ek.str (Ek.pair (Ek.int .i64) Ek.bool)) 83 v82 q78.2.2.2.2.2]) (tail := ow) (rs' := [Res.obj 79 v3 [.int .i64 q71.2.2.1, .int .i64 q71.2.2.2.1, .int .i64 q71.2.2.2.2.1, .int .i64 q71.2.2.2.2.2.1, v75], Res.sl (Ek.pair Ek.str (Ek.pair Ek.bool (Ek.pair (Ek.int .i64) Ek.bool))) 81 v75 q71.2.2.2.2.2.2, Res.obj 53 v7 [.int .i64 q78.2.2.1, .int .i64 q78.2.2.2.1, .int .i64 q78.2.2.2.2.1, v82], Res.sl (Ek.pair Ek.str (Ek.pair (Ek.int .i64) Ek.bool)) 83 v82 q78.2.2.2.2.2]) hp [1, 2, 3, 4] (by decide) (by simp) rfl
            exact rnd_r (by simp) ⟨rfl, hf.sub ⟨rfl, rfl, rfl, rfl, trivial⟩, hp⟩
          clear hl hf hp
          intro e a w hne hO
          obtain ⟨rfl, hf, hp⟩ := hO
          refine ib_same ?_
          refine ib_n ?_
          have hp : Hp _ _ _ (Res.sl (Ek.pair Ek.str (Ek.pair Ek.bool (Ek.pair (Ek.int .i64) Ek.bool))) 81 v75 q71.2.2.2.2.2.2 :: Res.obj 79 v3 [.int .i64 q71.2.2.1, .int .i64 q71.2.2.2.1, .int .i64 q71.2.2.2.2.1, .int .i64 q71.2.2.2.2.2.1, v75] :: Res.sl (Ek.pair Ek.str (Ek.pair (Ek.int .i64) Ek.bool)) 83 v82 q78.2.2.2.2.2 :: Res.obj 53 v7 [.int .i64 q78.2.2.1, .int .i64 q78.2.2.2.1, .int .i64 q78.2.2.2.2.1, v82] :: ow) := Hp.sel (pre := [Res.obj 79 v3 [.int .i64 q71.2.2.1, .int .i64 q71.2.2.2.1, .int .i64 q71.2.2.2.2.1, .int .i64 q71.2.2.2.2.2.1, v75], Res.sl (Ek.pair Ek.str (Ek.pair Ek.bool (Ek.pair (Ek.int .i64) Ek.bool))) 81 v75 q71.2.2.2.2.2.2, Res.obj 53 v7 [.int .i64 q78.2.2.1, .int .i64 q78.2.2.2.1, .int .i64 q78.2.2.2.2.1, v82], Res.sl (Ek.pair Ek.str (Ek.pair (Ek.int .i64) Ek.bool)) 83 v82 q78.2.2.2.2.2]) (tail := ow) (rs' := [Res.sl (Ek.pair Ek.str (Ek.pair Ek.bool (Ek.pair (Ek.int .i64) Ek.bool))) 81 v75 q71.2.2.2.2.2.2, Res.obj 79 v3 [.int .i64 q71.2.2.1, .int .i64 q71.2.2.2.1, .int .i64 q71.2.2.2.2.1, .int .i64 q71.2.2.2.2.2.1, v75], Res.sl (Ek.pair Ek.str (Ek.pair (Ek.int .i64) Ek.bool)) 83 v82 q78.2.2.2.2.2, Res.obj 53 v7 [.int .i64 q78.2.2.1, .int .i64 q78.2.2.2.1, .int .i64 q78.2.2.2.2.1, v82]]) hp [1, 0, 3, 2] (by decide) (by simp) rfl
          refine th_n ?_
          exact ⟨_, _, _, _, _, _, _, _, _, _, _, h, hf.sub ⟨rfl, rfl, rfl, rfl, trivial⟩, hp⟩
        replace h := ifF h hb
        refine wp_seq ?_
        refine wp_reg ?_
        refine st_ieql hf (by decide) rfl rfl rfl ?_
        clear hf; intro a ha hf; clear ha
        refine st_assign hf rfl rfl (by decide) ?_
        clear hf; intro a ha hf; clear ha
        refine st_nil hf ?_
        refine th_n ?_
        refine wp_if hf rfl (fun hb => ?_) (fun hb => ?_)
        · replace h := ifT h hb
          refine wp_seq ?_
          refine wp_reg ?_
          refine st_move hf rfl rfl (by decide) ?_
          clear hf; intro a ha hf; clear ha
          refine st_move hf rfl rfl (by decide) ?_
          clear hf; intro a ha hf; clear ha
          obtain ⟨hc105, h⟩ := chk h
          refine st_index (E := (Ek.pair (Ek.int .u8) (Ek.pair (Ek.int .i64) (Ek.pair Ek.bool (Ek.pair (Ek.int .u8) (Ek.pair (Ek.int .u8) (Ek.pair Ek.bool Ek.str))))))) hf (by decide) Try.underlying22 elt33 rfl rfl rfl (hl2.sl hp) hc105.1 hc105.2 ?_
          clear hf; intro a ha hf; clear ha
          refine st_faP (off := 3) (sz := 4) hf (by decide) (by kernel_rfl) (by decide) rfl rfl (Sl.isP (hl2.sl hp) hc105.1 hc105.2) ?_
          clear hf; intro a ha hf; clear ha
          refine st_ldQX (F := (Ek.pair (Ek.int .u8) (Ek.pair (Ek.int .u8) (Ek.pair Ek.bool Ek.str)))) (yv := (gt l2 i11).2.2.2) (m := 4) (us := [.int .u8 (((gt l2 i11).2.2.2).1), .int .u8 (((gt l2 i11).2.2.2).2.1), .bool (((gt l2 i11).2.2.2).2.2.1), .string (((gt l2 i11).2.2.2).2.2.2)]) hf (by decide) (by kernel_rfl) rfl (fun cs9 h9 => by obtain ⟨_, _, rfl, rfl, ⟨_, _, rfl, rfl, ⟨_, _, rfl, rfl, rfl⟩⟩⟩ := h9; rfl) rfl rfl (Sl.part (E := (Ek.pair (Ek.int .u8) (Ek.pair (Ek.int .i64) (Ek.pair Ek.bool (Ek.pair (Ek.int .u8) (Ek.pair (Ek.int .u8) (Ek.pair Ek.bool Ek.str))))))) (F := (Ek.pair (Ek.int .u8) (Ek.pair (Ek.int .u8) (Ek.pair Ek.bool Ek.str)))) (o := 3) (Sub.comp (Sub.snd (E := (Ek.int .u8)) (F := (Ek.pair (Ek.int .i64) (Ek.pair Ek.bool (Ek.pair (Ek.int .u8) (Ek.pair (Ek.int .u8) (Ek.pair Ek.bool Ek.str))))))) (Sub.comp (Sub.snd (E := (Ek.int .i64)) (F := (Ek.pair Ek.bool (Ek.pair (Ek.int .u8) (Ek.pair (Ek.int .u8) (Ek.pair Ek.bool Ek.str)))))) (Sub.snd (E := Ek.bool) (F := (Ek.pair (Ek.int .u8) (Ek.pair (Ek.int .u8) (Ek.pair Ek.bool Ek.str))))))) (hl2.sl hp) hc105.1 hc105.2) ?_
          clear hf; intro a ha hf; clear ha
          refine st_alloc (cs := [.int .u8 (0 : Int), .int .u8 (0 : Int), .bool false, .string ByteArray.empty]) (zv := .agg #[.int .u8 (0 : Int), .int .u8 (0 : Int), .bool false, .string ByteArray.empty]) hf (by decide) (by kernel_rfl) rfl hp rfl ?_
          clear hf; intro a w v106 hf hp0; clear hp; have hp := hp0; clear hp0
          replace hp : Hp _ _ _ (Res.obj 31 v106 [.int .u8 (0 : Int), .int .u8 (0 : Int), .bool false, .string ByteArray.empty] :: Res.sl (Ek.pair Ek.str (Ek.pair Ek.bool (Ek.pair (Ek.int .i64) Ek.bool))) 81 v19 xx7c_4 :: Res.obj 79 v3 [.int .i64 xx7c_0, .int .i64 xx7c_1, .int .i64 xx7c_2, .int .i64 xx7c_3, v19] :: Res.sl (Ek.pair Ek.str (Ek.pair (Ek.int .i64) Ek.bool)) 83 v22 yx9c_3 :: Res.obj 53 v7 [.int .i64 yx9c_0, .int .i64 yx9c_1, .int .i64 yx9c_2, v22] :: ow) := hp
          refine st_stO (us := [.int .u8 (((gt l2 i11).2.2.2).1), .int .u8 (((gt l2 i11).2.2.2).2.1), .bool (((gt l2 i11).2.2.2).2.2.1), .string (((gt l2 i11).2.2.2).2.2.2)]) hf hp (i := 0) rfl rfl rfl rfl rfl (by rfl) (by kernel_rfl) (Nat.le_of_ble_eq_true rfl) ?_
          clear hf; intro a w hf hp0; clear hp; have hp := hp0; clear hp0
          replace hp : Hp _ _ _ (Res.obj 31 v106 [.int .u8 (((gt l2 i11).2.2.2).1), .int .u8 (((gt l2 i11).2.2.2).2.1), .bool (((gt l2 i11).2.2.2).2.2.1), .string (((gt l2 i11).2.2.2).2.2.2)] :: Res.sl (Ek.pair Ek.str (Ek.pair Ek.bool (Ek.pair (Ek.int .i64) Ek.bool))) 81 v19 xx7c_4 :: Res.obj 79 v3 [.int .i64 xx7c_0, .int .i64 xx7c_1, .int .i64 xx7c_2, .int .i64 xx7c_3, v19] :: Res.sl (Ek.pair Ek.str (Ek.pair (Ek.int .i64) Ek.bool)) 83 v22 yx9c_3 :: Res.obj 53 v7 [.int .i64 yx9c_0, .int .i64 yx9c_1, .int .i64 yx9c_2, v22] :: ow) := hp
          refine st_nil hf ?_
          refine th_n ?_
          refine wp_seq_cut (fun a w => ∃ (f18c_0 : Int) (f18c_1 : Int) (f18c_2 : Bool) (f18c_3 : ByteArray), f_foghornlaw28_AgainSends.j3 xx7c_0 xx7c_1 xx7c_2 xx7c_3 xx7c_4 yx9c_0 yx9c_1 yx9c_2 yx9c_3 i11 f18c_0 f18c_1 f18c_2 f18c_3 = some x ∧ Fr 161 a [(2, vl2), (7, v3), (9, v7), (11, .int .i64 i11), (18, optr v106 0)] ∧ Hp S w0 w (Res.obj 31 v106 [.int .u8 f18c_0, .int .u8 f18c_1, .bool f18c_2, .string f18c_3] :: Res.obj 79 v3 [.int .i64 xx7c_0, .int .i64 xx7c_1, .int .i64 xx7c_2, .int .i64 xx7c_3, v19] :: Res.sl (Ek.pair Ek.str (Ek.pair Ek.bool (Ek.pair (Ek.int .i64) Ek.bool))) 81 v19 xx7c_4 :: Res.obj 53 v7 [.int .i64 yx9c_0, .int .i64 yx9c_1, .int .i64 yx9c_2, v22] :: Res.sl (Ek.pair Ek.str (Ek.pair (Ek.int .i64) Ek.bool)) 83 v22 yx9c_3 :: ow)) ?_ ?_
          · skip
            refine wp_seq ?_
            refine wp_reg ?_
            refine st_move hf rfl rfl (by decide) ?_
            clear hf; intro a ha hf; clear ha
            refine st_move hf rfl rfl (by decide) ?_
            clear hf; intro a ha hf; clear ha
            obtain ⟨hc126, h⟩ := chk h
            refine st_index (E := (Ek.pair (Ek.int .u8) (Ek.pair (Ek.int .i64) (Ek.pair Ek.bool (Ek.pair (Ek.int .u8) (Ek.pair (Ek.int .u8) (Ek.pair Ek.bool Ek.str))))))) hf (by decide) Try.underlying22 elt33 rfl rfl rfl (hl2.sl hp) hc126.1 hc126.2 ?_
            clear hf; intro a ha hf; clear ha
            refine st_faP (off := 2) (sz := 1) hf (by decide) (by kernel_rfl) (by decide) rfl rfl (Sl.isP (hl2.sl hp) hc126.1 hc126.2) ?_
            clear hf; intro a ha hf; clear ha
            refine st_ldQ (F := Ek.bool) (yv := (gt l2 i11).2.2.1) hf (by decide) pl4 (fun x => .bool x) (fun _ _ h => h) rfl rfl (Sl.part (E := (Ek.pair (Ek.int .u8) (Ek.pair (Ek.int .i64) (Ek.pair Ek.bool (Ek.pair (Ek.int .u8) (Ek.pair (Ek.int .u8) (Ek.pair Ek.bool Ek.str))))))) (F := Ek.bool) (o := 2) (Sub.comp (Sub.snd (E := (Ek.int .u8)) (F := (Ek.pair (Ek.int .i64) (Ek.pair Ek.bool (Ek.pair (Ek.int .u8) (Ek.pair (Ek.int .u8) (Ek.pair Ek.bool Ek.str))))))) (Sub.comp (Sub.snd (E := (Ek.int .i64)) (F := (Ek.pair Ek.bool (Ek.pair (Ek.int .u8) (Ek.pair (Ek.int .u8) (Ek.pair Ek.bool Ek.str)))))) (Sub.fst (E := Ek.bool) (F := (Ek.pair (Ek.int .u8) (Ek.pair (Ek.int .u8) (Ek.pair Ek.bool Ek.str))))))) (hl2.sl hp) hc126.1 hc126.2) ?_
            clear hf; intro a ha hf; clear ha
            refine st_nil hf ?_
            refine th_n ?_
            refine wp_if hf rfl (fun hb => ?_) (fun hb => ?_)
            · replace h := ifT h hb
              obtain ⟨q127, hcall128, h⟩ := bnd h
              refine wp_cutN (fun a w => Fr 161 a [(2, vl2), (7, v3), (9, v7), (11, .int .i64 i11), (18, optr v106 0)] ∧ Hp S w0 w (Res.sl (Ek.pair Ek.str (Ek.pair (Ek.int .i64) Ek.bool)) 83 v22 yx9c_3 :: Res.obj 53 v7 [.int .i64 yx9c_0, .int .i64 yx9c_1, .int .i64 yx9c_2, v22] :: Res.obj 31 v106 [.int .u8 (((gt l2 i11).2.2.2).1), .int .u8 (IntKind.u8.wrap (((((gt l2 i11).2.2.2).2.1).tmod (16 : Int)) + (IntKind.u8.wrap ((q127).tmod (256 : Int))))), .bool (((gt l2 i11).2.2.2).2.2.1), .string (((gt l2 i11).2.2.2).2.2.2)] :: Res.sl (Ek.pair Ek.str (Ek.pair Ek.bool (Ek.pair (Ek.int .i64) Ek.bool))) 81 v19 xx7c_4 :: Res.obj 79 v3 [.int .i64 xx7c_0, .int .i64 xx7c_1, .int .i64 xx7c_2, .int .i64 xx7c_3, v19] :: ow)) ?_ ?_
              · have hp := hp.same (Same.drew w)
                refine dr_begin' (fun a w => Fr 161 a [(2, vl2), (7, v3), (9, v7), (11, .int .i64 i11), (18, optr v106 0)] ∧ Hp S w0 w (Res.sl (Ek.pair Ek.str (Ek.pair (Ek.int .i64) Ek.bool)) 83 v22 yx9c_3 :: Res.obj 53 v7 [.int .i64 yx9c_0, .int .i64 yx9c_1, .int .i64 yx9c_2, v22] :: Res.obj 31 v106 [.int .u8 (((gt l2 i11).2.2.2).1), .int .u8 (IntKind.u8.wrap (((((gt l2 i11).2.2.2).2.1).tmod (16 : Int)) + (IntKind.u8.wrap ((q127).tmod (256 : Int))))), .bool (((gt l2 i11).2.2.2).2.2.1), .string (((gt l2 i11).2.2.2).2.2.2)] :: Res.sl (Ek.pair Ek.str (Ek.pair Ek.bool (Ek.pair (Ek.int .i64) Ek.bool))) 81 v19 xx7c_4 :: Res.obj 79 v3 [.int .i64 xx7c_0, .int .i64 xx7c_1, .int .i64 xx7c_2, .int .i64 xx7c_3, v19] :: ow)) (fun w' => ∃ l, Hp S w0 w' l) [] (by kernel_rfl) ?_
                refine dr_take 3 (v7) rfl (by kernel_rfl) (by kernel_rfl) (by kernel_rfl) (by kernel_rfl) rfl rfl hf (by decide) rfl (fun w hp => ?_) ⟨_, hp⟩ ?_
                · obtain ⟨_, hp⟩ := hp
                  refine st_move hf rfl rfl (by decide) ?_
                  clear hf; intro a ha hf
                  exact st_nil hf (th_n ⟨ha, rfl⟩)
                clear hf; intro a hf
                refine dr_two 0 4 rfl rfl (by kernel_rfl) ?_ ?_
                · skip
                  refine st_fa (o' := 1) hf (by decide) (off := 1) (sz := 1) (by kernel_rfl) (by decide) rfl rfl (hp.ob (i := 0) rfl) rfl ?_
                  clear hf; intro a ha hf; clear ha
                  refine st_nil hf (th_n ⟨fun _ _ => ⟨_, hp⟩, ?_⟩)
                  refine dr_two 1 4 rfl rfl (by kernel_rfl) ?_ ?_
                  · skip
                    refine st_ldO (u := .int .u8 (((gt l2 i11).2.2.2).2.1)) hf (by decide) pl5 rfl rfl (hp.ob (i := 0) rfl) rfl ?_
                    clear hf; intro a ha hf; clear ha
                    refine st_nil hf (th_n ⟨fun _ _ => ⟨_, hp⟩, ?_⟩)
                    refine dr_take 2 (.int .u8 ((((gt l2 i11).2.2.2).2.1).tmod (16 : Int))) rfl (by kernel_rfl) (by kernel_rfl) (by kernel_rfl) (by kernel_rfl) rfl rfl hf (by decide) rfl (fun w hp => ?_) ⟨_, hp⟩ ?_
                    · obtain ⟨_, hp⟩ := hp
                      refine st_irem hf (by decide) rfl rfl rfl (by decide) ?_
                      clear hf; intro a ha hf
                      exact st_nil hf (th_n ⟨ha, rfl⟩)
                    clear hf; intro a hf
                    refine dr_one 4 rfl (by kernel_rfl) ?_
                    obtain ⟨S129, hp130, rd131, up132, bk133⟩ := Hp.lendS hp (i := 3) rfl
                    obtain ⟨S134, hp135, rd136, up137, bk138⟩ := Hp.lendO hp130 (i := 3) rfl
                    refine st_call hf (by decide) Try.func22 rfl rfl rfl rfl rfl (f_foghornref28_Sender_Front_c hp135 _ _ _ _ _ ((rd131.now hp130).mono up137) _ rd136 hcall128) ?_
                    rintro _ w ⟨rfl, hp0⟩
                    have hp0 := bk138 _ _ hp0
                    have hp0 := bk133 _ _ hp0
                    clear hp; have hp := hp0; clear hp0
                    replace hp : Hp _ _ _ (Res.sl (Ek.pair Ek.str (Ek.pair (Ek.int .i64) Ek.bool)) 83 v22 yx9c_3 :: Res.obj 53 v7 [.int .i64 yx9c_0, .int .i64 yx9c_1, .int .i64 yx9c_2, v22] :: Res.obj 31 v106 [.int .u8 (((gt l2 i11).2.2.2).1), .int .u8 (((gt l2 i11).2.2.2).2.1), .bool (((gt l2 i11).2.2.2).2.2.1), .string (((gt l2 i11).2.2.2).2.2.2)] :: Res.sl (Ek.pair Ek.str (Ek.pair Ek.bool (Ek.pair (Ek.int .i64) Ek.bool))) 81 v19 xx7c_4 :: Res.obj 79 v3 [.int .i64 xx7c_0, .int .i64 xx7c_1, .int .i64 xx7c_2, .int .i64 xx7c_3, v19] :: ow) := hp
                    refine ⟨_, rfl, ?_⟩
                    clear hf; intro a hf
                    refine st_nil hf (th_n ⟨fun _ _ => ⟨_, hp⟩, ?_⟩)
                    refine dr_take 5 (.int .i64 ((q127).tmod (256 : Int))) rfl (by kernel_rfl) (by kernel_rfl) (by kernel_rfl) (by kernel_rfl) rfl rfl hf (by decide) rfl (fun w hp => ?_) ⟨_, hp⟩ ?_
                    · obtain ⟨_, hp⟩ := hp
                      refine st_irem hf (by decide) rfl rfl rfl (by decide) ?_
                      clear hf; intro a ha hf
                      exact st_nil hf (th_n ⟨ha, rfl⟩)
                    clear hf; intro a hf
                    refine dr_take 6 (.int .u8 (IntKind.u8.wrap ((q127).tmod (256 : Int)))) rfl (by kernel_rfl) (by kernel_rfl) (by kernel_rfl) (by kernel_rfl) rfl rfl hf (by decide) rfl (fun w hp => ?_) ⟨_, hp⟩ ?_
                    · obtain ⟨_, hp⟩ := hp
                      refine st_conv_ii hf (by decide) (by rw [Try.underlying3]; rfl) Try.underlying5 rfl rfl ?_
                      clear hf; intro a ha hf
                      exact st_nil hf (th_n ⟨ha, rfl⟩)
                    clear hf; intro a hf
                    refine dr_take 7 (.int .u8 (IntKind.u8.wrap (((((gt l2 i11).2.2.2).2.1).tmod (16 : Int)) + (IntKind.u8.wrap ((q127).tmod (256 : Int)))))) rfl (by kernel_rfl) (by kernel_rfl) (by kernel_rfl) (by kernel_rfl) rfl rfl hf (by decide) rfl (fun w hp => ?_) ⟨_, hp⟩ ?_
                    · obtain ⟨_, hp⟩ := hp
                      refine st_iadd hf (by decide) rfl rfl rfl ?_
                      clear hf; intro a ha hf
                      exact st_nil hf (th_n ⟨ha, rfl⟩)
                    clear hf; intro a hf
                    refine dr_one 8 rfl (by kernel_rfl) ?_
                    refine st_fa (o' := 1) hf (by decide) (off := 1) (sz := 1) (by kernel_rfl) (by decide) rfl rfl (hp.ob (i := 2) rfl) rfl ?_
                    clear hf; intro a ha hf; clear ha
                    refine st_nil hf (th_n ⟨fun _ _ => ⟨_, hp⟩, ?_⟩)
                    refine dr_one 9 rfl (by kernel_rfl) ?_
                    refine st_stO (us := [.int .u8 (IntKind.u8.wrap (((((gt l2 i11).2.2.2).2.1).tmod (16 : Int)) + (IntKind.u8.wrap ((q127).tmod (256 : Int)))))]) hf hp (i := 2) rfl rfl rfl rfl rfl (by rfl) (by kernel_rfl) (Nat.le_of_ble_eq_true rfl) ?_
                    clear hf; intro a w hf hp0; clear hp; have hp := hp0; clear hp0
                    replace hp : Hp _ _ _ (Res.sl (Ek.pair Ek.str (Ek.pair (Ek.int .i64) Ek.bool)) 83 v22 yx9c_3 :: Res.obj 53 v7 [.int .i64 yx9c_0, .int .i64 yx9c_1, .int .i64 yx9c_2, v22] :: Res.obj 31 v106 [.int .u8 (((gt l2 i11).2.2.2).1), .int .u8 (IntKind.u8.wrap (((((gt l2 i11).2.2.2).2.1).tmod (16 : Int)) + (IntKind.u8.wrap ((q127).tmod (256 : Int))))), .bool (((gt l2 i11).2.2.2).2.2.1), .string (((gt l2 i11).2.2.2).2.2.2)] :: Res.sl (Ek.pair Ek.str (Ek.pair Ek.bool (Ek.pair (Ek.int .i64) Ek.bool))) 81 v19 xx7c_4 :: Res.obj 79 v3 [.int .i64 xx7c_0, .int .i64 xx7c_1, .int .i64 xx7c_2, .int .i64 xx7c_3, v19] :: ow) := hp
                    refine st_nil hf (th_n ⟨fun _ _ => ⟨_, hp⟩, ?_⟩)
                    refine dr_end (by kernel_rfl) ?_ _
                    exact ⟨hf.sub ⟨rfl, rfl, rfl, rfl, rfl, trivial⟩, hp⟩
                  · skip
                    obtain ⟨S129, hp130, rd131, up132, bk133⟩ := Hp.lendS hp (i := 3) rfl
                    obtain ⟨S134, hp135, rd136, up137, bk138⟩ := Hp.lendO hp130 (i := 3) rfl
                    refine st_call hf (by decide) Try.func22 rfl rfl rfl rfl rfl (f_foghornref28_Sender_Front_c hp135 _ _ _ _ _ ((rd131.now hp130).mono up137) _ rd136 hcall128) ?_
                    rintro _ w ⟨rfl, hp0⟩
                    have hp0 := bk138 _ _ hp0
                    have hp0 := bk133 _ _ hp0
                    clear hp; have hp := hp0; clear hp0
                    replace hp : Hp _ _ _ (Res.sl (Ek.pair Ek.str (Ek.pair (Ek.int .i64) Ek.bool)) 83 v22 yx9c_3 :: Res.obj 53 v7 [.int .i64 yx9c_0, .int .i64 yx9c_1, .int .i64 yx9c_2, v22] :: Res.obj 31 v106 [.int .u8 (((gt l2 i11).2.2.2).1), .int .u8 (((gt l2 i11).2.2.2).2.1), .bool (((gt l2 i11).2.2.2).2.2.1), .string (((gt l2 i11).2.2.2).2.2.2)] :: Res.sl (Ek.pair Ek.str (Ek.pair Ek.bool (Ek.pair (Ek.int .i64) Ek.bool))) 81 v19 xx7c_4 :: Res.obj 79 v3 [.int .i64 xx7c_0, .int .i64 xx7c_1, .int .i64 xx7c_2, .int .i64 xx7c_3, v19] :: ow) := hp
                    refine ⟨_, rfl, ?_⟩
                    clear hf; intro a hf
                    refine st_nil hf (th_n ⟨fun _ _ => ⟨_, hp⟩, ?_⟩)
                    refine dr_take 5 (.int .i64 ((q127).tmod (256 : Int))) rfl (by kernel_rfl) (by kernel_rfl) (by kernel_rfl) (by kernel_rfl) rfl rfl hf (by decide) rfl (fun w hp => ?_) ⟨_, hp⟩ ?_
                    · obtain ⟨_, hp⟩ := hp
                      refine st_irem hf (by decide) rfl rfl rfl (by decide) ?_
                      clear hf; intro a ha hf
                      exact st_nil hf (th_n ⟨ha, rfl⟩)
                    clear hf; intro a hf
                    refine dr_take 6 (.int .u8 (IntKind.u8.wrap ((q127).tmod (256 : Int)))) rfl (by kernel_rfl) (by kernel_rfl) (by kernel_rfl) (by kernel_rfl) rfl rfl hf (by decide) rfl (fun w hp => ?_) ⟨_, hp⟩ ?_
                    · obtain ⟨_, hp⟩ := hp
                      refine st_conv_ii hf (by decide) (by rw [Try.underlying3]; rfl) Try.underlying5 rfl rfl ?_
                      clear hf; intro a ha hf
                      exact st_nil hf (th_n ⟨ha, rfl⟩)
                    clear hf; intro a hf
                    refine dr_one 1 rfl (by kernel_rfl) ?_
                    refine st_ldO (u := .int .u8 (((gt l2 i11).2.2.2).2.1)) hf (by decide) pl5 rfl rfl (hp.ob (i := 2) rfl) rfl ?_
                    clear hf; intro a ha hf; clear ha
                    refine st_nil hf (th_n ⟨fun _ _ => ⟨_, hp⟩, ?_⟩)
                    refine dr_take 2 (.int .u8 ((((gt l2 i11).2.2.2).2.1).tmod (16 : Int))) rfl (by kernel_rfl) (by kernel_rfl) (by kernel_rfl) (by kernel_rfl) rfl rfl hf (by decide) rfl (fun w hp => ?_) ⟨_, hp⟩ ?_
                    · obtain ⟨_, hp⟩ := hp
                      refine st_irem hf (by decide) rfl rfl rfl (by decide) ?_
                      clear hf; intro a ha hf
                      exact st_nil hf (th_n ⟨ha, rfl⟩)
                    clear hf; intro a hf
                    refine dr_take 7 (.int .u8 (IntKind.u8.wrap (((((gt l2 i11).2.2.2).2.1).tmod (16 : Int)) + (IntKind.u8.wrap ((q127).tmod (256 : Int)))))) rfl (by kernel_rfl) (by kernel_rfl) (by kernel_rfl) (by kernel_rfl) rfl rfl hf (by decide) rfl (fun w hp => ?_) ⟨_, hp⟩ ?_
                    · obtain ⟨_, hp⟩ := hp
                      refine st_iadd hf (by decide) rfl rfl rfl ?_
                      clear hf; intro a ha hf
                      exact st_nil hf (th_n ⟨ha, rfl⟩)
                    clear hf; intro a hf
                    refine dr_one 8 rfl (by kernel_rfl) ?_
                    refine st_fa (o' := 1) hf (by decide) (off := 1) (sz := 1) (by kernel_rfl) (by decide) rfl rfl (hp.ob (i := 2) rfl) rfl ?_
                    clear hf; intro a ha hf; clear ha
                    refine st_nil hf (th_n ⟨fun _ _ => ⟨_, hp⟩, ?_⟩)
                    refine dr_one 9 rfl (by kernel_rfl) ?_
                    refine st_stO (us := [.int .u8 (IntKind.u8.wrap (((((gt l2 i11).2.2.2).2.1).tmod (16 : Int)) + (IntKind.u8.wrap ((q127).tmod (256 : Int)))))]) hf hp (i := 2) rfl rfl rfl rfl rfl (by rfl) (by kernel_rfl) (Nat.le_of_ble_eq_true rfl) ?_
                    clear hf; intro a w hf hp0; clear hp; have hp := hp0; clear hp0
                    replace hp : Hp _ _ _ (Res.sl (Ek.pair Ek.str (Ek.pair (Ek.int .i64) Ek.bool)) 83 v22 yx9c_3 :: Res.obj 53 v7 [.int .i64 yx9c_0, .int .i64 yx9c_1, .int .i64 yx9c_2, v22] :: Res.obj 31 v106 [.int .u8 (((gt l2 i11).2.2.2).1), .int .u8 (IntKind.u8.wrap (((((gt l2 i11).2.2.2).2.1).tmod (16 : Int)) + (IntKind.u8.wrap ((q127).tmod (256 : Int))))), .bool (((gt l2 i11).2.2.2).2.2.1), .string (((gt l2 i11).2.2.2).2.2.2)] :: Res.sl (Ek.pair Ek.str (Ek.pair Ek.bool (Ek.pair (Ek.int .i64) Ek.bool))) 81 v19 xx7c_4 :: Res.obj 79 v3 [.int .i64 xx7c_0, .int .i64 xx7c_1, .int .i64 xx7c_2, .int .i64 xx7c_3, v19] :: ow) := hp
                    refine st_nil hf (th_n ⟨fun _ _ => ⟨_, hp⟩, ?_⟩)
                    refine dr_end (by kernel_rfl) ?_ _
                    exact ⟨hf.sub ⟨rfl, rfl, rfl, rfl, rfl, trivial⟩, hp⟩
                · skip
                  obtain ⟨S129, hp130, rd131, up132, bk133⟩ := Hp.lendS hp (i := 3) rfl
                  obtain ⟨S134, hp135, rd136, up137, bk138⟩ := Hp.lendO hp130 (i := 3) rfl
                  refine st_call hf (by decide) Try.func22 rfl rfl rfl rfl rfl (f_foghornref28_Sender_Front_c hp135 _ _ _ _ _ ((rd131.now hp130).mono up137) _ rd136 hcall128) ?_
                  rintro _ w ⟨rfl, hp0⟩
                  have hp0 := bk138 _ _ hp0
                  have hp0 := bk133 _ _ hp0
                  clear hp; have hp := hp0; clear hp0
                  replace hp : Hp _ _ _ (Res.sl (Ek.pair Ek.str (Ek.pair (Ek.int .i64) Ek.bool)) 83 v22 yx9c_3 :: Res.obj 53 v7 [.int .i64 yx9c_0, .int .i64 yx9c_1, .int .i64 yx9c_2, v22] :: Res.obj 31 v106 [.int .u8 (((gt l2 i11).2.2.2).1), .int .u8 (((gt l2 i11).2.2.2).2.1), .bool (((gt l2 i11).2.2.2).2.2.1), .string (((gt l2 i11).2.2.2).2.2.2)] :: Res.sl (Ek.pair Ek.str (Ek.pair Ek.bool (Ek.pair (Ek.int .i64) Ek.bool))) 81 v19 xx7c_4 :: Res.obj 79 v3 [.int .i64 xx7c_0, .int .i64 xx7c_1, .int .i64 xx7c_2, .int .i64 xx7c_3, v19] :: ow) := hp
                  refine ⟨_, rfl, ?_⟩
                  clear hf; intro a hf
                  refine st_nil hf (th_n ⟨fun _ _ => ⟨_, hp⟩, ?_⟩)
                  refine dr_take 5 (.int .i64 ((q127).tmod (256 : Int))) rfl (by kernel_rfl) (by kernel_rfl) (by kernel_rfl) (by kernel_rfl) rfl rfl hf (by decide) rfl (fun w hp => ?_) ⟨_, hp⟩ ?_
                  · obtain ⟨_, hp⟩ := hp
                    refine st_irem hf (by decide) rfl rfl rfl (by decide) ?_
                    clear hf; intro a ha hf
                    exact st_nil hf (th_n ⟨ha, rfl⟩)
                  clear hf; intro a hf
                  refine dr_take 6 (.int .u8 (IntKind.u8.wrap ((q127).tmod (256 : Int)))) rfl (by kernel_rfl) (by kernel_rfl) (by kernel_rfl) (by kernel_rfl) rfl rfl hf (by decide) rfl (fun w hp => ?_) ⟨_, hp⟩ ?_
                  · obtain ⟨_, hp⟩ := hp
                    refine st_conv_ii hf (by decide) (by rw [Try.underlying3]; rfl) Try.underlying5 rfl rfl ?_
                    clear hf; intro a ha hf
                    exact st_nil hf (th_n ⟨ha, rfl⟩)
                  clear hf; intro a hf
                  refine dr_one 0 rfl (by kernel_rfl) ?_
                  refine st_fa (o' := 1) hf (by decide) (off := 1) (sz := 1) (by kernel_rfl) (by decide) rfl rfl (hp.ob (i := 2) rfl) rfl ?_
                  clear hf; intro a ha hf; clear ha
                  refine st_nil hf (th_n ⟨fun _ _ => ⟨_, hp⟩, ?_⟩)
                  refine dr_one 1 rfl (by kernel_rfl) ?_
                  refine st_ldO (u := .int .u8 (((gt l2 i11).2.2.2).2.1)) hf (by decide) pl5 rfl rfl (hp.ob (i := 2) rfl) rfl ?_
                  clear hf; intro a ha hf; clear ha
                  refine st_nil hf (th_n ⟨fun _ _ => ⟨_, hp⟩, ?_⟩)
                  refine dr_take 2 (.int .u8 ((((gt l2 i11).2.2.2).2.1).tmod (16 : Int))) rfl (by kernel_rfl) (by kernel_rfl) (by kernel_rfl) (by kernel_rfl) rfl rfl hf (by decide) rfl (fun w hp => ?_) ⟨_, hp⟩ ?_
                  · obtain ⟨_, hp⟩ := hp
                    refine st_irem hf (by decide) rfl rfl rfl (by decide) ?_
                    clear hf; intro a ha hf
                    exact st_nil hf (th_n ⟨ha, rfl⟩)
                  clear hf; intro a hf
                  refine dr_take 7 (.int .u8 (IntKind.u8.wrap (((((gt l2 i11).2.2.2).2.1).tmod (16 : Int)) + (IntKind.u8.wrap ((q127).tmod (256 : Int)))))) rfl (by kernel_rfl) (by kernel_rfl) (by kernel_rfl) (by kernel_rfl) rfl rfl hf (by decide) rfl (fun w hp => ?_) ⟨_, hp⟩ ?_
                  · obtain ⟨_, hp⟩ := hp
                    refine st_iadd hf (by decide) rfl rfl rfl ?_
                    clear hf; intro a ha hf
                    exact st_nil hf (th_n ⟨ha, rfl⟩)
                  clear hf; intro a hf
                  refine dr_one 8 rfl (by kernel_rfl) ?_
                  refine st_fa (o' := 1) hf (by decide) (off := 1) (sz := 1) (by kernel_rfl) (by decide) rfl rfl (hp.ob (i := 2) rfl) rfl ?_
                  clear hf; intro a ha hf; clear ha
                  refine st_nil hf (th_n ⟨fun _ _ => ⟨_, hp⟩, ?_⟩)
                  refine dr_one 9 rfl (by kernel_rfl) ?_
                  refine st_stO (us := [.int .u8 (IntKind.u8.wrap (((((gt l2 i11).2.2.2).2.1).tmod (16 : Int)) + (IntKind.u8.wrap ((q127).tmod (256 : Int)))))]) hf hp (i := 2) rfl rfl rfl rfl rfl (by rfl) (by kernel_rfl) (Nat.le_of_ble_eq_true rfl) ?_
                  clear hf; intro a w hf hp0; clear hp; have hp := hp0; clear hp0
                  replace hp : Hp _ _ _ (Res.sl (Ek.pair Ek.str (Ek.pair (Ek.int .i64) Ek.bool)) 83 v22 yx9c_3 :: Res.obj 53 v7 [.int .i64 yx9c_0, .int .i64 yx9c_1, .int .i64 yx9c_2, v22] :: Res.obj 31 v106 [.int .u8 (((gt l2 i11).2.2.2).1), .int .u8 (IntKind.u8.wrap (((((gt l2 i11).2.2.2).2.1).tmod (16 : Int)) + (IntKind.u8.wrap ((q127).tmod (256 : Int))))), .bool (((gt l2 i11).2.2.2).2.2.1), .string (((gt l2 i11).2.2.2).2.2.2)] :: Res.sl (Ek.pair Ek.str (Ek.pair Ek.bool (Ek.pair (Ek.int .i64) Ek.bool))) 81 v19 xx7c_4 :: Res.obj 79 v3 [.int .i64 xx7c_0, .int .i64 xx7c_1, .int .i64 xx7c_2, .int .i64 xx7c_3, v19] :: ow) := hp
                  refine st_nil hf (th_n ⟨fun _ _ => ⟨_, hp⟩, ?_⟩)
                  refine dr_end (by kernel_rfl) ?_ _
                  exact ⟨hf.sub ⟨rfl, rfl, rfl, rfl, rfl, trivial⟩, hp⟩
              rintro a w ⟨hf, hp⟩
              have hp : Hp _ _ _ (Res.obj 31 v106 [.int .u8 (((gt l2 i11).2.2.2).1), .int .u8 (IntKind.u8.wrap (((((gt l2 i11).2.2.2).2.1).tmod (16 : Int)) + (IntKind.u8.wrap ((q127).tmod (256 : Int))))), .bool (((gt l2 i11).2.2.2).2.2.1), .string (((gt l2 i11).2.2.2).2.2.2)] :: Res.obj 79 v3 [.int .i64 xx7c_0, .int .i64 xx7c_1, .int .i64 xx7c_2, .int .i64 xx7c_3, v19] :: Res.sl (Ek.pair Ek.str (Ek.pair Ek.bool (Ek.pair (Ek.int .i64) Ek.bool))) 81 v19 xx7c_4 :: Res.obj 53 v7 [.int .i64 yx9c_0, .int .i64 yx9c_1, .int .i64 yx9c_2, v22] :: Res.sl (Ek.pair Ek.str (Ek.pair (Ek.int .i64) Ek.bool)) 83 v22 yx9c_3 :: ow) := Hp.sel (pre := [Res.sl (Ek.pair Ek.str (Ek.pair (Ek.int .i64) Ek.bool)) 83 v22 yx9c_3, Res.obj 53 v7 [.int .i64 yx9c_0, .int .i64 yx9c_1, .int .i64 yx9c_2, v22], Res.obj 31 v106 [.int .u8 (((gt l2 i11).2.2.2).1), .int .u8 (IntKind.u8.wrap (((((gt l2 i11).2.2.2).2.1).tmod (16 : Int)) + (IntKind.u8.wrap ((q127).tmod (256 : Int))))), .bool (((gt l2 i11).2.2.2).2.2.1), .string (((gt l2 i11).2.2.2).2.2.2)], Res.sl (Ek.pair Ek.str (Ek.pair Ek.bool (Ek.pair (Ek.int .i64) Ek.bool))) 81 v19 xx7c_4, Res.obj 79 v3 [.int .i64 xx7c_0, .int .i64 xx7c_1, .int .i64 xx7c_2, .int .i64 xx7c_3, v19]]) (tail := ow) (rs' := [Res.obj 31 v106 [.int .u8 (((gt l2 i11).2.2.2).1), .int .u8 (IntKind.u8.wrap (((((gt l2 i11).2.2.2).2.1).tmod (16 : Int)) + (IntKind.u8.wrap ((q127).tmod (256 : Int))))), .bool (((gt l2 i11).2.2.2).2.2.1), .string (((gt l2 i11).2.2.2).2.2.2)], Res.obj 79 v3 [.int .i64 xx7c_0, .int .i64 xx7c_1, .int .i64 xx7c_2, .int .i64 xx7c_3, v19], Res.sl (Ek.pair Ek.str (Ek.pair Ek.bool (Ek.pair (Ek.int .i64) Ek.bool))) 81 v19 xx7c_4, Res.obj 53 v7 [.int .i64 yx9c_0, .int .i64 yx9c_1, .int .i64 yx9c_2, v22], Res.sl (Ek.pair Ek.str (Ek.pair (Ek.int .i64) Ek.bool)) 83 v22 yx9c_3]) hp [2, 4, 3, 1, 0] (by decide) (by simp) rfl
              refine th_n ?_
              exact ⟨_, _, _, _, h, hf.sub ⟨rfl, rfl, rfl, rfl, rfl, trivial⟩, hp⟩
            replace h := ifF h hb
            refine wp_skip ?_
            have hp : Hp _ _ _ (Res.obj 31 v106 [.int .u8 (((gt l2 i11).2.2.2).1), .int .u8 (((gt l2 i11).2.2.2).2.1), .bool (((gt l2 i11).2.2.2).2.2.1), .string (((gt l2 i11).2.2.2).2.2.2)] :: Res.obj 79 v3 [.int .i64 xx7c_0, .int .i64 xx7c_1, .int .i64 xx7c_2, .int .i64 xx7c_3, v19] :: Res.sl (Ek.pair Ek.str (Ek.pair Ek.bool (Ek.pair (Ek.int .i64) Ek.bool))) 81 v19 xx7c_4 :: Res.obj 53 v7 [.int .i64 yx9c_0, .int .i64 yx9c_1, .int .i64 yx9c_2, v22] :: Res.sl (Ek.pair Ek.str (Ek.pair (Ek.int .i64) Ek.bool)) 83 v22 yx9c_3 :: ow) := Hp.sel (pre := [Res.obj 31 v106 [.int .u8 (((gt l2 i11).2.2.2).1), .int .u8 (((gt l2 i11).2.2.2).2.1), .bool (((gt l2 i11).2.2.2).2.2.1), .string (((gt l2 i11).2.2.2).2.2.2)], Res.sl (Ek.pair Ek.str (Ek.pair Ek.bool (Ek.pair (Ek.int .i64) Ek.bool))) 81 v19 xx7c_4, Res.obj 79 v3 [.int .i64 xx7c_0, .int .i64 xx7c_1, .int .i64 xx7c_2, .int .i64 xx7c_3, v19], Res.sl (Ek.pair Ek.str (Ek.pair (Ek.int .i64) Ek.bool)) 83 v22 yx9c_3, Res.obj 53 v7 [.int .i64 yx9c_0, .int .i64 yx9c_1, .int .i64 yx9c_2, v22]]) (tail := ow) (rs' := [Res.obj 31 v106 [.int .u8 (((gt l2 i11).2.2.2).1), .int .u8 (((gt l2 i11).2.2.2).2.1), .bool (((gt l2 i11).2.2.2).2.2.1), .string (((gt l2 i11).2.2.2).2.2.2)], Res.obj 79 v3 [.int .i64 xx7c_0, .int .i64 xx7c_1, .int .i64 xx7c_2, .int .i64 xx7c_3, v19], Res.sl (Ek.pair Ek.str (Ek.pair Ek.bool (Ek.pair (Ek.int .i64) Ek.bool))) 81 v19 xx7c_4, Res.obj 53 v7 [.int .i64 yx9c_0, .int .i64 yx9c_1, .int .i64 yx9c_2, v22], Res.sl (Ek.pair Ek.str (Ek.pair (Ek.int .i64) Ek.bool)) 83 v22 yx9c_3]) hp [0, 2, 1, 4, 3] (by decide) (by simp) rfl
            refine th_n ?_
            exact ⟨_, _, _, _, h, hf.sub ⟨rfl, rfl, rfl, rfl, rfl, trivial⟩, hp⟩
          rintro a w ⟨f18c_0, f18c_1, f18c_2, f18c_3, h, hf, hp⟩
          unfold f_foghornlaw28_AgainSends.j3 at h
          refine wp_seq ?_
          obtain ⟨S109, hp110, rd111, up112, bk113⟩ := Hp.lendO hp (i := 0) rfl
          have rl114 := ((hl2.now hp).mono up112)
          have rl115 := rd111
          obtain ⟨q116, hcall117, h⟩ := bnd h
          obtain ⟨q121, hcall122, h⟩ := bnd h
          refine wp_cutN (fun a w => ∃ (v119 : Value) (v124 : Value), Fr 161 a [(2, vl2), (7, v3), (9, v7), (11, .int .i64 i11), (155, .bool (q116.1 != q121.1))] ∧ Hp S w0 w (Res.obj 31 v106 [.int .u8 f18c_0, .int .u8 f18c_1, .bool f18c_2, .string f18c_3] :: Res.sl (Ek.pair Ek.str (Ek.pair (Ek.int .i64) Ek.bool)) 83 v124 q121.2.2.2.2 :: Res.obj 53 v7 [.int .i64 q121.2.1, .int .i64 q121.2.2.1, .int .i64 q121.2.2.2.1, v124] :: Res.sl (Ek.pair Ek.str (Ek.pair Ek.bool (Ek.pair (Ek.int .i64) Ek.bool))) 81 v119 q116.2.2.2.2.2 :: Res.obj 79 v3 [.int .i64 q116.2.1, .int .i64 q116.2.2.1, .int .i64 q116.2.2.2.1, .int .i64 q116.2.2.2.2.1, v119] :: ow)) ?_ ?_
          · have hp := hp110.same (Same.drew w)
            refine dr_begin' (fun a w => ∃ (v119 : Value) (v124 : Value), Fr 161 a [(2, vl2), (7, v3), (9, v7), (11, .int .i64 i11), (155, .bool (q116.1 != q121.1))] ∧ Hp S w0 w (Res.obj 31 v106 [.int .u8 f18c_0, .int .u8 f18c_1, .bool f18c_2, .string f18c_3] :: Res.sl (Ek.pair Ek.str (Ek.pair (Ek.int .i64) Ek.bool)) 83 v124 q121.2.2.2.2 :: Res.obj 53 v7 [.int .i64 q121.2.1, .int .i64 q121.2.2.1, .int .i64 q121.2.2.2.1, v124] :: Res.sl (Ek.pair Ek.str (Ek.pair Ek.bool (Ek.pair (Ek.int .i64) Ek.bool))) 81 v119 q116.2.2.2.2.2 :: Res.obj 79 v3 [.int .i64 q116.2.1, .int .i64 q116.2.2.1, .int .i64 q116.2.2.2.1, .int .i64 q116.2.2.2.2.1, v119] :: ow)) (fun w' => ∃ l, Hp S109 w w' l) [] (by kernel_rfl) ?_
            refine dr_take 0 (v3) rfl (by kernel_rfl) (by kernel_rfl) (by kernel_rfl) (by kernel_rfl) rfl rfl hf (by decide) rfl (fun w hp => ?_) ⟨_, hp⟩ ?_
            · obtain ⟨_, hp⟩ := hp
              refine st_move hf rfl rfl (by decide) ?_
              clear hf; intro a ha hf
              exact st_nil hf (th_n ⟨ha, rfl⟩)
            clear hf; intro a hf
            refine dr_take 1 (.agg #[.int .u8 f18c_0, .int .u8 f18c_1, .bool f18c_2, .string f18c_3]) rfl (by kernel_rfl) (by kernel_rfl) (by kernel_rfl) (by kernel_rfl) rfl rfl hf (by decide) rfl (fun w hp => ?_) ⟨_, hp⟩ ?_
            · obtain ⟨_, hp⟩ := hp
              refine st_ldOA (m := 4) (us := [.int .u8 f18c_0, .int .u8 f18c_1, .bool f18c_2, .string f18c_3]) hf (by decide) (by kernel_rfl) rfl rfl (rl115.ob hp) rfl rfl ?_
              clear hf; intro a ha hf
              exact st_nil hf (th_n ⟨ha, rfl⟩)
            clear hf; intro a hf
            refine dr_take 3 (v7) rfl (by kernel_rfl) (by kernel_rfl) (by kernel_rfl) (by kernel_rfl) rfl rfl hf (by decide) rfl (fun w hp => ?_) ⟨_, hp⟩ ?_
            · obtain ⟨_, hp⟩ := hp
              refine st_move hf rfl rfl (by decide) ?_
              clear hf; intro a ha hf
              exact st_nil hf (th_n ⟨ha, rfl⟩)
            clear hf; intro a hf
            refine dr_take 4 (.agg #[.int .u8 f18c_0, .int .u8 f18c_1, .bool f18c_2, .string f18c_3]) rfl (by kernel_rfl) (by kernel_rfl) (by kernel_rfl) (by kernel_rfl) rfl rfl hf (by decide) rfl (fun w hp => ?_) ⟨_, hp⟩ ?_
            · obtain ⟨_, hp⟩ := hp
              refine st_ldOA (m := 4) (us := [.int .u8 f18c_0, .int .u8 f18c_1, .bool f18c_2, .string f18c_3]) hf (by decide) (by kernel_rfl) rfl rfl (rl115.ob hp) rfl rfl ?_
              clear hf; intro a ha hf
              exact st_nil hf (th_n ⟨ha, rfl⟩)
            clear hf; intro a hf
            refine dr_one 2 rfl (by kernel_rfl) ?_
            have hp118 : Hp _ _ _ (Res.sl (Ek.pair Ek.str (Ek.pair Ek.bool (Ek.pair (Ek.int .i64) Ek.bool))) 81 v19 xx7c_4 :: Res.obj 79 v3 [.int .i64 xx7c_0, .int .i64 xx7c_1, .int .i64 xx7c_2, .int .i64 xx7c_3, v19] :: Res.obj 53 v7 [.int .i64 yx9c_0, .int .i64 yx9c_1, .int .i64 yx9c_2, v22] :: Res.sl (Ek.pair Ek.str (Ek.pair (Ek.int .i64) Ek.bool)) 83 v22 yx9c_3 :: ow) := Hp.sel (pre := [Res.obj 79 v3 [.int .i64 xx7c_0, .int .i64 xx7c_1, .int .i64 xx7c_2, .int .i64 xx7c_3, v19], Res.sl (Ek.pair Ek.str (Ek.pair Ek.bool (Ek.pair (Ek.int .i64) Ek.bool))) 81 v19 xx7c_4, Res.obj 53 v7 [.int .i64 yx9c_0, .int .i64 yx9c_1, .int .i64 yx9c_2, v22], Res.sl (Ek.pair Ek.str (Ek.pair (Ek.int .i64) Ek.bool)) 83 v22 yx9c_3]) (tail := ow) (rs' := [Res.sl (Ek.pair Ek.str (Ek.pair Ek.bool (Ek.pair (Ek.int .i64) Ek.bool))) 81 v19 xx7c_4, Res.obj 79 v3 [.int .i64 xx7c_0, .int .i64 xx7c_1, .int .i64 xx7c_2, .int .i64 xx7c_3, v19], Res.obj 53 v7 [.int .i64 yx9c_0, .int .i64 yx9c_1, .int .i64 yx9c_2, v22], Res.sl (Ek.pair Ek.str (Ek.pair (Ek.int .i64) Ek.bool)) 83 v22 yx9c_3]) hp [1, 0, 2, 3] (by decide) (by simp) rfl
            refine st_call hf (by decide) Try.func23 rfl rfl rfl rfl rfl (f_again_Sender_Hear_c _ _ _ _ _ _ _ _ _ _ _ hp118 hcall117) ?_
            rintro _ w ⟨v119, rfl, hp0⟩
            clear hp; have hp := hp0; clear hp0
            replace hp : Hp _ _ _ (Res.sl (Ek.pair Ek.str (Ek.pair Ek.bool (Ek.pair (Ek.int .i64) Ek.bool))) 81 v119 q116.2.2.2.2.2 :: Res.obj 79 v3 [.int .i64 q116.2.1, .int .i64 q116.2.2.1, .int .i64 q116.2.2.2.1, .int .i64 q116.2.2.2.2.1, v119] :: Res.obj 53 v7 [.int .i64 yx9c_0, .int .i64 yx9c_1, .int .i64 yx9c_2, v22] :: Res.sl (Ek.pair Ek.str (Ek.pair (Ek.int .i64) Ek.bool)) 83 v22 yx9c_3 :: ow) := hp
            refine ⟨_, rfl, ?_⟩
            clear hf; intro a hf
            refine st_nil hf (th_n ⟨fun _ _ => ⟨_, hp⟩, ?_⟩)
            refine dr_one 5 rfl (by kernel_rfl) ?_
            have hp123 : Hp _ _ _ (Res.sl (Ek.pair Ek.str (Ek.pair (Ek.int .i64) Ek.bool)) 83 v22 yx9c_3 :: Res.obj 53 v7 [.int .i64 yx9c_0, .int .i64 yx9c_1, .int .i64 yx9c_2, v22] :: Res.sl (Ek.pair Ek.str (Ek.pair Ek.bool (Ek.pair (Ek.int .i64) Ek.bool))) 81 v119 q116.2.2.2.2.2 :: Res.obj 79 v3 [.int .i64 q116.2.1, .int .i64 q116.2.2.1, .int .i64 q116.2.2.2.1, .int .i64 q116.2.2.2.2.1, v119] :: ow) := Hp.sel (pre := [Res.sl (Ek.pair Ek.str (Ek.pair Ek.bool (Ek.pair (Ek.int .i64) Ek.bool))) 81 v119 q116.2.2.2.2.2, Res.obj 79 v3 [.int .i64 q116.2.1, .int .i64 q116.2.2.1, .int .i64 q116.2.2.2.1, .int .i64 q116.2.2.2.2.1, v119], Res.obj 53 v7 [.int .i64 yx9c_0, .int .i64 yx9c_1, .int .i64 yx9c_2, v22], Res.sl (Ek.pair Ek.str (Ek.pair (Ek.int .i64) Ek.bool)) 83 v22 yx9c_3]) (tail := ow) (rs' := [Res.sl (Ek.pair Ek.str (Ek.pair (Ek.int .i64) Ek.bool)) 83 v22 yx9c_3, Res.obj 53 v7 [.int .i64 yx9c_0, .int .i64 yx9c_1, .int .i64 yx9c_2, v22], Res.sl (Ek.pair Ek.str (Ek.pair Ek.bool (Ek.pair (Ek.int .i64) Ek.bool))) 81 v119 q116.2.2.2.2.2, Res.obj 79 v3 [.int .i64 q116.2.1, .int .i64 q116.2.2.1, .int .i64 q116.2.2.2.1, .int .i64 q116.2.2.2.2.1, v119]]) hp [3, 2, 0, 1] (by decide) (by simp) rfl
            refine st_call hf (by decide) Try.func24 rfl rfl rfl rfl rfl (f_foghornref28_Sender_Hear_c _ _ _ _ _ _ _ _ _ _ hp123 hcall122) ?_
            rintro _ w ⟨v124, rfl, hp0⟩
            clear hp; have hp := hp0; clear hp0
            replace hp : Hp _ _ _ (Res.sl (Ek.pair Ek.str (Ek.pair (Ek.int .i64) Ek.bool)) 83 v124 q121.2.2.2.2 :: Res.obj 53 v7 [.int .i64 q121.2.1, .int .i64 q121.2.2.1, .int .i64 q121.2.2.2.1, v124] :: Res.sl (Ek.pair Ek.str (Ek.pair Ek.bool (Ek.pair (Ek.int .i64) Ek.bool))) 81 v119 q116.2.2.2.2.2 :: Res.obj 79 v3 [.int .i64 q116.2.1, .int .i64 q116.2.2.1, .int .i64 q116.2.2.2.1, .int .i64 q116.2.2.2.2.1, v119] :: ow) := hp
            refine ⟨_, rfl, ?_⟩
            clear hf; intro a hf
            refine st_nil hf (th_n ⟨fun _ _ => ⟨_, hp⟩, ?_⟩)
            refine dr_take 6 (.bool (q116.1 != q121.1)) rfl (by kernel_rfl) (by kernel_rfl) (by kernel_rfl) (by kernel_rfl) rfl rfl hf (by decide) rfl (fun w hp => ?_) ⟨_, hp⟩ ?_
            · obtain ⟨_, hp⟩ := hp
              refine st_ineq hf (by decide) rfl rfl rfl ?_
              clear hf; intro a ha hf
              exact st_nil hf (th_n ⟨ha, rfl⟩)
            clear hf; intro a hf
            refine dr_end (by kernel_rfl) ?_ _
            have hp := bk113 _ _ hp
            exact ⟨v119, v124, hf.sub ⟨rfl, rfl, rfl, rfl, rfl, trivial⟩, hp⟩
          rintro a w ⟨v119, v124, hf, hp⟩
          refine th_n ?_
          refine wp_if hf rfl (fun hb => ?_) (fun hb => ?_)
          · replace h := ifT h hb
            refine wp_seq ?_
            refine wp_reg ?_
            refine st_assign hf rfl rfl (by decide) ?_
            clear hf; intro a ha hf; clear ha
            refine st_nil hf ?_
            refine th_n ?_
            refine wp_ret ?_
            refine ib_r ?_
            refine th_r ?_
            refine ib_r ?_
            refine th_r ?_
            obtain rfl := Option.some.inj h
            have hp : Hp _ _ _ (ow) := Hp.sel (pre := [Res.obj 31 v106 [.int .u8 f18c_0, .int .u8 f18c_1, .bool f18c_2, .string f18c_3], Res.sl (Ek.pair Ek.str (Ek.pair (Ek.int .i64) Ek.bool)) 83 v124 q121.2.2.2.2, Res.obj 53 v7 [.int .i64 q121.2.1, .int .i64 q121.2.2.1, .int .i64 q121.2.2.2.1, v124], Res.sl (Ek.pair Ek.str (Ek.pair Ek.bool (Ek.pair (Ek.int .i64) Ek.bool))) 81 v119 q116.2.2.2.2.2, Res.obj 79 v3 [.int .i64 q116.2.1, .int .i64 q116.2.2.1, .int .i64 q116.2.2.2.1, .int .i64 q116.2.2.2.2.1, v119]]) (tail := ow) (rs' := []) hp [] (by decide) (by simp) rfl
            exact rnd_r (by simp) ⟨rfl, ⟨hf.sub ⟨rfl, trivial⟩, hp⟩⟩
          replace h := ifF h hb
          refine wp_skip ?_
          refine ib_n ?_
          have hp : Hp _ _ _ (Res.sl (Ek.pair Ek.str (Ek.pair Ek.bool (Ek.pair (Ek.int .i64) Ek.bool))) 81 v119 q116.2.2.2.2.2 :: Res.obj 79 v3 [.int .i64 q116.2.1, .int .i64 q116.2.2.1, .int .i64 q116.2.2.2.1, .int .i64 q116.2.2.2.2.1, v119] :: Res.sl (Ek.pair Ek.str (Ek.pair (Ek.int .i64) Ek.bool)) 83 v124 q121.2.2.2.2 :: Res.obj 53 v7 [.int .i64 q121.2.1, .int .i64 q121.2.2.1, .int .i64 q121.2.2.2.1, v124] :: ow) := Hp.sel (pre := [Res.obj 31 v106 [.int .u8 f18c_0, .int .u8 f18c_1, .bool f18c_2, .string f18c_3], Res.sl (Ek.pair Ek.str (Ek.pair (Ek.int .i64) Ek.bool)) 83 v124 q121.2.2.2.2, Res.obj 53 v7 [.int .i64 q121.2.1, .int .i64 q121.2.2.1, .int .i64 q121.2.2.2.1, v124], Res.sl (Ek.pair Ek.str (Ek.pair Ek.bool (Ek.pair (Ek.int .i64) Ek.bool))) 81 v119 q116.2.2.2.2.2, Res.obj 79 v3 [.int .i64 q116.2.1, .int .i64 q116.2.2.1, .int .i64 q116.2.2.2.1, .int .i64 q116.2.2.2.2.1, v119]]) (tail := ow) (rs' := [Res.sl (Ek.pair Ek.str (Ek.pair Ek.bool (Ek.pair (Ek.int .i64) Ek.bool))) 81 v119 q116.2.2.2.2.2, Res.obj 79 v3 [.int .i64 q116.2.1, .int .i64 q116.2.2.1, .int .i64 q116.2.2.2.1, .int .i64 q116.2.2.2.2.1, v119], Res.sl (Ek.pair Ek.str (Ek.pair (Ek.int .i64) Ek.bool)) 83 v124 q121.2.2.2.2, Res.obj 53 v7 [.int .i64 q121.2.1, .int .i64 q121.2.2.1, .int .i64 q121.2.2.2.1, v124]]) hp [3, 4, 1, 2] (by decide) (by simp) rfl
          refine th_n ?_
          exact ⟨_, _, _, _, _, _, _, _, _, _, _, h, hf.sub ⟨rfl, rfl, rfl, rfl, trivial⟩, hp⟩
        replace h := ifF h hb
        refine wp_skip ?_
        refine ib_n ?_
        refine th_n ?_
        exact ⟨_, _, _, _, _, _, _, _, _, _, _, h, hf.sub ⟨rfl, rfl, rfl, rfl, trivial⟩, hp⟩
      rintro a w ⟨xx7c_0, xx7c_1, xx7c_2, xx7c_3, xx7c_4, yx9c_0, yx9c_1, yx9c_2, yx9c_3, v27, v30, h, hf, hp⟩
      unfold f_foghornlaw28_AgainSends.j1 at h
      refine wp_seq ?_
      refine wp_reg ?_
      refine st_move hf rfl rfl (by decide) ?_
      clear hf; intro a ha hf; clear ha
      obtain ⟨q33, hcall34, h⟩ := bnd h
      obtain ⟨S35, hp36, rd37, up38, bk39⟩ := Hp.lendS hp (i := 0) rfl
      obtain ⟨S40, hp41, rd42, up43, bk44⟩ := Hp.lendO hp36 (i := 0) rfl
      refine st_call hf (by decide) Try.func25 rfl rfl rfl rfl rfl (f_again_Sender_Left_c hp41 _ _ _ _ _ _ ((rd37.now hp36).mono up43) _ rd42 hcall34) ?_
      rintro _ w ⟨rfl, hp0⟩
      have hp0 := bk44 _ _ hp0
      have hp0 := bk39 _ _ hp0
      clear hp; have hp := hp0; clear hp0
      replace hp : Hp _ _ _ (Res.sl (Ek.pair Ek.str (Ek.pair Ek.bool (Ek.pair (Ek.int .i64) Ek.bool))) 81 v27 xx7c_4 :: Res.obj 79 v3 [.int .i64 xx7c_0, .int .i64 xx7c_1, .int .i64 xx7c_2, .int .i64 xx7c_3, v27] :: Res.sl (Ek.pair Ek.str (Ek.pair (Ek.int .i64) Ek.bool)) 83 v30 yx9c_3 :: Res.obj 53 v7 [.int .i64 yx9c_0, .int .i64 yx9c_1, .int .i64 yx9c_2, v30] :: ow) := hp
      refine ⟨_, rfl, ?_⟩
      clear hf; intro a hf
      refine st_move hf rfl rfl (by decide) ?_
      clear hf; intro a ha hf; clear ha
      obtain ⟨q45, hcall46, h⟩ := bnd h
      obtain ⟨S47, hp48, rd49, up50, bk51⟩ := Hp.lendS hp (i := 2) rfl
      obtain ⟨S52, hp53, rd54, up55, bk56⟩ := Hp.lendO hp48 (i := 2) rfl
      refine st_call hf (by decide) Try.func26 rfl rfl rfl rfl rfl (f_foghornref28_Sender_Left_c hp53 _ _ _ _ _ ((rd49.now hp48).mono up55) _ rd54 hcall46) ?_
      rintro _ w ⟨rfl, hp0⟩
      have hp0 := bk56 _ _ hp0
      have hp0 := bk51 _ _ hp0
      clear hp; have hp := hp0; clear hp0
      replace hp : Hp _ _ _ (Res.sl (Ek.pair Ek.str (Ek.pair (Ek.int .i64) Ek.bool)) 83 v30 yx9c_3 :: Res.obj 53 v7 [.int .i64 yx9c_0, .int .i64 yx9c_1, .int .i64 yx9c_2, v30] :: Res.sl (Ek.pair Ek.str (Ek.pair Ek.bool (Ek.pair (Ek.int .i64) Ek.bool))) 81 v27 xx7c_4 :: Res.obj 79 v3 [.int .i64 xx7c_0, .int .i64 xx7c_1, .int .i64 xx7c_2, .int .i64 xx7c_3, v27] :: ow) := hp
      refine ⟨_, rfl, ?_⟩
      clear hf; intro a hf
      refine st_ineq hf (by decide) rfl rfl rfl ?_
      clear hf; intro a ha hf; clear ha
      refine st_nil hf ?_
      refine th_n ?_
      refine wp_if hf rfl (fun hb => ?_) (fun hb => ?_)
      · replace h := ifT h hb
        refine wp_seq ?_
        refine wp_reg ?_
        refine st_assign hf rfl rfl (by decide) ?_
        clear hf; intro a ha hf; clear ha
        refine st_nil hf ?_
        refine th_n ?_
        refine wp_ret ?_
        refine ib_r ?_
        refine th_r ?_
        obtain rfl := Option.some.inj h
        have hp : Hp _ _ _ (ow) := Hp.sel (pre := [Res.sl (Ek.pair Ek.str (Ek.pair (Ek.int .i64) Ek.bool)) 83 v30 yx9c_3, Res.obj 53 v7 [.int .i64 yx9c_0, .int .i64 yx9c_1, .int .i64 yx9c_2, v30], Res.sl (Ek.pair Ek.str (Ek.pair Ek.bool (Ek.pair (Ek.int .i64) Ek.bool))) 81 v27 xx7c_4, Res.obj 79 v3 [.int .i64 xx7c_0, .int .i64 xx7c_1, .int .i64 xx7c_2, .int .i64 xx7c_3, v27]]) (tail := ow) (rs' := []) hp [] (by decide) (by simp) rfl
        exact rnd_r (by simp) ⟨rfl, ⟨hf.sub ⟨rfl, trivial⟩, hp⟩⟩
      replace h := ifF h hb
      refine wp_skip ?_
      refine ib_n ?_
      refine th_n ?_
      refine wp_reg ?_
      refine st_move hf rfl rfl (by decide) ?_
      clear hf; intro a ha hf; clear ha
      refine st_iadd hf (by decide) rfl rfl rfl ?_
      clear hf; intro a ha hf; clear ha
      refine st_assign hf rfl rfl (by decide) ?_
      clear hf; intro a ha hf; clear ha
      refine st_nil hf ?_
      obtain rfl := Option.some.inj h
      have hp : Hp _ _ _ (Res.sl (Ek.pair Ek.str (Ek.pair Ek.bool (Ek.pair (Ek.int .i64) Ek.bool))) 81 v27 xx7c_4 :: Res.obj 79 v3 [.int .i64 xx7c_0, .int .i64 xx7c_1, .int .i64 xx7c_2, .int .i64 xx7c_3, v27] :: Res.sl (Ek.pair Ek.str (Ek.pair (Ek.int .i64) Ek.bool)) 83 v30 yx9c_3 :: Res.obj 53 v7 [.int .i64 yx9c_0, .int .i64 yx9c_1, .int .i64 yx9c_2, v30] :: ow) := Hp.sel (pre := [Res.sl (Ek.pair Ek.str (Ek.pair (Ek.int .i64) Ek.bool)) 83 v30 yx9c_3, Res.obj 53 v7 [.int .i64 yx9c_0, .int .i64 yx9c_1, .int .i64 yx9c_2, v30], Res.sl (Ek.pair Ek.str (Ek.pair Ek.bool (Ek.pair (Ek.int .i64) Ek.bool))) 81 v27 xx7c_4, Res.obj 79 v3 [.int .i64 xx7c_0, .int .i64 xx7c_1, .int .i64 xx7c_2, .int .i64 xx7c_3, v27]]) (tail := ow) (rs' := [Res.sl (Ek.pair Ek.str (Ek.pair Ek.bool (Ek.pair (Ek.int .i64) Ek.bool))) 81 v27 xx7c_4, Res.obj 79 v3 [.int .i64 xx7c_0, .int .i64 xx7c_1, .int .i64 xx7c_2, .int .i64 xx7c_3, v27], Res.sl (Ek.pair Ek.str (Ek.pair (Ek.int .i64) Ek.bool)) 83 v30 yx9c_3, Res.obj 53 v7 [.int .i64 yx9c_0, .int .i64 yx9c_1, .int .i64 yx9c_2, v30]]) hp [2, 3, 0, 1] (by decide) (by simp) rfl
      exact rnd_l ⟨_, _, hf.sub ⟨rfl, rfl, rfl, rfl, trivial⟩, hp⟩
    replace h := ifF h hb
    refine wp_exit ?_
    refine th_e ?_
    obtain rfl := Option.some.inj h
    have hp : Hp _ _ _ (ow) := Hp.sel (pre := [Res.sl (Ek.pair Ek.str (Ek.pair Ek.bool (Ek.pair (Ek.int .i64) Ek.bool))) 81 v19 xx7c_4, Res.obj 79 v3 [.int .i64 xx7c_0, .int .i64 xx7c_1, .int .i64 xx7c_2, .int .i64 xx7c_3, v19], Res.sl (Ek.pair Ek.str (Ek.pair (Ek.int .i64) Ek.bool)) 83 v22 yx9c_3, Res.obj 53 v7 [.int .i64 yx9c_0, .int .i64 yx9c_1, .int .i64 yx9c_2, v22]]) (tail := ow) (rs' := []) hp [] (by decide) (by simp) rfl
    exact rnd_r (by simp) ⟨rfl, hf.sub trivial, hp⟩
  clear hl hf hp
  intro e a w hne hO
  rcases q139 with q140 | q141
  · replace h := smL h
    obtain ⟨rfl, hf, hp⟩ := hO
    refine ib_same ?_
    refine th_n ?_
    refine wp_seq ?_
    refine wp_reg ?_
    refine st_assign hf rfl rfl (by decide) ?_
    clear hf; intro a ha hf; clear ha
    refine st_nil hf ?_
    refine th_n ?_
    refine wp_ret ?_
    obtain rfl := Option.some.inj h
    exact ⟨rfl, ⟨hf.sub ⟨rfl, trivial⟩, hp⟩⟩
  replace h := smR h
  obtain ⟨rfl, hf, hp⟩ := hO
  refine ib_r ?_
  refine th_r ?_
  obtain rfl := Option.some.inj h
  exact ⟨rfl, ⟨hf.sub ⟨rfl, trivial⟩, hp⟩⟩

end Go.Proofs.Ytmdigffgmohcnaa
