/- The functions foghorn foghornlaw17.WeaveLooms: what each answers, as a plain function, and that its call answers it; printed by gen.py. -/
import Derived.Test.YthoigfonjpmibaaProg
import Derived.Test.YthoigfonjpmibaaGlUb
import Derived.KernelRfl
import Derived.Test.YthoigfonjpmibaaG20p1
set_option linter.unusedVariables false
set_option linter.unusedSimpArgs false
set_option maxRecDepth 100000
set_option maxHeartbeats 4000000
namespace Go.Proofs.Ythoigfonjpmibaa
open GL
noncomputable def f_foghornlaw17_WeaveLooms.s1c (l4 : (List (Int × Int × Int × ByteArray))) (ax11 : (Option LoomS)) (bx13 : (Option LoomS)) (m15 : (Option ((List (List Int)) × Int × Int))) (n17 : (Option ((List (List Int)) × Int × Int))) (i19 : Int) : Option (((Option LoomS) × (Option LoomS) × (Option ((List (List Int)) × Int × Int)) × (Option ((List (List Int)) × Int × Int)) × Int) ⊕ (Unit ⊕ Bool)) := (if ((decide (i19 < (l4.length : Int))) && (decide (i19 < (300 : Int)))) = true then (if 0 ≤ i19 ∧ i19 < (l4.length : Int) then (if ((gt l4 i19).2.1 != (0 : Int)) = true then (if ((n17).isNone) = true then (some (Sum.inl (ax11, bx13, m15, n17, (IntKind.i64.wrap (i19 + (1 : Int)))))) else ((n17).bind fun s30 => (if 0 ≤ i19 ∧ i19 < (l4.length : Int) then (if ((gt l4 i19).1 == (0 : Int)) = true then (if 0 ≤ i19 ∧ i19 < (l4.length : Int) then ((f_weave_Loom_Push bx13 ((gt l4 i19).2.2.1)).bind fun q37 => ((if (q37.2.1 != (0 : Int)) = true then (some (true, s30.1, s30.2.1, s30.2.2)) else (if 0 ≤ i19 ∧ i19 < (l4.length : Int) then ((f_foghornref17_Loom_Push s30.1 s30.2.1 s30.2.2 ((gt l4 i19).2.2.1)).bind fun q48 => (some ((q37.1 != q48.1), q48.2.1, q48.2.2.1, q48.2.2.2))) else none)).bind fun z46 => (if z46.1 = true then (some (Sum.inr (Sum.inr false))) else ((f_weave_Loom_Delay q37.2.2).bind fun q54 => ((f_foghornref17_Loom_Delay z46.2.1 z46.2.2.1 z46.2.2.2).bind fun q57 => (if (q54 != q57) = true then (some (Sum.inr (Sum.inr false))) else (some (Sum.inl (ax11, q37.2.2, m15, (some (z46.2.1, z46.2.2.1, z46.2.2.2)), (IntKind.i64.wrap (i19 + (1 : Int)))))))))))) else none) else (if ((gt l4 i19).1 == (1 : Int)) = true then (if 0 ≤ i19 ∧ i19 < (l4.length : Int) then ((f_weave_Loom_Run bx13 ((gt l4 i19).2.2.2)).bind fun q70 => (if 0 ≤ i19 ∧ i19 < (l4.length : Int) then ((f_foghornref17_Loom_Run s30.1 s30.2.1 s30.2.2 ((gt l4 i19).2.2.2)).bind fun q74 => (if ((!seq q70.1 q74.1) || (q70.2.1 != q74.2.1)) = true then (some (Sum.inr (Sum.inr false))) else ((f_weave_Loom_Delay q70.2.2).bind fun q82 => ((f_foghornref17_Loom_Delay q74.2.2.1 q74.2.2.2.1 q74.2.2.2.2).bind fun q85 => (if (q82 != q85) = true then (some (Sum.inr (Sum.inr false))) else (some (Sum.inl (ax11, q70.2.2, m15, (some (q74.2.2.1, q74.2.2.2.1, q74.2.2.2.2)), (IntKind.i64.wrap (i19 + (1 : Int))))))))))) else none)) else none) else ((f_weave_Loom_Delay bx13).bind fun q97 => ((f_foghornref17_Loom_Delay s30.1 s30.2.1 s30.2.2).bind fun q100 => (if (q97 != q100) = true then (some (Sum.inr (Sum.inr false))) else (some (Sum.inl (ax11, bx13, m15, (some (s30.1, s30.2.1, s30.2.2)), (IntKind.i64.wrap (i19 + (1 : Int))))))))))) else none))) else (if ((m15).isNone) = true then (some (Sum.inl (ax11, bx13, m15, n17, (IntKind.i64.wrap (i19 + (1 : Int)))))) else ((m15).bind fun s112 => (if 0 ≤ i19 ∧ i19 < (l4.length : Int) then (if ((gt l4 i19).1 == (0 : Int)) = true then (if 0 ≤ i19 ∧ i19 < (l4.length : Int) then ((f_weave_Loom_Push ax11 ((gt l4 i19).2.2.1)).bind fun q119 => ((if (q119.2.1 != (0 : Int)) = true then (some (true, s112.1, s112.2.1, s112.2.2)) else (if 0 ≤ i19 ∧ i19 < (l4.length : Int) then ((f_foghornref17_Loom_Push s112.1 s112.2.1 s112.2.2 ((gt l4 i19).2.2.1)).bind fun q130 => (some ((q119.1 != q130.1), q130.2.1, q130.2.2.1, q130.2.2.2))) else none)).bind fun z128 => (if z128.1 = true then (some (Sum.inr (Sum.inr false))) else ((f_weave_Loom_Delay q119.2.2).bind fun q136 => ((f_foghornref17_Loom_Delay z128.2.1 z128.2.2.1 z128.2.2.2).bind fun q139 => (if (q136 != q139) = true then (some (Sum.inr (Sum.inr false))) else (some (Sum.inl (q119.2.2, bx13, (some (z128.2.1, z128.2.2.1, z128.2.2.2)), n17, (IntKind.i64.wrap (i19 + (1 : Int)))))))))))) else none) else (if ((gt l4 i19).1 == (1 : Int)) = true then (if 0 ≤ i19 ∧ i19 < (l4.length : Int) then ((f_weave_Loom_Run ax11 ((gt l4 i19).2.2.2)).bind fun q152 => (if 0 ≤ i19 ∧ i19 < (l4.length : Int) then ((f_foghornref17_Loom_Run s112.1 s112.2.1 s112.2.2 ((gt l4 i19).2.2.2)).bind fun q156 => (if ((!seq q152.1 q156.1) || (q152.2.1 != q156.2.1)) = true then (some (Sum.inr (Sum.inr false))) else ((f_weave_Loom_Delay q152.2.2).bind fun q164 => ((f_foghornref17_Loom_Delay q156.2.2.1 q156.2.2.2.1 q156.2.2.2.2).bind fun q167 => (if (q164 != q167) = true then (some (Sum.inr (Sum.inr false))) else (some (Sum.inl (q152.2.2, bx13, (some (q156.2.2.1, q156.2.2.2.1, q156.2.2.2.2)), n17, (IntKind.i64.wrap (i19 + (1 : Int))))))))))) else none)) else none) else ((f_weave_Loom_Delay ax11).bind fun q179 => ((f_foghornref17_Loom_Delay s112.1 s112.2.1 s112.2.2).bind fun q182 => (if (q179 != q182) = true then (some (Sum.inr (Sum.inr false))) else (some (Sum.inl (ax11, bx13, (some (s112.1, s112.2.1, s112.2.2)), n17, (IntKind.i64.wrap (i19 + (1 : Int))))))))))) else none)))) else none) else (some (Sum.inr (Sum.inl ()))))
noncomputable def f_foghornlaw17_WeaveLooms.s1 (l4 : (List (Int × Int × Int × ByteArray))) (s : ((Option LoomS) × (Option LoomS) × (Option ((List (List Int)) × Int × Int)) × (Option ((List (List Int)) × Int × Int)) × Int)) : Option (((Option LoomS) × (Option LoomS) × (Option ((List (List Int)) × Int × Int)) × (Option ((List (List Int)) × Int × Int)) × Int) ⊕ (Unit ⊕ Bool)) := f_foghornlaw17_WeaveLooms.s1c l4 s.1 s.2.1 s.2.2.1 s.2.2.2.1 s.2.2.2.2
noncomputable def f_foghornlaw17_WeaveLooms (branches0 : Int) (steps1 : Int) (other2 : Int) (wide3 : Int) (l4 : (List (Int × Int × Int × ByteArray))) : Option Bool := ((f_weave_New branches0 steps1).bind fun q1 => ((f_weave_Undo other2 wide3).bind fun q5 => ((f_foghornref17_New branches0 steps1 false).bind fun q9 => ((f_foghornref17_New other2 wide3 true).bind fun q13 => (if ((((q1.2 != q9.2) || (q5.2 != q13.2)) || (((q1.1).isNone) != ((q9.1).isNone))) || (((q5.1).isNone) != ((q13.1).isNone))) = true then (some false) else ((loop (f_foghornlaw17_WeaveLooms.s1 l4) (q1.1, q5.1, q9.1, q13.1, (0 : Int))).bind (fun q194 => sm q194 (fun q195 => (some true)) (fun q196 => (some q196)))))))))
theorem f_foghornlaw17_WeaveLooms_c {S : Nat → Prop} {w0 w : World} {ow : List Res} (hp : Hp S w0 w ow) (branches0 : Int) (steps1 : Int) (other2 : Int) (wide3 : Int) (vl4 : Value) (l4 : (List (Int × Int × Int × ByteArray))) (hl4 : RdS (Ek.pair (Ek.int .i64) (Ek.pair (Ek.int .i64) (Ek.pair (Ek.int .u8) Ek.str))) S w0 vl4 l4) {r : Bool} (h : f_foghornlaw17_WeaveLooms branches0 steps1 other2 wide3 l4 = some r) :
    Calls Try.prog 6 #[.int .i64 branches0, .int .i64 steps1, .int .i64 other2, .int .i64 wide3, vl4] w (fun e w' => e = .returned (.bool r) ∧ Hp S w0 w' (ow)) := by
  unfold f_foghornlaw17_WeaveLooms at h
  refine enter (n := 161) (args := [.int .i64 branches0, .int .i64 steps1, .int .i64 other2, .int .i64 wide3, vl4]) Try.func6 rfl rfl (Nat.le_of_ble_eq_true rfl) fun a hf => ?_
  replace hf : Fr 161 a [(0, .int .i64 branches0), (1, .int .i64 steps1), (2, .int .i64 other2), (3, .int .i64 wide3), (4, vl4)] := hf
  refine wp_mono (Q := fun e a w => e = .ret ∧ Fr 161 a [(10, .bool r)] ∧ Hp S w0 w (ow)) ?_ ?_
  rotate_left
  · rintro e a w ⟨rfl, hf, hp⟩
    exact ret1 hf rfl rfl ⟨rfl, hp⟩
  refine wp_seq ?_
  refine wp_reg ?_
  refine st_assign hf rfl rfl (by decide) ?_
  clear hf; intro a ha hf; clear ha
  refine st_nil hf ?_
  refine th_n ?_
  refine wp_seq ?_
  refine wp_reg ?_
  refine st_move hf rfl rfl (by decide) ?_
  clear hf; intro a ha hf; clear ha
  refine st_move hf rfl rfl (by decide) ?_
  clear hf; intro a ha hf; clear ha
  obtain ⟨q1, hcall2, h⟩ := bnd h
  refine st_call hf (by decide) Try.func27 rfl rfl rfl rfl rfl (f_weave_New_c hp _ _ hcall2) ?_
  rintro _ w ⟨v3, rfl, hp0⟩
  clear hp; have hp := hp0; clear hp0
  replace hp : Hp _ _ _ (Res.opt (LoomK 75 5) v3 q1.1 :: ow) := hp
  refine ⟨_, rfl, ?_⟩
  clear hf; intro a hf
  refine st_move hf rfl rfl (by decide) ?_
  clear hf; intro a ha hf; clear ha
  refine st_extract hf (by decide) rfl rfl rfl ?_
  clear hf; intro a ha hf; clear ha
  refine st_extract hf (by decide) rfl rfl rfl ?_
  clear hf; intro a ha hf; clear ha
  refine st_assign hf rfl rfl (by decide) ?_
  clear hf; intro a ha hf; clear ha
  refine st_assign hf rfl rfl (by decide) ?_
  clear hf; intro a ha hf; clear ha
  refine st_nil hf ?_
  refine th_n ?_
  refine wp_seq ?_
  refine wp_reg ?_
  refine st_move hf rfl rfl (by decide) ?_
  clear hf; intro a ha hf; clear ha
  refine st_move hf rfl rfl (by decide) ?_
  clear hf; intro a ha hf; clear ha
  obtain ⟨q5, hcall6, h⟩ := bnd h
  refine st_call hf (by decide) Try.func28 rfl rfl rfl rfl rfl (f_weave_Undo_c hp _ _ hcall6) ?_
  rintro _ w ⟨v7, rfl, hp0⟩
  clear hp; have hp := hp0; clear hp0
  replace hp : Hp _ _ _ (Res.opt (LoomK 75 5) v7 q5.1 :: Res.opt (LoomK 75 5) v3 q1.1 :: ow) := hp
  refine ⟨_, rfl, ?_⟩
  clear hf; intro a hf
  refine st_move hf rfl rfl (by decide) ?_
  clear hf; intro a ha hf; clear ha
  refine st_extract hf (by decide) rfl rfl rfl ?_
  clear hf; intro a ha hf; clear ha
  refine st_extract hf (by decide) rfl rfl rfl ?_
  clear hf; intro a ha hf; clear ha
  refine st_assign hf rfl rfl (by decide) ?_
  clear hf; intro a ha hf; clear ha
  refine st_assign hf rfl rfl (by decide) ?_
  clear hf; intro a ha hf; clear ha
  refine st_nil hf ?_
  refine th_n ?_
  refine wp_seq ?_
  refine wp_reg ?_
  refine st_move hf rfl rfl (by decide) ?_
  clear hf; intro a ha hf; clear ha
  refine st_move hf rfl rfl (by decide) ?_
  clear hf; intro a ha hf; clear ha
  obtain ⟨q9, hcall10, h⟩ := bnd h
  refine st_call hf (by decide) Try.func29 rfl rfl rfl rfl rfl (f_foghornref17_New_c hp _ _ _ hcall10) ?_
  rintro _ w ⟨v11, rfl, hp0⟩
  clear hp; have hp := hp0; clear hp0
  replace hp : Hp _ _ _ (Res.opt pk70 v11 q9.1 :: Res.opt (LoomK 75 5) v7 q5.1 :: Res.opt (LoomK 75 5) v3 q1.1 :: ow) := hp
  refine ⟨_, rfl, ?_⟩
  clear hf; intro a hf
  refine st_move hf rfl rfl (by decide) ?_
  clear hf; intro a ha hf; clear ha
  refine st_extract hf (by decide) rfl rfl rfl ?_
  clear hf; intro a ha hf; clear ha
  refine st_extract hf (by decide) rfl rfl rfl ?_
  clear hf; intro a ha hf; clear ha
  refine st_assign hf rfl rfl (by decide) ?_
  clear hf; intro a ha hf; clear ha
  refine st_assign hf rfl rfl (by decide) ?_
  clear hf; intro a ha hf; clear ha
  refine st_nil hf ?_
  refine th_n ?_
  refine wp_seq ?_
  refine wp_reg ?_
  refine st_move hf rfl rfl (by decide) ?_
  clear hf; intro a ha hf; clear ha
  refine st_move hf rfl rfl (by decide) ?_
  clear hf; intro a ha hf; clear ha
  obtain ⟨q13, hcall14, h⟩ := bnd h
  refine st_call hf (by decide) Try.func29 rfl rfl rfl rfl rfl (f_foghornref17_New_c hp _ _ _ hcall14) ?_
  rintro _ w ⟨v15, rfl, hp0⟩
  clear hp; have hp := hp0; clear hp0
  replace hp : Hp _ _ _ (Res.opt pk70 v15 q13.1 :: Res.opt pk70 v11 q9.1 :: Res.opt (LoomK 75 5) v7 q5.1 :: Res.opt (LoomK 75 5) v3 q1.1 :: ow) := hp
  refine ⟨_, rfl, ?_⟩
  clear hf; intro a hf
  refine st_move hf rfl rfl (by decide) ?_
  clear hf; intro a ha hf; clear ha
  refine st_extract hf (by decide) rfl rfl rfl ?_
  clear hf; intro a ha hf; clear ha
  refine st_extract hf (by decide) rfl rfl rfl ?_
  clear hf; intro a ha hf; clear ha
  refine st_assign hf rfl rfl (by decide) ?_
  clear hf; intro a ha hf; clear ha
  refine st_assign hf rfl rfl (by decide) ?_
  clear hf; intro a ha hf; clear ha
  refine st_nil hf ?_
  refine th_n ?_
  refine wp_seq ?_
  refine wp_seq ?_
  refine wp_reg ?_
  refine st_move hf rfl rfl (by decide) ?_
  clear hf; intro a ha hf; clear ha
  refine st_move hf rfl rfl (by decide) ?_
  clear hf; intro a ha hf; clear ha
  refine st_ineq hf (by decide) rfl rfl rfl ?_
  clear hf; intro a ha hf; clear ha
  refine st_move hf rfl rfl (by decide) ?_
  clear hf; intro a ha hf; clear ha
  refine wpList_cut 4 (fun a w => Fr 161 a [(4, vl4), (11, v3), (13, v7), (15, v11), (17, v15), (59, .bool ((q1.2 != q9.2) || (q5.2 != q13.2)))] ∧ Hp S w0 w (Res.opt pk70 v15 q13.1 :: Res.opt pk70 v11 q9.1 :: Res.opt (LoomK 75 5) v7 q5.1 :: Res.opt (LoomK 75 5) v3 q1.1 :: ow)) ?_ ?_
  · rcases Bool.eq_false_or_eq_true (q1.2 != q9.2) with hb18 | hb18
    · skip
      refine st_skip hf (wantN hf rfl rfl hb18) rfl (by decide) ?_ rfl
      clear hf; intro a hf
      refine st_skip hf (wantN hf rfl rfl hb18) rfl (by decide) ?_ rfl
      clear hf; intro a hf
      refine st_skip hf (wantN hf rfl rfl hb18) rfl (by decide) ?_ rfl
      clear hf; intro a hf
      refine st_pick (v := .bool true) hf rfl rfl (fun hb' => ?_) (fun hb' => ?_) (by decide) ?_
      · rfl
      · exact absurd (hb18.symm.trans hb') (by decide)
      clear hf; intro a ha hf; clear ha
      refine st_nil hf (th_n ?_)
      exact ⟨hf.sub ⟨rfl, rfl, rfl, rfl, rfl, (by rw [hb18]; rfl), trivial⟩, hp⟩
    refine st_move hf (wantY hf rfl rfl hb18) rfl (by decide) ?_
    clear hf; intro a ha hf; clear ha
    refine st_move hf (wantY hf rfl rfl hb18) rfl (by decide) ?_
    clear hf; intro a ha hf; clear ha
    refine st_ineq hf (by decide) (wantY hf rfl rfl hb18) rfl rfl ?_
    clear hf; intro a ha hf; clear ha
    refine st_pick (v := .bool (q5.2 != q13.2)) hf rfl rfl (fun hb' => ?_) (fun hb' => ?_) (by decide) ?_
    · exact absurd (hb18.symm.trans hb') (by decide)
    · rfl
    clear hf; intro a ha hf; clear ha
    refine st_nil hf (th_n ?_)
    exact ⟨hf.sub ⟨rfl, rfl, rfl, rfl, rfl, (by rw [hb18]; rfl), trivial⟩, hp⟩
  rintro a w ⟨hf, hp⟩
  refine st_move hf rfl rfl (by decide) ?_
  clear hf; intro a ha hf; clear ha
  refine wpList_cut 6 (fun a w => Fr 161 a [(4, vl4), (11, v3), (13, v7), (15, v11), (17, v15), (66, .bool (((q1.2 != q9.2) || (q5.2 != q13.2)) || (((q1.1).isNone) != ((q9.1).isNone))))] ∧ Hp S w0 w (Res.opt pk70 v15 q13.1 :: Res.opt pk70 v11 q9.1 :: Res.opt (LoomK 75 5) v7 q5.1 :: Res.opt (LoomK 75 5) v3 q1.1 :: ow)) ?_ ?_
  · rcases Bool.eq_false_or_eq_true ((q1.2 != q9.2) || (q5.2 != q13.2)) with hb20 | hb20
    · skip
      refine st_skip hf (wantN hf rfl rfl hb20) rfl (by decide) ?_ rfl
      clear hf; intro a hf
      refine st_skip hf (wantN hf rfl rfl hb20) rfl (by decide) ?_ rfl
      clear hf; intro a hf
      refine st_skip hf (wantN hf rfl rfl hb20) rfl (by decide) ?_ rfl
      clear hf; intro a hf
      refine st_skip hf (wantN hf rfl rfl hb20) rfl (by decide) ?_ rfl
      clear hf; intro a hf
      refine st_skip hf (wantN hf rfl rfl hb20) rfl (by decide) ?_ rfl
      clear hf; intro a hf
      refine st_pick (v := .bool true) hf rfl rfl (fun hb' => ?_) (fun hb' => ?_) (by decide) ?_
      · rfl
      · exact absurd (hb20.symm.trans hb') (by decide)
      clear hf; intro a ha hf; clear ha
      refine st_nil hf (th_n ?_)
      exact ⟨hf.sub ⟨rfl, rfl, rfl, rfl, rfl, (by rw [hb20]; rfl), trivial⟩, hp⟩
    refine st_move hf (wantY hf rfl rfl hb20) rfl (by decide) ?_
    clear hf; intro a ha hf; clear ha
    refine st_peql hf (by decide) Try.underlying45 (wantY hf rfl rfl hb20) rfl rfl (hp.nilB (i := 3) rfl) ?_
    clear hf; intro a ha hf; clear ha
    refine st_move hf (wantY hf rfl rfl hb20) rfl (by decide) ?_
    clear hf; intro a ha hf; clear ha
    refine st_peql hf (by decide) Try.underlying48 (wantY hf rfl rfl hb20) rfl rfl (hp.nilB (i := 1) rfl) ?_
    clear hf; intro a ha hf; clear ha
    refine st_bneq hf (by decide) Try.underlying4 (wantY hf rfl rfl hb20) rfl rfl ?_
    clear hf; intro a ha hf; clear ha
    refine st_pick (v := .bool (((q1.1).isNone) != ((q9.1).isNone))) hf rfl rfl (fun hb' => ?_) (fun hb' => ?_) (by decide) ?_
    · exact absurd (hb20.symm.trans hb') (by decide)
    · rfl
    clear hf; intro a ha hf; clear ha
    refine st_nil hf (th_n ?_)
    exact ⟨hf.sub ⟨rfl, rfl, rfl, rfl, rfl, (by rw [hb20]; rfl), trivial⟩, hp⟩
  rintro a w ⟨hf, hp⟩
  refine st_move hf rfl rfl (by decide) ?_
  clear hf; intro a ha hf; clear ha
  refine wpList_cut 6 (fun a w => Fr 161 a [(4, vl4), (11, v3), (13, v7), (15, v11), (17, v15), (73, .bool ((((q1.2 != q9.2) || (q5.2 != q13.2)) || (((q1.1).isNone) != ((q9.1).isNone))) || (((q5.1).isNone) != ((q13.1).isNone))))] ∧ Hp S w0 w (Res.opt pk70 v15 q13.1 :: Res.opt pk70 v11 q9.1 :: Res.opt (LoomK 75 5) v7 q5.1 :: Res.opt (LoomK 75 5) v3 q1.1 :: ow)) ?_ ?_
  · rcases Bool.eq_false_or_eq_true (((q1.2 != q9.2) || (q5.2 != q13.2)) || (((q1.1).isNone) != ((q9.1).isNone))) with hb22 | hb22
    · skip
      refine st_skip hf (wantN hf rfl rfl hb22) rfl (by decide) ?_ rfl
      clear hf; intro a hf
      refine st_skip hf (wantN hf rfl rfl hb22) rfl (by decide) ?_ rfl
      clear hf; intro a hf
      refine st_skip hf (wantN hf rfl rfl hb22) rfl (by decide) ?_ rfl
      clear hf; intro a hf
      refine st_skip hf (wantN hf rfl rfl hb22) rfl (by decide) ?_ rfl
      clear hf; intro a hf
      refine st_skip hf (wantN hf rfl rfl hb22) rfl (by decide) ?_ rfl
      clear hf; intro a hf
      refine st_pick (v := .bool true) hf rfl rfl (fun hb' => ?_) (fun hb' => ?_) (by decide) ?_
      · rfl
      · exact absurd (hb22.symm.trans hb') (by decide)
      clear hf; intro a ha hf; clear ha
      refine st_nil hf (th_n ?_)
      exact ⟨hf.sub ⟨rfl, rfl, rfl, rfl, rfl, (by rw [hb22]; rfl), trivial⟩, hp⟩
    refine st_move hf (wantY hf rfl rfl hb22) rfl (by decide) ?_
    clear hf; intro a ha hf; clear ha
    refine st_peql hf (by decide) Try.underlying45 (wantY hf rfl rfl hb22) rfl rfl (hp.nilB (i := 2) rfl) ?_
    clear hf; intro a ha hf; clear ha
    refine st_move hf (wantY hf rfl rfl hb22) rfl (by decide) ?_
    clear hf; intro a ha hf; clear ha
    refine st_peql hf (by decide) Try.underlying48 (wantY hf rfl rfl hb22) rfl rfl (hp.nilB (i := 0) rfl) ?_
    clear hf; intro a ha hf; clear ha
    refine st_bneq hf (by decide) Try.underlying4 (wantY hf rfl rfl hb22) rfl rfl ?_
    clear hf; intro a ha hf; clear ha
    refine st_pick (v := .bool (((q5.1).isNone) != ((q13.1).isNone))) hf rfl rfl (fun hb' => ?_) (fun hb' => ?_) (by decide) ?_
    · exact absurd (hb22.symm.trans hb') (by decide)
    · rfl
    clear hf; intro a ha hf; clear ha
    refine st_nil hf (th_n ?_)
    exact ⟨hf.sub ⟨rfl, rfl, rfl, rfl, rfl, (by rw [hb22]; rfl), trivial⟩, hp⟩
  rintro a w ⟨hf, hp⟩
  refine st_nil hf ?_
  refine th_n ?_
  refine wp_if hf rfl (fun hb => ?_) (fun hb => ?_)
  · replace h := ifT h hb
    refine wp_seq ?_
    refine wp_reg ?_
    refine st_assign hf rfl rfl (by decide) ?_
    clear hf; intro a ha hf; clear ha
    refine st_nil hf ?_
    refine th_n ?_
    refine wp_ret ?_
    refine th_r ?_
    obtain rfl := Option.some.inj h
    have hp : Hp _ _ _ (ow) := Hp.sel (pre := [Res.opt pk70 v15 q13.1, Res.opt pk70 v11 q9.1, Res.opt (LoomK 75 5) v7 q5.1, Res.opt (LoomK 75 5) v3 q1.1]) (tail := ow) (rs' := []) hp [] (by decide) (by simp) rfl
    exact ⟨rfl, ⟨hf.sub ⟨rfl, trivial⟩, hp⟩⟩
  replace h := ifF h hb
  refine wp_skip ?_
  refine th_n ?_
  refine wp_seq ?_
  refine wp_seq ?_
  refine wp_reg ?_
  refine st_assign hf rfl rfl (by decide) ?_
  clear hf; intro a ha hf; clear ha
  refine st_nil hf ?_
  refine th_n ?_
  refine wp_block ?_
  obtain ⟨q194, hl, h⟩ := bnd h
  have hp : Hp _ _ _ (Res.opt (LoomK 75 5) v3 q1.1 :: Res.opt (LoomK 75 5) v7 q5.1 :: Res.opt pk70 v11 q9.1 :: Res.opt pk70 v15 q13.1 :: ow) := Hp.sel (pre := [Res.opt pk70 v15 q13.1, Res.opt pk70 v11 q9.1, Res.opt (LoomK 75 5) v7 q5.1, Res.opt (LoomK 75 5) v3 q1.1]) (tail := ow) (rs' := [Res.opt (LoomK 75 5) v3 q1.1, Res.opt (LoomK 75 5) v7 q5.1, Res.opt pk70 v11 q9.1, Res.opt pk70 v15 q13.1]) hp [3, 2, 1, 0] (by decide) (by simp) rfl
  refine wp_loop_pure (f := (f_foghornlaw17_WeaveLooms.s1 l4)) (s := (q1.1, q5.1, q9.1, q13.1, (0 : Int))) (fun s a w => Fr 161 a [(4, vl4), (11, v3), (13, v7), (15, v11), (17, v15), (19, .int .i64 s.2.2.2.2)] ∧ Hp S w0 w (Res.opt (LoomK 75 5) v3 s.1 :: Res.opt (LoomK 75 5) v7 s.2.1 :: Res.opt pk70 v11 s.2.2.1 :: Res.opt pk70 v15 s.2.2.2.1 :: ow)) (fun q e a w => match q with | (Sum.inl q) => e = .exit 0 ∧ Fr 161 a [] ∧ Hp S w0 w (ow) | (Sum.inr q) => e = .ret ∧ Fr 161 a [(10, .bool q)] ∧ Hp S w0 w (ow)) ?_ hl ⟨hf.sub ⟨rfl, rfl, rfl, rfl, rfl, rfl, trivial⟩, hp⟩ ?_
  · clear hl hf hp
    intro s x a w h hI
    obtain ⟨ax11, bx13, m15, n17, i19⟩ := s
    obtain ⟨hf, hp⟩ : Fr 161 a [(4, vl4), (11, v3), (13, v7), (15, v11), (17, v15), (19, .int .i64 i19)] ∧ Hp S w0 w (Res.opt (LoomK 75 5) v3 ax11 :: Res.opt (LoomK 75 5) v7 bx13 :: Res.opt pk70 v11 m15 :: Res.opt pk70 v15 n17 :: ow) := hI
    replace h : f_foghornlaw17_WeaveLooms.s1c l4 ax11 bx13 m15 n17 i19 = some x := h
    unfold f_foghornlaw17_WeaveLooms.s1c at h
    refine wp_seq ?_
    refine wp_seq ?_
    refine wp_reg ?_
    refine st_move hf rfl rfl (by decide) ?_
    clear hf; intro a ha hf; clear ha
    refine st_move hf rfl rfl (by decide) ?_
    clear hf; intro a ha hf; clear ha
    refine st_len (E := (Ek.pair (Ek.int .i64) (Ek.pair (Ek.int .i64) (Ek.pair (Ek.int .u8) Ek.str)))) hf (by decide) Try.underlying44 rfl rfl (hl4.sl hp) ?_
    clear hf; intro a ha hf; clear ha
    refine st_ilss hf (by decide) rfl rfl rfl ?_
    clear hf; intro a ha hf; clear ha
    refine st_move hf rfl rfl (by decide) ?_
    clear hf; intro a ha hf; clear ha
    refine wpList_cut 3 (fun a w => Fr 161 a [(4, vl4), (11, v3), (13, v7), (15, v11), (17, v15), (19, .int .i64 i19), (81, .bool ((decide (i19 < (l4.length : Int))) && (decide (i19 < (300 : Int)))))] ∧ Hp S w0 w (Res.opt (LoomK 75 5) v3 ax11 :: Res.opt (LoomK 75 5) v7 bx13 :: Res.opt pk70 v11 m15 :: Res.opt pk70 v15 n17 :: ow)) ?_ ?_
    · rcases Bool.eq_false_or_eq_true (decide (i19 < (l4.length : Int))) with hb28 | hb28
      · skip
        refine st_move hf (wantY hf rfl rfl hb28) rfl (by decide) ?_
        clear hf; intro a ha hf; clear ha
        refine st_ilss hf (by decide) (wantY hf rfl rfl hb28) rfl rfl ?_
        clear hf; intro a ha hf; clear ha
        refine st_pick (v := .bool (decide (i19 < (300 : Int)))) hf rfl rfl (fun hb' => ?_) (fun hb' => ?_) (by decide) ?_
        · rfl
        · exact absurd (hb28.symm.trans hb') (by decide)
        clear hf; intro a ha hf; clear ha
        refine st_nil hf (th_n ?_)
        exact ⟨hf.sub ⟨rfl, rfl, rfl, rfl, rfl, rfl, (by rw [hb28]; rfl), trivial⟩, hp⟩
      refine st_skip hf (wantN hf rfl rfl hb28) rfl (by decide) ?_ rfl
      clear hf; intro a hf
      refine st_skip hf (wantN hf rfl rfl hb28) rfl (by decide) ?_ rfl
      clear hf; intro a hf
      refine st_pick (v := .bool false) hf rfl rfl (fun hb' => ?_) (fun hb' => ?_) (by decide) ?_
      · exact absurd (hb28.symm.trans hb') (by decide)
      · rfl
      clear hf; intro a ha hf; clear ha
      refine st_nil hf (th_n ?_)
      exact ⟨hf.sub ⟨rfl, rfl, rfl, rfl, rfl, rfl, (by rw [hb28]; rfl), trivial⟩, hp⟩
    rintro a w ⟨hf, hp⟩
    refine st_nil hf ?_
    refine th_n ?_
    refine wp_if hf rfl (fun hb => ?_) (fun hb => ?_)
    · replace h := ifT h hb
      refine wp_skip ?_
      refine th_n ?_
      refine wp_seq ?_
      refine wp_block ?_
      refine wp_seq ?_
      refine wp_reg ?_
      refine st_move hf rfl rfl (by decide) ?_
      clear hf; intro a ha hf; clear ha
      refine st_assign hf rfl rfl (by decide) ?_
      clear hf; intro a ha hf; clear ha
      refine st_nil hf ?_
      refine th_n ?_
      refine wp_seq ?_
      refine wp_reg ?_
      refine st_move hf rfl rfl (by decide) ?_
      clear hf; intro a ha hf; clear ha
      refine st_assign hf rfl rfl (by decide) ?_
      clear hf; intro a ha hf; clear ha
      refine st_nil hf ?_
      refine th_n ?_
      refine wp_seq ?_
      refine wp_seq ?_
      refine wp_reg ?_
      refine st_move hf rfl rfl (by decide) ?_
      clear hf; intro a ha hf; clear ha
      refine st_move hf rfl rfl (by decide) ?_
      clear hf; intro a ha hf; clear ha
      obtain ⟨hc29, h⟩ := chk h
      refine st_index (E := (Ek.pair (Ek.int .i64) (Ek.pair (Ek.int .i64) (Ek.pair (Ek.int .u8) Ek.str)))) hf (by decide) Try.underlying44 elt52 rfl rfl rfl (hl4.sl hp) hc29.1 hc29.2 ?_
      clear hf; intro a ha hf; clear ha
      refine st_faP (off := 1) (sz := 1) hf (by decide) (by kernel_rfl) (by decide) rfl rfl (Sl.isP (hl4.sl hp) hc29.1 hc29.2) ?_
      clear hf; intro a ha hf; clear ha
      refine st_ldQ (F := (Ek.int .i64)) (yv := (gt l4 i19).2.1) hf (by decide) pl3 (fun x => .int .i64 x) (fun _ _ h => h) rfl rfl (Sl.part (E := (Ek.pair (Ek.int .i64) (Ek.pair (Ek.int .i64) (Ek.pair (Ek.int .u8) Ek.str)))) (F := (Ek.int .i64)) (o := 1) (Sub.comp (Sub.snd (E := (Ek.int .i64)) (F := (Ek.pair (Ek.int .i64) (Ek.pair (Ek.int .u8) Ek.str)))) (Sub.fst (E := (Ek.int .i64)) (F := (Ek.pair (Ek.int .u8) Ek.str)))) (hl4.sl hp) hc29.1 hc29.2) ?_
      clear hf; intro a ha hf; clear ha
      refine st_ineq hf (by decide) rfl rfl rfl ?_
      clear hf; intro a ha hf; clear ha
      refine st_nil hf ?_
      refine th_n ?_
      refine wp_if hf rfl (fun hb => ?_) (fun hb => ?_)
      · replace h := ifT h hb
        refine wp_seq ?_
        refine wp_reg ?_
        refine st_move hf rfl rfl (by decide) ?_
        clear hf; intro a ha hf; clear ha
        refine st_assign hf rfl rfl (by decide) ?_
        clear hf; intro a ha hf; clear ha
        refine st_nil hf ?_
        refine th_n ?_
        refine wp_reg ?_
        refine st_move hf rfl rfl (by decide) ?_
        clear hf; intro a ha hf; clear ha
        refine st_assign hf rfl rfl (by decide) ?_
        clear hf; intro a ha hf; clear ha
        refine st_nil hf ?_
        refine th_n ?_
        refine wp_seq ?_
        refine wp_seq ?_
        refine wp_reg ?_
        refine st_move hf rfl rfl (by decide) ?_
        clear hf; intro a ha hf; clear ha
        refine st_peql hf (by decide) Try.underlying48 rfl rfl rfl (hp.nilB (i := 3) rfl) ?_
        clear hf; intro a ha hf; clear ha
        refine st_nil hf ?_
        refine th_n ?_
        refine wp_if hf rfl (fun hb => ?_) (fun hb => ?_)
        · replace h := ifT h hb
          refine wp_exit ?_
          refine th_e ?_
          refine ib_same ?_
          refine th_n ?_
          refine wp_reg ?_
          refine st_move hf rfl rfl (by decide) ?_
          clear hf; intro a ha hf; clear ha
          refine st_iadd hf (by decide) rfl rfl rfl ?_
          clear hf; intro a ha hf; clear ha
          refine st_assign hf rfl rfl (by decide) ?_
          clear hf; intro a ha hf; clear ha
          refine st_nil hf ?_
          obtain rfl := Option.some.inj h
          exact rnd_l ⟨hf.sub ⟨rfl, rfl, rfl, rfl, rfl, rfl, trivial⟩, hp⟩
        replace h := ifF h hb
        obtain ⟨s30, hs31, h⟩ := bnd h
        have hp : Hp _ _ _ (Res.opt pk70 v15 n17 :: Res.opt (LoomK 75 5) v3 ax11 :: Res.opt (LoomK 75 5) v7 bx13 :: Res.opt pk70 v11 m15 :: ow) := Hp.sel (pre := [Res.opt (LoomK 75 5) v3 ax11, Res.opt (LoomK 75 5) v7 bx13, Res.opt pk70 v11 m15, Res.opt pk70 v15 n17]) (tail := ow) (rs' := [Res.opt pk70 v15 n17, Res.opt (LoomK 75 5) v3 ax11, Res.opt (LoomK 75 5) v7 bx13, Res.opt pk70 v11 m15]) hp [3, 0, 1, 2] (by decide) (by simp) rfl
        replace hp : Hp _ _ _ (pk70.R v15 s30 :: Res.opt (LoomK 75 5) v3 ax11 :: Res.opt (LoomK 75 5) v7 bx13 :: Res.opt pk70 v11 m15 :: ow) := hp.optSome hs31
        obtain ⟨⟨v32, v33⟩, hp⟩ := pk70_in hp
        replace hp : Hp _ _ _ (Res.obj 70 v15 [v32, .int .i64 s30.2.1, .int .i64 s30.2.2] :: Res.rows (RowK.sl (Ek.int .u8) 5) 59 v32 v33 s30.1 :: Res.opt (LoomK 75 5) v3 ax11 :: Res.opt (LoomK 75 5) v7 bx13 :: Res.opt pk70 v11 m15 :: ow) := hp
        refine wp_skip ?_
        refine th_n ?_
        refine wp_seq ?_
        refine wp_seq ?_
        refine wp_reg ?_
        refine st_move hf rfl rfl (by decide) ?_
        clear hf; intro a ha hf; clear ha
        refine st_move hf rfl rfl (by decide) ?_
        clear hf; intro a ha hf; clear ha
        obtain ⟨hc35, h⟩ := chk h
        refine st_index (E := (Ek.pair (Ek.int .i64) (Ek.pair (Ek.int .i64) (Ek.pair (Ek.int .u8) Ek.str)))) hf (by decide) Try.underlying44 elt52 rfl rfl rfl (hl4.sl hp) hc35.1 hc35.2 ?_
        clear hf; intro a ha hf; clear ha
        refine st_faP (off := 0) (sz := 1) hf (by decide) (by kernel_rfl) (by decide) rfl rfl (Sl.isP (hl4.sl hp) hc35.1 hc35.2) ?_
        clear hf; intro a ha hf; clear ha
        refine st_ldQ (F := (Ek.int .i64)) (yv := (gt l4 i19).1) hf (by decide) pl3 (fun x => .int .i64 x) (fun _ _ h => h) rfl rfl (Sl.part (E := (Ek.pair (Ek.int .i64) (Ek.pair (Ek.int .i64) (Ek.pair (Ek.int .u8) Ek.str)))) (F := (Ek.int .i64)) (o := 0) (Sub.fst (E := (Ek.int .i64)) (F := (Ek.pair (Ek.int .i64) (Ek.pair (Ek.int .u8) Ek.str)))) (hl4.sl hp) hc35.1 hc35.2) ?_
        clear hf; intro a ha hf; clear ha
        refine st_nil hf ?_
        refine th_n ?_
        refine wp_block ?_
        refine wp_seq ?_
        refine wp_reg ?_
        refine st_ieql hf (by decide) rfl rfl rfl ?_
        clear hf; intro a ha hf; clear ha
        refine st_assign hf rfl rfl (by decide) ?_
        clear hf; intro a ha hf; clear ha
        refine st_nil hf ?_
        refine th_n ?_
        refine wp_if hf rfl (fun hb => ?_) (fun hb => ?_)
        · replace h := ifT h hb
          refine wp_seq ?_
          refine wp_reg ?_
          refine st_move hf rfl rfl (by decide) ?_
          clear hf; intro a ha hf; clear ha
          refine st_move hf rfl rfl (by decide) ?_
          clear hf; intro a ha hf; clear ha
          refine st_move hf rfl rfl (by decide) ?_
          clear hf; intro a ha hf; clear ha
          obtain ⟨hc36, h⟩ := chk h
          refine st_index (E := (Ek.pair (Ek.int .i64) (Ek.pair (Ek.int .i64) (Ek.pair (Ek.int .u8) Ek.str)))) hf (by decide) Try.underlying44 elt52 rfl rfl rfl (hl4.sl hp) hc36.1 hc36.2 ?_
          clear hf; intro a ha hf; clear ha
          refine st_faP (off := 2) (sz := 1) hf (by decide) (by kernel_rfl) (by decide) rfl rfl (Sl.isP (hl4.sl hp) hc36.1 hc36.2) ?_
          clear hf; intro a ha hf; clear ha
          refine st_ldQ (F := (Ek.int .u8)) (yv := (gt l4 i19).2.2.1) hf (by decide) pl5 (fun x => .int .u8 x) (fun _ _ h => h) rfl rfl (Sl.part (E := (Ek.pair (Ek.int .i64) (Ek.pair (Ek.int .i64) (Ek.pair (Ek.int .u8) Ek.str)))) (F := (Ek.int .u8)) (o := 2) (Sub.comp (Sub.snd (E := (Ek.int .i64)) (F := (Ek.pair (Ek.int .i64) (Ek.pair (Ek.int .u8) Ek.str)))) (Sub.comp (Sub.snd (E := (Ek.int .i64)) (F := (Ek.pair (Ek.int .u8) Ek.str))) (Sub.fst (E := (Ek.int .u8)) (F := Ek.str)))) (hl4.sl hp) hc36.1 hc36.2) ?_
          clear hf; intro a ha hf; clear ha
          obtain ⟨q37, hcall38, h⟩ := bnd h
          have hp39 : Hp _ _ _ (Res.opt (LoomK 75 5) v7 bx13 :: Res.obj 70 v15 [v32, .int .i64 s30.2.1, .int .i64 s30.2.2] :: Res.rows (RowK.sl (Ek.int .u8) 5) 59 v32 v33 s30.1 :: Res.opt (LoomK 75 5) v3 ax11 :: Res.opt pk70 v11 m15 :: ow) := Hp.sel (pre := [Res.obj 70 v15 [v32, .int .i64 s30.2.1, .int .i64 s30.2.2], Res.rows (RowK.sl (Ek.int .u8) 5) 59 v32 v33 s30.1, Res.opt (LoomK 75 5) v3 ax11, Res.opt (LoomK 75 5) v7 bx13, Res.opt pk70 v11 m15]) (tail := ow) (rs' := [Res.opt (LoomK 75 5) v7 bx13, Res.obj 70 v15 [v32, .int .i64 s30.2.1, .int .i64 s30.2.2], Res.rows (RowK.sl (Ek.int .u8) 5) 59 v32 v33 s30.1, Res.opt (LoomK 75 5) v3 ax11, Res.opt pk70 v11 m15]) hp [3, 0, 1, 2, 4] (by decide) (by simp) rfl
          refine st_call hf (by decide) Try.func30 rfl rfl rfl rfl rfl (f_weave_Loom_Push_c _ _ _ hp39 hcall38) ?_
          rintro _ w ⟨rfl, hp0⟩
          clear hp; have hp := hp0; clear hp0
          replace hp : Hp _ _ _ (Res.opt (LoomK 75 5) v7 q37.2.2 :: Res.obj 70 v15 [v32, .int .i64 s30.2.1, .int .i64 s30.2.2] :: Res.rows (RowK.sl (Ek.int .u8) 5) 59 v32 v33 s30.1 :: Res.opt (LoomK 75 5) v3 ax11 :: Res.opt pk70 v11 m15 :: ow) := hp
          refine ⟨_, rfl, ?_⟩
          clear hf; intro a hf
          refine st_move hf rfl rfl (by decide) ?_
          clear hf; intro a ha hf; clear ha
          refine st_extract hf (by decide) rfl rfl rfl ?_
          clear hf; intro a ha hf; clear ha
          refine st_extract hf (by decide) rfl rfl rfl ?_
          clear hf; intro a ha hf; clear ha
          refine st_assign hf rfl rfl (by decide) ?_
          clear hf; intro a ha hf; clear ha
          refine st_assign hf rfl rfl (by decide) ?_
          clear hf; intro a ha hf; clear ha
          refine st_nil hf ?_
          refine th_n ?_
          refine wp_seq ?_
          refine wp_reg ?_
          refine st_move hf rfl rfl (by decide) ?_
          clear hf; intro a ha hf; clear ha
          refine st_ineq hf (by decide) rfl rfl rfl ?_
          clear hf; intro a ha hf; clear ha
          refine st_move hf rfl rfl (by decide) ?_
          clear hf; intro a ha hf; clear ha
          obtain ⟨z46, hz40, h⟩ := bnd h
          refine wpList_cut 10 (fun a w => ∃ (v42 : Value) (vs43 : List Value), Fr 161 a [(4, vl4), (11, v3), (13, v7), (15, v11), (17, v15), (19, .int .i64 i19), (20, v7), (21, v15), (125, .bool z46.1)] ∧ Hp S w0 w (Res.rows (RowK.sl (Ek.int .u8) 5) 59 v42 vs43 z46.2.1 :: Res.obj 70 v15 [v42, .int .i64 z46.2.2.1, .int .i64 z46.2.2.2] :: Res.opt (LoomK 75 5) v3 ax11 :: Res.opt (LoomK 75 5) v7 q37.2.2 :: Res.opt pk70 v11 m15 :: ow)) ?_ ?_
          · rcases Bool.eq_false_or_eq_true (q37.2.1 != (0 : Int)) with hb41 | hb41
            · skip
              replace hz40 := ifT hz40 hb41
              refine st_skip hf (wantN hf rfl rfl hb41) rfl (by decide) ?_ rfl
              clear hf; intro a hf
              refine st_skip hf (wantN hf rfl rfl hb41) rfl (by decide) ?_ rfl
              clear hf; intro a hf
              refine st_skip hf (wantN hf rfl rfl hb41) rfl (by decide) ?_ rfl
              clear hf; intro a hf
              refine st_skip hf (wantN hf rfl rfl hb41) rfl (by decide) ?_ rfl
              clear hf; intro a hf
              refine st_skip hf (wantN hf rfl rfl hb41) rfl (by decide) ?_ rfl
              clear hf; intro a hf
              refine st_skip hf (wantN hf rfl rfl hb41) rfl (by decide) ?_ rfl
              clear hf; intro a hf
              refine st_skip hf (wantN hf rfl rfl hb41) rfl (by decide) ?_ rfl
              clear hf; intro a hf
              refine st_skip hf (wantN hf rfl rfl hb41) rfl (by decide) ?_ rfl
              clear hf; intro a hf
              refine st_skip hf (wantN hf rfl rfl hb41) rfl (by decide) ?_ rfl
              clear hf; intro a hf
              obtain rfl := Option.some.inj hz40
              have hp : Hp _ _ _ (Res.rows (RowK.sl (Ek.int .u8) 5) 59 v32 v33 s30.1 :: Res.obj 70 v15 [v32, .int .i64 s30.2.1, .int .i64 s30.2.2] :: Res.opt (LoomK 75 5) v3 ax11 :: Res.opt (LoomK 75 5) v7 q37.2.2 :: Res.opt pk70 v11 m15 :: ow) := Hp.sel (pre := [Res.opt (LoomK 75 5) v7 q37.2.2, Res.obj 70 v15 [v32, .int .i64 s30.2.1, .int .i64 s30.2.2], Res.rows (RowK.sl (Ek.int .u8) 5) 59 v32 v33 s30.1, Res.opt (LoomK 75 5) v3 ax11, Res.opt pk70 v11 m15]) (tail := ow) (rs' := [Res.rows (RowK.sl (Ek.int .u8) 5) 59 v32 v33 s30.1, Res.obj 70 v15 [v32, .int .i64 s30.2.1, .int .i64 s30.2.2], Res.opt (LoomK 75 5) v3 ax11, Res.opt (LoomK 75 5) v7 q37.2.2, Res.opt pk70 v11 m15]) hp [2, 1, 3, 0, 4] (by decide) (by simp) rfl
              refine st_pick (v := .bool true) hf rfl rfl (fun hb' => ?_) (fun hb' => ?_) (by decide) ?_
              · rfl
              · exact absurd (hb41.symm.trans hb') (by decide)
              clear hf; intro a ha hf; clear ha
              refine st_nil hf (th_n ?_)
              exact ⟨_, _, hf.sub ⟨rfl, rfl, rfl, rfl, rfl, rfl, rfl, rfl, rfl, trivial⟩, hp⟩
            replace hz40 := ifF hz40 hb41
            refine st_move hf (wantY hf rfl rfl hb41) rfl (by decide) ?_
            clear hf; intro a ha hf; clear ha
            refine st_move hf (wantY hf rfl rfl hb41) rfl (by decide) ?_
            clear hf; intro a ha hf; clear ha
            refine st_move hf (wantY hf rfl rfl hb41) rfl (by decide) ?_
            clear hf; intro a ha hf; clear ha
            refine st_move hf (wantY hf rfl rfl hb41) rfl (by decide) ?_
            clear hf; intro a ha hf; clear ha
            obtain ⟨hc47, hz40⟩ := chk hz40
            refine st_index (E := (Ek.pair (Ek.int .i64) (Ek.pair (Ek.int .i64) (Ek.pair (Ek.int .u8) Ek.str)))) hf (by decide) Try.underlying44 elt52 (wantY hf rfl rfl hb41) rfl rfl (hl4.sl hp) hc47.1 hc47.2 ?_
            clear hf; intro a ha hf; clear ha
            refine st_faP (off := 2) (sz := 1) hf (by decide) (by kernel_rfl) (by decide) (wantY hf rfl rfl hb41) rfl (Sl.isP (hl4.sl hp) hc47.1 hc47.2) ?_
            clear hf; intro a ha hf; clear ha
            refine st_ldQ (F := (Ek.int .u8)) (yv := (gt l4 i19).2.2.1) hf (by decide) pl5 (fun x => .int .u8 x) (fun _ _ h => h) (wantY hf rfl rfl hb41) rfl (Sl.part (E := (Ek.pair (Ek.int .i64) (Ek.pair (Ek.int .i64) (Ek.pair (Ek.int .u8) Ek.str)))) (F := (Ek.int .u8)) (o := 2) (Sub.comp (Sub.snd (E := (Ek.int .i64)) (F := (Ek.pair (Ek.int .i64) (Ek.pair (Ek.int .u8) Ek.str)))) (Sub.comp (Sub.snd (E := (Ek.int .i64)) (F := (Ek.pair (Ek.int .u8) Ek.str))) (Sub.fst (E := (Ek.int .u8)) (F := Ek.str)))) (hl4.sl hp) hc47.1 hc47.2) ?_
            clear hf; intro a ha hf; clear ha
            obtain ⟨q48, hcall49, hz40⟩ := bnd hz40
            have hp50 : Hp _ _ _ (Res.rows (RowK.sl (Ek.int .u8) 5) 59 v32 v33 s30.1 :: Res.obj 70 v15 [v32, .int .i64 s30.2.1, .int .i64 s30.2.2] :: Res.opt (LoomK 75 5) v7 q37.2.2 :: Res.opt (LoomK 75 5) v3 ax11 :: Res.opt pk70 v11 m15 :: ow) := Hp.sel (pre := [Res.opt (LoomK 75 5) v7 q37.2.2, Res.obj 70 v15 [v32, .int .i64 s30.2.1, .int .i64 s30.2.2], Res.rows (RowK.sl (Ek.int .u8) 5) 59 v32 v33 s30.1, Res.opt (LoomK 75 5) v3 ax11, Res.opt pk70 v11 m15]) (tail := ow) (rs' := [Res.rows (RowK.sl (Ek.int .u8) 5) 59 v32 v33 s30.1, Res.obj 70 v15 [v32, .int .i64 s30.2.1, .int .i64 s30.2.2], Res.opt (LoomK 75 5) v7 q37.2.2, Res.opt (LoomK 75 5) v3 ax11, Res.opt pk70 v11 m15]) hp [2, 1, 0, 3, 4] (by decide) (by simp) rfl
            refine st_call hf (by decide) Try.func31 rfl rfl (wantY hf rfl rfl hb41) rfl rfl (f_foghornref17_Loom_Push_c _ _ _ _ _ _ _ hp50 hcall49) ?_
            rintro _ w ⟨v51, v52, rfl, hp0⟩
            clear hp; have hp := hp0; clear hp0
            replace hp : Hp _ _ _ (Res.rows (RowK.sl (Ek.int .u8) 5) 59 v51 v52 q48.2.1 :: Res.obj 70 v15 [v51, .int .i64 q48.2.2.1, .int .i64 q48.2.2.2] :: Res.opt (LoomK 75 5) v7 q37.2.2 :: Res.opt (LoomK 75 5) v3 ax11 :: Res.opt pk70 v11 m15 :: ow) := hp
            refine ⟨_, rfl, ?_⟩
            clear hf; intro a hf
            refine st_ineq hf (by decide) (wantY hf rfl rfl hb41) rfl rfl ?_
            clear hf; intro a ha hf; clear ha
            obtain rfl := Option.some.inj hz40
            have hp : Hp _ _ _ (Res.rows (RowK.sl (Ek.int .u8) 5) 59 v51 v52 q48.2.1 :: Res.obj 70 v15 [v51, .int .i64 q48.2.2.1, .int .i64 q48.2.2.2] :: Res.opt (LoomK 75 5) v3 ax11 :: Res.opt (LoomK 75 5) v7 q37.2.2 :: Res.opt pk70 v11 m15 :: ow) := Hp.sel (pre := [Res.rows (RowK.sl (Ek.int .u8) 5) 59 v51 v52 q48.2.1, Res.obj 70 v15 [v51, .int .i64 q48.2.2.1, .int .i64 q48.2.2.2], Res.opt (LoomK 75 5) v7 q37.2.2, Res.opt (LoomK 75 5) v3 ax11, Res.opt pk70 v11 m15]) (tail := ow) (rs' := [Res.rows (RowK.sl (Ek.int .u8) 5) 59 v51 v52 q48.2.1, Res.obj 70 v15 [v51, .int .i64 q48.2.2.1, .int .i64 q48.2.2.2], Res.opt (LoomK 75 5) v3 ax11, Res.opt (LoomK 75 5) v7 q37.2.2, Res.opt pk70 v11 m15]) hp [0, 1, 3, 2, 4] (by decide) (by simp) rfl
            refine st_pick (v := .bool (q37.1 != q48.1)) hf rfl rfl (fun hb' => ?_) (fun hb' => ?_) (by decide) ?_
            · exact absurd (hb41.symm.trans hb') (by decide)
            · rfl
            clear hf; intro a ha hf; clear ha
            refine st_nil hf (th_n ?_)
            exact ⟨_, _, hf.sub ⟨rfl, rfl, rfl, rfl, rfl, rfl, rfl, rfl, rfl, trivial⟩, hp⟩
          rintro a w ⟨v42, vs43, hf, hp⟩
          refine st_nil hf ?_
          refine th_n ?_
          refine wp_if hf rfl (fun hb => ?_) (fun hb => ?_)
          · replace h := ifT h hb
            refine wp_seq ?_
            refine wp_reg ?_
            refine st_assign hf rfl rfl (by decide) ?_
            clear hf; intro a ha hf; clear ha
            refine st_nil hf ?_
            refine th_n ?_
            refine wp_ret ?_
            refine ib_r ?_
            refine th_r ?_
            refine ib_r ?_
            refine th_r ?_
            obtain rfl := Option.some.inj h
            have hp : Hp _ _ _ (ow) := Hp.sel (pre := [Res.rows (RowK.sl (Ek.int .u8) 5) 59 v42 vs43 z46.2.1, Res.obj 70 v15 [v42, .int .i64 z46.2.2.1, .int .i64 z46.2.2.2], Res.opt (LoomK 75 5) v3 ax11, Res.opt (LoomK 75 5) v7 q37.2.2, Res.opt pk70 v11 m15]) (tail := ow) (rs' := []) hp [] (by decide) (by simp) rfl
            exact rnd_r (by simp) ⟨rfl, ⟨hf.sub ⟨rfl, trivial⟩, hp⟩⟩
          replace h := ifF h hb
          refine wp_skip ?_
          refine ib_n ?_
          refine th_n ?_
          refine wp_seq ?_
          refine wp_reg ?_
          refine st_move hf rfl rfl (by decide) ?_
          clear hf; intro a ha hf; clear ha
          obtain ⟨q54, hcall55, h⟩ := bnd h
          have hp56 : Hp _ _ _ (Res.opt (LoomK 75 5) v7 q37.2.2 :: Res.rows (RowK.sl (Ek.int .u8) 5) 59 v42 vs43 z46.2.1 :: Res.obj 70 v15 [v42, .int .i64 z46.2.2.1, .int .i64 z46.2.2.2] :: Res.opt (LoomK 75 5) v3 ax11 :: Res.opt pk70 v11 m15 :: ow) := Hp.sel (pre := [Res.rows (RowK.sl (Ek.int .u8) 5) 59 v42 vs43 z46.2.1, Res.obj 70 v15 [v42, .int .i64 z46.2.2.1, .int .i64 z46.2.2.2], Res.opt (LoomK 75 5) v3 ax11, Res.opt (LoomK 75 5) v7 q37.2.2, Res.opt pk70 v11 m15]) (tail := ow) (rs' := [Res.opt (LoomK 75 5) v7 q37.2.2, Res.rows (RowK.sl (Ek.int .u8) 5) 59 v42 vs43 z46.2.1, Res.obj 70 v15 [v42, .int .i64 z46.2.2.1, .int .i64 z46.2.2.2], Res.opt (LoomK 75 5) v3 ax11, Res.opt pk70 v11 m15]) hp [3, 0, 1, 2, 4] (by decide) (by simp) rfl
          refine st_call hf (by decide) Try.func34 rfl rfl rfl rfl rfl (f_weave_Loom_Delay_c _ _ hp56 hcall55) ?_
          rintro _ w ⟨rfl, hp0⟩
          clear hp; have hp := hp0; clear hp0
          replace hp : Hp _ _ _ (Res.opt (LoomK 75 5) v7 q37.2.2 :: Res.rows (RowK.sl (Ek.int .u8) 5) 59 v42 vs43 z46.2.1 :: Res.obj 70 v15 [v42, .int .i64 z46.2.2.1, .int .i64 z46.2.2.2] :: Res.opt (LoomK 75 5) v3 ax11 :: Res.opt pk70 v11 m15 :: ow) := hp
          refine ⟨_, rfl, ?_⟩
          clear hf; intro a hf
          refine st_move hf rfl rfl (by decide) ?_
          clear hf; intro a ha hf; clear ha
          obtain ⟨q57, hcall58, h⟩ := bnd h
          obtain ⟨S59, hp60, rd61, up62, bk63⟩ := Hp.lendR hp (i := 1) rfl
          obtain ⟨S64, hp65, rd66, up67, bk68⟩ := Hp.lendO hp60 (i := 1) rfl
          refine st_call hf (by decide) Try.func35 rfl rfl rfl rfl rfl (f_foghornref17_Loom_Delay_c hp65 _ _ _ ((rd61.now hp60).mono up67) _ _ _ rd66 hcall58) ?_
          rintro _ w ⟨rfl, hp0⟩
          have hp0 := bk68 _ _ hp0
          have hp0 := bk63 _ _ hp0
          clear hp; have hp := hp0; clear hp0
          replace hp : Hp _ _ _ (Res.rows (RowK.sl (Ek.int .u8) 5) 59 v42 vs43 z46.2.1 :: Res.obj 70 v15 [v42, .int .i64 z46.2.2.1, .int .i64 z46.2.2.2] :: Res.opt (LoomK 75 5) v7 q37.2.2 :: Res.opt (LoomK 75 5) v3 ax11 :: Res.opt pk70 v11 m15 :: ow) := hp
          refine ⟨_, rfl, ?_⟩
          clear hf; intro a hf
          refine st_ineq hf (by decide) rfl rfl rfl ?_
          clear hf; intro a ha hf; clear ha
          refine st_nil hf ?_
          refine th_n ?_
          refine wp_if hf rfl (fun hb => ?_) (fun hb => ?_)
          · replace h := ifT h hb
            refine wp_seq ?_
            refine wp_reg ?_
            refine st_assign hf rfl rfl (by decide) ?_
            clear hf; intro a ha hf; clear ha
            refine st_nil hf ?_
            refine th_n ?_
            refine wp_ret ?_
            refine ib_r ?_
            refine th_r ?_
            obtain rfl := Option.some.inj h
            have hp : Hp _ _ _ (ow) := Hp.sel (pre := [Res.rows (RowK.sl (Ek.int .u8) 5) 59 v42 vs43 z46.2.1, Res.obj 70 v15 [v42, .int .i64 z46.2.2.1, .int .i64 z46.2.2.2], Res.opt (LoomK 75 5) v7 q37.2.2, Res.opt (LoomK 75 5) v3 ax11, Res.opt pk70 v11 m15]) (tail := ow) (rs' := []) hp [] (by decide) (by simp) rfl
            exact rnd_r (by simp) ⟨rfl, ⟨hf.sub ⟨rfl, trivial⟩, hp⟩⟩
          replace h := ifF h hb
          refine wp_skip ?_
          refine ib_n ?_
          refine th_n ?_
          refine wp_reg ?_
          refine st_move hf rfl rfl (by decide) ?_
          clear hf; intro a ha hf; clear ha
          refine st_iadd hf (by decide) rfl rfl rfl ?_
          clear hf; intro a ha hf; clear ha
          refine st_assign hf rfl rfl (by decide) ?_
          clear hf; intro a ha hf; clear ha
          refine st_nil hf ?_
          have hp : Hp _ _ _ (Res.obj 70 v15 [v42, .int .i64 z46.2.2.1, .int .i64 z46.2.2.2] :: Res.rows (RowK.sl (Ek.int .u8) 5) 59 v42 vs43 z46.2.1 :: Res.opt (LoomK 75 5) v7 q37.2.2 :: Res.opt (LoomK 75 5) v3 ax11 :: Res.opt pk70 v11 m15 :: ow) := Hp.sel (pre := [Res.rows (RowK.sl (Ek.int .u8) 5) 59 v42 vs43 z46.2.1, Res.obj 70 v15 [v42, .int .i64 z46.2.2.1, .int .i64 z46.2.2.2], Res.opt (LoomK 75 5) v7 q37.2.2, Res.opt (LoomK 75 5) v3 ax11, Res.opt pk70 v11 m15]) (tail := ow) (rs' := [Res.obj 70 v15 [v42, .int .i64 z46.2.2.1, .int .i64 z46.2.2.2], Res.rows (RowK.sl (Ek.int .u8) 5) 59 v42 vs43 z46.2.1, Res.opt (LoomK 75 5) v7 q37.2.2, Res.opt (LoomK 75 5) v3 ax11, Res.opt pk70 v11 m15]) hp [1, 0, 2, 3, 4] (by decide) (by simp) rfl
          replace hp : Hp _ _ _ (Res.opt pk70 v15 (some (z46.2.1, z46.2.2.1, z46.2.2.2)) :: Res.opt (LoomK 75 5) v7 q37.2.2 :: Res.opt (LoomK 75 5) v3 ax11 :: Res.opt pk70 v11 m15 :: ow) := pk70_out (s := (z46.2.1, z46.2.2.1, z46.2.2.2)) (u := (v42, vs43)) hp
          obtain rfl := Option.some.inj h
          have hp : Hp _ _ _ (Res.opt (LoomK 75 5) v3 ax11 :: Res.opt (LoomK 75 5) v7 q37.2.2 :: Res.opt pk70 v11 m15 :: Res.opt pk70 v15 (some (z46.2.1, z46.2.2.1, z46.2.2.2)) :: ow) := Hp.sel (pre := [Res.opt pk70 v15 (some (z46.2.1, z46.2.2.1, z46.2.2.2)), Res.opt (LoomK 75 5) v7 q37.2.2, Res.opt (LoomK 75 5) v3 ax11, Res.opt pk70 v11 m15]) (tail := ow) (rs' := [Res.opt (LoomK 75 5) v3 ax11, Res.opt (LoomK 75 5) v7 q37.2.2, Res.opt pk70 v11 m15, Res.opt pk70 v15 (some (z46.2.1, z46.2.2.1, z46.2.2.2))]) hp [2, 1, 3, 0] (by decide) (by simp) rfl
          exact rnd_l ⟨hf.sub ⟨rfl, rfl, rfl, rfl, rfl, rfl, trivial⟩, hp⟩
        replace h := ifF h hb
        refine wp_seq ?_
        refine wp_reg ?_
        refine st_ieql hf (by decide) rfl rfl rfl ?_
        clear hf; intro a ha hf; clear ha
        refine st_assign hf rfl rfl (by decide) ?_
        clear hf; intro a ha hf; clear ha
        refine st_nil hf ?_
        refine th_n ?_
        refine wp_if hf rfl (fun hb => ?_) (fun hb => ?_)
        · replace h := ifT h hb
          refine wp_seq ?_
          refine wp_reg ?_
          refine st_move hf rfl rfl (by decide) ?_
          clear hf; intro a ha hf; clear ha
          refine st_move hf rfl rfl (by decide) ?_
          clear hf; intro a ha hf; clear ha
          refine st_move hf rfl rfl (by decide) ?_
          clear hf; intro a ha hf; clear ha
          obtain ⟨hc69, h⟩ := chk h
          refine st_index (E := (Ek.pair (Ek.int .i64) (Ek.pair (Ek.int .i64) (Ek.pair (Ek.int .u8) Ek.str)))) hf (by decide) Try.underlying44 elt52 rfl rfl rfl (hl4.sl hp) hc69.1 hc69.2 ?_
          clear hf; intro a ha hf; clear ha
          refine st_faP (off := 3) (sz := 1) hf (by decide) (by kernel_rfl) (by decide) rfl rfl (Sl.isP (hl4.sl hp) hc69.1 hc69.2) ?_
          clear hf; intro a ha hf; clear ha
          refine st_ldQ (F := Ek.str) (yv := (gt l4 i19).2.2.2) hf (by decide) pl9 (fun x => .string x) (fun _ _ h => h) rfl rfl (Sl.part (E := (Ek.pair (Ek.int .i64) (Ek.pair (Ek.int .i64) (Ek.pair (Ek.int .u8) Ek.str)))) (F := Ek.str) (o := 3) (Sub.comp (Sub.snd (E := (Ek.int .i64)) (F := (Ek.pair (Ek.int .i64) (Ek.pair (Ek.int .u8) Ek.str)))) (Sub.comp (Sub.snd (E := (Ek.int .i64)) (F := (Ek.pair (Ek.int .u8) Ek.str))) (Sub.snd (E := (Ek.int .u8)) (F := Ek.str)))) (hl4.sl hp) hc69.1 hc69.2) ?_
          clear hf; intro a ha hf; clear ha
          obtain ⟨q70, hcall71, h⟩ := bnd h
          have hp72 : Hp _ _ _ (Res.opt (LoomK 75 5) v7 bx13 :: Res.obj 70 v15 [v32, .int .i64 s30.2.1, .int .i64 s30.2.2] :: Res.rows (RowK.sl (Ek.int .u8) 5) 59 v32 v33 s30.1 :: Res.opt (LoomK 75 5) v3 ax11 :: Res.opt pk70 v11 m15 :: ow) := Hp.sel (pre := [Res.obj 70 v15 [v32, .int .i64 s30.2.1, .int .i64 s30.2.2], Res.rows (RowK.sl (Ek.int .u8) 5) 59 v32 v33 s30.1, Res.opt (LoomK 75 5) v3 ax11, Res.opt (LoomK 75 5) v7 bx13, Res.opt pk70 v11 m15]) (tail := ow) (rs' := [Res.opt (LoomK 75 5) v7 bx13, Res.obj 70 v15 [v32, .int .i64 s30.2.1, .int .i64 s30.2.2], Res.rows (RowK.sl (Ek.int .u8) 5) 59 v32 v33 s30.1, Res.opt (LoomK 75 5) v3 ax11, Res.opt pk70 v11 m15]) hp [3, 0, 1, 2, 4] (by decide) (by simp) rfl
          refine st_call hf (by decide) Try.func32 rfl rfl rfl rfl rfl (f_weave_Loom_Run_c _ _ _ hp72 hcall71) ?_
          rintro _ w ⟨rfl, hp0⟩
          clear hp; have hp := hp0; clear hp0
          replace hp : Hp _ _ _ (Res.opt (LoomK 75 5) v7 q70.2.2 :: Res.obj 70 v15 [v32, .int .i64 s30.2.1, .int .i64 s30.2.2] :: Res.rows (RowK.sl (Ek.int .u8) 5) 59 v32 v33 s30.1 :: Res.opt (LoomK 75 5) v3 ax11 :: Res.opt pk70 v11 m15 :: ow) := hp
          refine ⟨_, rfl, ?_⟩
          clear hf; intro a hf
          refine st_move hf rfl rfl (by decide) ?_
          clear hf; intro a ha hf; clear ha
          refine st_extract hf (by decide) rfl rfl rfl ?_
          clear hf; intro a ha hf; clear ha
          refine st_extract hf (by decide) rfl rfl rfl ?_
          clear hf; intro a ha hf; clear ha
          refine st_assign hf rfl rfl (by decide) ?_
          clear hf; intro a ha hf; clear ha
          refine st_assign hf rfl rfl (by decide) ?_
          clear hf; intro a ha hf; clear ha
          refine st_nil hf ?_
          refine th_n ?_
          refine wp_seq ?_
          refine wp_reg ?_
          refine st_move hf rfl rfl (by decide) ?_
          clear hf; intro a ha hf; clear ha
          refine st_move hf rfl rfl (by decide) ?_
          clear hf; intro a ha hf; clear ha
          refine st_move hf rfl rfl (by decide) ?_
          clear hf; intro a ha hf; clear ha
          obtain ⟨hc73, h⟩ := chk h
          refine st_index (E := (Ek.pair (Ek.int .i64) (Ek.pair (Ek.int .i64) (Ek.pair (Ek.int .u8) Ek.str)))) hf (by decide) Try.underlying44 elt52 rfl rfl rfl (hl4.sl hp) hc73.1 hc73.2 ?_
          clear hf; intro a ha hf; clear ha
          refine st_faP (off := 3) (sz := 1) hf (by decide) (by kernel_rfl) (by decide) rfl rfl (Sl.isP (hl4.sl hp) hc73.1 hc73.2) ?_
          clear hf; intro a ha hf; clear ha
          refine st_ldQ (F := Ek.str) (yv := (gt l4 i19).2.2.2) hf (by decide) pl9 (fun x => .string x) (fun _ _ h => h) rfl rfl (Sl.part (E := (Ek.pair (Ek.int .i64) (Ek.pair (Ek.int .i64) (Ek.pair (Ek.int .u8) Ek.str)))) (F := Ek.str) (o := 3) (Sub.comp (Sub.snd (E := (Ek.int .i64)) (F := (Ek.pair (Ek.int .i64) (Ek.pair (Ek.int .u8) Ek.str)))) (Sub.comp (Sub.snd (E := (Ek.int .i64)) (F := (Ek.pair (Ek.int .u8) Ek.str))) (Sub.snd (E := (Ek.int .u8)) (F := Ek.str)))) (hl4.sl hp) hc73.1 hc73.2) ?_
          clear hf; intro a ha hf; clear ha
          obtain ⟨q74, hcall75, h⟩ := bnd h
          have hp76 : Hp _ _ _ (Res.rows (RowK.sl (Ek.int .u8) 5) 59 v32 v33 s30.1 :: Res.obj 70 v15 [v32, .int .i64 s30.2.1, .int .i64 s30.2.2] :: Res.opt (LoomK 75 5) v7 q70.2.2 :: Res.opt (LoomK 75 5) v3 ax11 :: Res.opt pk70 v11 m15 :: ow) := Hp.sel (pre := [Res.opt (LoomK 75 5) v7 q70.2.2, Res.obj 70 v15 [v32, .int .i64 s30.2.1, .int .i64 s30.2.2], Res.rows (RowK.sl (Ek.int .u8) 5) 59 v32 v33 s30.1, Res.opt (LoomK 75 5) v3 ax11, Res.opt pk70 v11 m15]) (tail := ow) (rs' := [Res.rows (RowK.sl (Ek.int .u8) 5) 59 v32 v33 s30.1, Res.obj 70 v15 [v32, .int .i64 s30.2.1, .int .i64 s30.2.2], Res.opt (LoomK 75 5) v7 q70.2.2, Res.opt (LoomK 75 5) v3 ax11, Res.opt pk70 v11 m15]) hp [2, 1, 0, 3, 4] (by decide) (by simp) rfl
          refine st_call hf (by decide) Try.func33 rfl rfl rfl rfl rfl (f_foghornref17_Loom_Run_c _ _ _ _ _ _ _ hp76 hcall75) ?_
          rintro _ w ⟨v77, v78, rfl, hp0⟩
          clear hp; have hp := hp0; clear hp0
          replace hp : Hp _ _ _ (Res.rows (RowK.sl (Ek.int .u8) 5) 59 v77 v78 q74.2.2.1 :: Res.obj 70 v15 [v77, .int .i64 q74.2.2.2.1, .int .i64 q74.2.2.2.2] :: Res.opt (LoomK 75 5) v7 q70.2.2 :: Res.opt (LoomK 75 5) v3 ax11 :: Res.opt pk70 v11 m15 :: ow) := hp
          refine ⟨_, rfl, ?_⟩
          clear hf; intro a hf
          refine st_move hf rfl rfl (by decide) ?_
          clear hf; intro a ha hf; clear ha
          refine st_extract hf (by decide) rfl rfl rfl ?_
          clear hf; intro a ha hf; clear ha
          refine st_extract hf (by decide) rfl rfl rfl ?_
          clear hf; intro a ha hf; clear ha
          refine st_assign hf rfl rfl (by decide) ?_
          clear hf; intro a ha hf; clear ha
          refine st_assign hf rfl rfl (by decide) ?_
          clear hf; intro a ha hf; clear ha
          refine st_nil hf ?_
          refine th_n ?_
          refine wp_seq ?_
          refine wp_reg ?_
          refine st_move hf rfl rfl (by decide) ?_
          clear hf; intro a ha hf; clear ha
          refine st_move hf rfl rfl (by decide) ?_
          clear hf; intro a ha hf; clear ha
          refine st_sneq hf (by decide) rfl rfl rfl ?_
          clear hf; intro a ha hf; clear ha
          refine st_move hf rfl rfl (by decide) ?_
          clear hf; intro a ha hf; clear ha
          refine wpList_cut 4 (fun a w => Fr 161 a [(4, vl4), (11, v3), (13, v7), (15, v11), (17, v15), (19, .int .i64 i19), (20, v7), (21, v15), (155, .bool ((!seq q70.1 q74.1) || (q70.2.1 != q74.2.1)))] ∧ Hp S w0 w (Res.rows (RowK.sl (Ek.int .u8) 5) 59 v77 v78 q74.2.2.1 :: Res.obj 70 v15 [v77, .int .i64 q74.2.2.2.1, .int .i64 q74.2.2.2.2] :: Res.opt (LoomK 75 5) v7 q70.2.2 :: Res.opt (LoomK 75 5) v3 ax11 :: Res.opt pk70 v11 m15 :: ow)) ?_ ?_
          · rcases Bool.eq_false_or_eq_true (!seq q70.1 q74.1) with hb81 | hb81
            · skip
              refine st_skip hf (wantN hf rfl rfl hb81) rfl (by decide) ?_ rfl
              clear hf; intro a hf
              refine st_skip hf (wantN hf rfl rfl hb81) rfl (by decide) ?_ rfl
              clear hf; intro a hf
              refine st_skip hf (wantN hf rfl rfl hb81) rfl (by decide) ?_ rfl
              clear hf; intro a hf
              refine st_pick (v := .bool true) hf rfl rfl (fun hb' => ?_) (fun hb' => ?_) (by decide) ?_
              · rfl
              · exact absurd (hb81.symm.trans hb') (by decide)
              clear hf; intro a ha hf; clear ha
              refine st_nil hf (th_n ?_)
              exact ⟨hf.sub ⟨rfl, rfl, rfl, rfl, rfl, rfl, rfl, rfl, (by rw [hb81]; rfl), trivial⟩, hp⟩
            refine st_move hf (wantY hf rfl rfl hb81) rfl (by decide) ?_
            clear hf; intro a ha hf; clear ha
            refine st_move hf (wantY hf rfl rfl hb81) rfl (by decide) ?_
            clear hf; intro a ha hf; clear ha
            refine st_ineq hf (by decide) (wantY hf rfl rfl hb81) rfl rfl ?_
            clear hf; intro a ha hf; clear ha
            refine st_pick (v := .bool (q70.2.1 != q74.2.1)) hf rfl rfl (fun hb' => ?_) (fun hb' => ?_) (by decide) ?_
            · exact absurd (hb81.symm.trans hb') (by decide)
            · rfl
            clear hf; intro a ha hf; clear ha
            refine st_nil hf (th_n ?_)
            exact ⟨hf.sub ⟨rfl, rfl, rfl, rfl, rfl, rfl, rfl, rfl, (by rw [hb81]; rfl), trivial⟩, hp⟩
          rintro a w ⟨hf, hp⟩
          refine st_nil hf ?_
          refine th_n ?_
          refine wp_if hf rfl (fun hb => ?_) (fun hb => ?_)
          · replace h := ifT h hb
            refine wp_seq ?_
            refine wp_reg ?_
            refine st_assign hf rfl rfl (by decide) ?_
            clear hf; intro a ha hf; clear ha
            refine st_nil hf ?_
            refine th_n ?_
            refine wp_ret ?_
            refine ib_r ?_
            refine th_r ?_
            refine ib_r ?_
            refine th_r ?_
            obtain rfl := Option.some.inj h
            have hp : Hp _ _ _ (ow) := Hp.sel (pre := [Res.rows (RowK.sl (Ek.int .u8) 5) 59 v77 v78 q74.2.2.1, Res.obj 70 v15 [v77, .int .i64 q74.2.2.2.1, .int .i64 q74.2.2.2.2], Res.opt (LoomK 75 5) v7 q70.2.2, Res.opt (LoomK 75 5) v3 ax11, Res.opt pk70 v11 m15]) (tail := ow) (rs' := []) hp [] (by decide) (by simp) rfl
            exact rnd_r (by simp) ⟨rfl, ⟨hf.sub ⟨rfl, trivial⟩, hp⟩⟩
          replace h := ifF h hb
          refine wp_skip ?_
          refine ib_n ?_
          refine th_n ?_
          refine wp_seq ?_
          refine wp_reg ?_
          refine st_move hf rfl rfl (by decide) ?_
          clear hf; intro a ha hf; clear ha
          obtain ⟨q82, hcall83, h⟩ := bnd h
          have hp84 : Hp _ _ _ (Res.opt (LoomK 75 5) v7 q70.2.2 :: Res.rows (RowK.sl (Ek.int .u8) 5) 59 v77 v78 q74.2.2.1 :: Res.obj 70 v15 [v77, .int .i64 q74.2.2.2.1, .int .i64 q74.2.2.2.2] :: Res.opt (LoomK 75 5) v3 ax11 :: Res.opt pk70 v11 m15 :: ow) := Hp.sel (pre := [Res.rows (RowK.sl (Ek.int .u8) 5) 59 v77 v78 q74.2.2.1, Res.obj 70 v15 [v77, .int .i64 q74.2.2.2.1, .int .i64 q74.2.2.2.2], Res.opt (LoomK 75 5) v7 q70.2.2, Res.opt (LoomK 75 5) v3 ax11, Res.opt pk70 v11 m15]) (tail := ow) (rs' := [Res.opt (LoomK 75 5) v7 q70.2.2, Res.rows (RowK.sl (Ek.int .u8) 5) 59 v77 v78 q74.2.2.1, Res.obj 70 v15 [v77, .int .i64 q74.2.2.2.1, .int .i64 q74.2.2.2.2], Res.opt (LoomK 75 5) v3 ax11, Res.opt pk70 v11 m15]) hp [2, 0, 1, 3, 4] (by decide) (by simp) rfl
          refine st_call hf (by decide) Try.func34 rfl rfl rfl rfl rfl (f_weave_Loom_Delay_c _ _ hp84 hcall83) ?_
          rintro _ w ⟨rfl, hp0⟩
          clear hp; have hp := hp0; clear hp0
          replace hp : Hp _ _ _ (Res.opt (LoomK 75 5) v7 q70.2.2 :: Res.rows (RowK.sl (Ek.int .u8) 5) 59 v77 v78 q74.2.2.1 :: Res.obj 70 v15 [v77, .int .i64 q74.2.2.2.1, .int .i64 q74.2.2.2.2] :: Res.opt (LoomK 75 5) v3 ax11 :: Res.opt pk70 v11 m15 :: ow) := hp
          refine ⟨_, rfl, ?_⟩
          clear hf; intro a hf
          refine st_move hf rfl rfl (by decide) ?_
          clear hf; intro a ha hf; clear ha
          obtain ⟨q85, hcall86, h⟩ := bnd h
          obtain ⟨S87, hp88, rd89, up90, bk91⟩ := Hp.lendR hp (i := 1) rfl
          obtain ⟨S92, hp93, rd94, up95, bk96⟩ := Hp.lendO hp88 (i := 1) rfl
          refine st_call hf (by decide) Try.func35 rfl rfl rfl rfl rfl (f_foghornref17_Loom_Delay_c hp93 _ _ _ ((rd89.now hp88).mono up95) _ _ _ rd94 hcall86) ?_
          rintro _ w ⟨rfl, hp0⟩
          have hp0 := bk96 _ _ hp0
          have hp0 := bk91 _ _ hp0
          clear hp; have hp := hp0; clear hp0
          replace hp : Hp _ _ _ (Res.rows (RowK.sl (Ek.int .u8) 5) 59 v77 v78 q74.2.2.1 :: Res.obj 70 v15 [v77, .int .i64 q74.2.2.2.1, .int .i64 q74.2.2.2.2] :: Res.opt (LoomK 75 5) v7 q70.2.2 :: Res.opt (LoomK 75 5) v3 ax11 :: Res.opt pk70 v11 m15 :: ow) := hp
          refine ⟨_, rfl, ?_⟩
          clear hf; intro a hf
          refine st_ineq hf (by decide) rfl rfl rfl ?_
          clear hf; intro a ha hf; clear ha
          refine st_nil hf ?_
          refine th_n ?_
          refine wp_if hf rfl (fun hb => ?_) (fun hb => ?_)
          · replace h := ifT h hb
            refine wp_seq ?_
            refine wp_reg ?_
            refine st_assign hf rfl rfl (by decide) ?_
            clear hf; intro a ha hf; clear ha
            refine st_nil hf ?_
            refine th_n ?_
            refine wp_ret ?_
            refine ib_r ?_
            refine th_r ?_
            obtain rfl := Option.some.inj h
            have hp : Hp _ _ _ (ow) := Hp.sel (pre := [Res.rows (RowK.sl (Ek.int .u8) 5) 59 v77 v78 q74.2.2.1, Res.obj 70 v15 [v77, .int .i64 q74.2.2.2.1, .int .i64 q74.2.2.2.2], Res.opt (LoomK 75 5) v7 q70.2.2, Res.opt (LoomK 75 5) v3 ax11, Res.opt pk70 v11 m15]) (tail := ow) (rs' := []) hp [] (by decide) (by simp) rfl
            exact rnd_r (by simp) ⟨rfl, ⟨hf.sub ⟨rfl, trivial⟩, hp⟩⟩
          replace h := ifF h hb
          refine wp_skip ?_
          refine ib_n ?_
          refine th_n ?_
          refine wp_reg ?_
          refine st_move hf rfl rfl (by decide) ?_
          clear hf; intro a ha hf; clear ha
          refine st_iadd hf (by decide) rfl rfl rfl ?_
          clear hf; intro a ha hf; clear ha
          refine st_assign hf rfl rfl (by decide) ?_
          clear hf; intro a ha hf; clear ha
          refine st_nil hf ?_
          have hp : Hp _ _ _ (Res.obj 70 v15 [v77, .int .i64 q74.2.2.2.1, .int .i64 q74.2.2.2.2] :: Res.rows (RowK.sl (Ek.int .u8) 5) 59 v77 v78 q74.2.2.1 :: Res.opt (LoomK 75 5) v7 q70.2.2 :: Res.opt (LoomK 75 5) v3 ax11 :: Res.opt pk70 v11 m15 :: ow) := Hp.sel (pre := [Res.rows (RowK.sl (Ek.int .u8) 5) 59 v77 v78 q74.2.2.1, Res.obj 70 v15 [v77, .int .i64 q74.2.2.2.1, .int .i64 q74.2.2.2.2], Res.opt (LoomK 75 5) v7 q70.2.2, Res.opt (LoomK 75 5) v3 ax11, Res.opt pk70 v11 m15]) (tail := ow) (rs' := [Res.obj 70 v15 [v77, .int .i64 q74.2.2.2.1, .int .i64 q74.2.2.2.2], Res.rows (RowK.sl (Ek.int .u8) 5) 59 v77 v78 q74.2.2.1, Res.opt (LoomK 75 5) v7 q70.2.2, Res.opt (LoomK 75 5) v3 ax11, Res.opt pk70 v11 m15]) hp [1, 0, 2, 3, 4] (by decide) (by simp) rfl
          replace hp : Hp _ _ _ (Res.opt pk70 v15 (some (q74.2.2.1, q74.2.2.2.1, q74.2.2.2.2)) :: Res.opt (LoomK 75 5) v7 q70.2.2 :: Res.opt (LoomK 75 5) v3 ax11 :: Res.opt pk70 v11 m15 :: ow) := pk70_out (s := (q74.2.2.1, q74.2.2.2.1, q74.2.2.2.2)) (u := (v77, v78)) hp
          obtain rfl := Option.some.inj h
          have hp : Hp _ _ _ (Res.opt (LoomK 75 5) v3 ax11 :: Res.opt (LoomK 75 5) v7 q70.2.2 :: Res.opt pk70 v11 m15 :: Res.opt pk70 v15 (some (q74.2.2.1, q74.2.2.2.1, q74.2.2.2.2)) :: ow) := Hp.sel (pre := [Res.opt pk70 v15 (some (q74.2.2.1, q74.2.2.2.1, q74.2.2.2.2)), Res.opt (LoomK 75 5) v7 q70.2.2, Res.opt (LoomK 75 5) v3 ax11, Res.opt pk70 v11 m15]) (tail := ow) (rs' := [Res.opt (LoomK 75 5) v3 ax11, Res.opt (LoomK 75 5) v7 q70.2.2, Res.opt pk70 v11 m15, Res.opt pk70 v15 (some (q74.2.2.1, q74.2.2.2.1, q74.2.2.2.2))]) hp [2, 1, 3, 0] (by decide) (by simp) rfl
          exact rnd_l ⟨hf.sub ⟨rfl, rfl, rfl, rfl, rfl, rfl, trivial⟩, hp⟩
        replace h := ifF h hb
        refine wp_skip ?_
        refine ib_n ?_
        refine th_n ?_
        refine wp_seq ?_
        refine wp_reg ?_
        refine st_move hf rfl rfl (by decide) ?_
        clear hf; intro a ha hf; clear ha
        obtain ⟨q97, hcall98, h⟩ := bnd h
        have hp99 : Hp _ _ _ (Res.opt (LoomK 75 5) v7 bx13 :: Res.obj 70 v15 [v32, .int .i64 s30.2.1, .int .i64 s30.2.2] :: Res.rows (RowK.sl (Ek.int .u8) 5) 59 v32 v33 s30.1 :: Res.opt (LoomK 75 5) v3 ax11 :: Res.opt pk70 v11 m15 :: ow) := Hp.sel (pre := [Res.obj 70 v15 [v32, .int .i64 s30.2.1, .int .i64 s30.2.2], Res.rows (RowK.sl (Ek.int .u8) 5) 59 v32 v33 s30.1, Res.opt (LoomK 75 5) v3 ax11, Res.opt (LoomK 75 5) v7 bx13, Res.opt pk70 v11 m15]) (tail := ow) (rs' := [Res.opt (LoomK 75 5) v7 bx13, Res.obj 70 v15 [v32, .int .i64 s30.2.1, .int .i64 s30.2.2], Res.rows (RowK.sl (Ek.int .u8) 5) 59 v32 v33 s30.1, Res.opt (LoomK 75 5) v3 ax11, Res.opt pk70 v11 m15]) hp [3, 0, 1, 2, 4] (by decide) (by simp) rfl
        refine st_call hf (by decide) Try.func34 rfl rfl rfl rfl rfl (f_weave_Loom_Delay_c _ _ hp99 hcall98) ?_
        rintro _ w ⟨rfl, hp0⟩
        clear hp; have hp := hp0; clear hp0
        replace hp : Hp _ _ _ (Res.opt (LoomK 75 5) v7 bx13 :: Res.obj 70 v15 [v32, .int .i64 s30.2.1, .int .i64 s30.2.2] :: Res.rows (RowK.sl (Ek.int .u8) 5) 59 v32 v33 s30.1 :: Res.opt (LoomK 75 5) v3 ax11 :: Res.opt pk70 v11 m15 :: ow) := hp
        refine ⟨_, rfl, ?_⟩
        clear hf; intro a hf
        refine st_move hf rfl rfl (by decide) ?_
        clear hf; intro a ha hf; clear ha
        obtain ⟨q100, hcall101, h⟩ := bnd h
        obtain ⟨S102, hp103, rd104, up105, bk106⟩ := Hp.lendR hp (i := 2) rfl
        obtain ⟨S107, hp108, rd109, up110, bk111⟩ := Hp.lendO hp103 (i := 1) rfl
        refine st_call hf (by decide) Try.func35 rfl rfl rfl rfl rfl (f_foghornref17_Loom_Delay_c hp108 _ _ _ ((rd104.now hp103).mono up110) _ _ _ rd109 hcall101) ?_
        rintro _ w ⟨rfl, hp0⟩
        have hp0 := bk111 _ _ hp0
        have hp0 := bk106 _ _ hp0
        clear hp; have hp := hp0; clear hp0
        replace hp : Hp _ _ _ (Res.rows (RowK.sl (Ek.int .u8) 5) 59 v32 v33 s30.1 :: Res.obj 70 v15 [v32, .int .i64 s30.2.1, .int .i64 s30.2.2] :: Res.opt (LoomK 75 5) v7 bx13 :: Res.opt (LoomK 75 5) v3 ax11 :: Res.opt pk70 v11 m15 :: ow) := hp
        refine ⟨_, rfl, ?_⟩
        clear hf; intro a hf
        refine st_ineq hf (by decide) rfl rfl rfl ?_
        clear hf; intro a ha hf; clear ha
        refine st_nil hf ?_
        refine th_n ?_
        refine wp_if hf rfl (fun hb => ?_) (fun hb => ?_)
        · replace h := ifT h hb
          refine wp_seq ?_
          refine wp_reg ?_
          refine st_assign hf rfl rfl (by decide) ?_
          clear hf; intro a ha hf; clear ha
          refine st_nil hf ?_
          refine th_n ?_
          refine wp_ret ?_
          refine ib_r ?_
          refine th_r ?_
          obtain rfl := Option.some.inj h
          have hp : Hp _ _ _ (ow) := Hp.sel (pre := [Res.rows (RowK.sl (Ek.int .u8) 5) 59 v32 v33 s30.1, Res.obj 70 v15 [v32, .int .i64 s30.2.1, .int .i64 s30.2.2], Res.opt (LoomK 75 5) v7 bx13, Res.opt (LoomK 75 5) v3 ax11, Res.opt pk70 v11 m15]) (tail := ow) (rs' := []) hp [] (by decide) (by simp) rfl
          exact rnd_r (by simp) ⟨rfl, ⟨hf.sub ⟨rfl, trivial⟩, hp⟩⟩
        replace h := ifF h hb
        refine wp_skip ?_
        refine ib_n ?_
        refine th_n ?_
        refine wp_reg ?_
        refine st_move hf rfl rfl (by decide) ?_
        clear hf; intro a ha hf; clear ha
        refine st_iadd hf (by decide) rfl rfl rfl ?_
        clear hf; intro a ha hf; clear ha
        refine st_assign hf rfl rfl (by decide) ?_
        clear hf; intro a ha hf; clear ha
        refine st_nil hf ?_
        have hp : Hp _ _ _ (Res.obj 70 v15 [v32, .int .i64 s30.2.1, .int .i64 s30.2.2] :: Res.rows (RowK.sl (Ek.int .u8) 5) 59 v32 v33 s30.1 :: Res.opt (LoomK 75 5) v7 bx13 :: Res.opt (LoomK 75 5) v3 ax11 :: Res.opt pk70 v11 m15 :: ow) := Hp.sel (pre := [Res.rows (RowK.sl (Ek.int .u8) 5) 59 v32 v33 s30.1, Res.obj 70 v15 [v32, .int .i64 s30.2.1, .int .i64 s30.2.2], Res.opt (LoomK 75 5) v7 bx13, Res.opt (LoomK 75 5) v3 ax11, Res.opt pk70 v11 m15]) (tail := ow) (rs' := [Res.obj 70 v15 [v32, .int .i64 s30.2.1, .int .i64 s30.2.2], Res.rows (RowK.sl (Ek.int .u8) 5) 59 v32 v33 s30.1, Res.opt (LoomK 75 5) v7 bx13, Res.opt (LoomK 75 5) v3 ax11, Res.opt pk70 v11 m15]) hp [1, 0, 2, 3, 4] (by decide) (by simp) rfl
        replace hp : Hp _ _ _ (Res.opt pk70 v15 (some (s30.1, s30.2.1, s30.2.2)) :: Res.opt (LoomK 75 5) v7 bx13 :: Res.opt (LoomK 75 5) v3 ax11 :: Res.opt pk70 v11 m15 :: ow) := pk70_out (s := (s30.1, s30.2.1, s30.2.2)) (u := (v32, v33)) hp
        obtain rfl := Option.some.inj h
        have hp : Hp _ _ _ (Res.opt (LoomK 75 5) v3 ax11 :: Res.opt (LoomK 75 5) v7 bx13 :: Res.opt pk70 v11 m15 :: Res.opt pk70 v15 (some (s30.1, s30.2.1, s30.2.2)) :: ow) := Hp.sel (pre := [Res.opt pk70 v15 (some (s30.1, s30.2.1, s30.2.2)), Res.opt (LoomK 75 5) v7 bx13, Res.opt (LoomK 75 5) v3 ax11, Res.opt pk70 v11 m15]) (tail := ow) (rs' := [Res.opt (LoomK 75 5) v3 ax11, Res.opt (LoomK 75 5) v7 bx13, Res.opt pk70 v11 m15, Res.opt pk70 v15 (some (s30.1, s30.2.1, s30.2.2))]) hp [2, 1, 3, 0] (by decide) (by simp) rfl
        exact rnd_l ⟨hf.sub ⟨rfl, rfl, rfl, rfl, rfl, rfl, trivial⟩, hp⟩
      replace h := ifF h hb
      refine wp_skip ?_
      refine th_n ?_
      refine wp_seq ?_
      refine wp_seq ?_
      refine wp_reg ?_
      refine st_move hf rfl rfl (by decide) ?_
      clear hf; intro a ha hf; clear ha
      refine st_peql hf (by decide) Try.underlying48 rfl rfl rfl (hp.nilB (i := 2) rfl) ?_
      clear hf; intro a ha hf; clear ha
      refine st_nil hf ?_
      refine th_n ?_
      refine wp_if hf rfl (fun hb => ?_) (fun hb => ?_)
      · replace h := ifT h hb
        refine wp_exit ?_
        refine th_e ?_
        refine ib_same ?_
        refine th_n ?_
        refine wp_reg ?_
        refine st_move hf rfl rfl (by decide) ?_
        clear hf; intro a ha hf; clear ha
        refine st_iadd hf (by decide) rfl rfl rfl ?_
        clear hf; intro a ha hf; clear ha
        refine st_assign hf rfl rfl (by decide) ?_
        clear hf; intro a ha hf; clear ha
        refine st_nil hf ?_
        obtain rfl := Option.some.inj h
        exact rnd_l ⟨hf.sub ⟨rfl, rfl, rfl, rfl, rfl, rfl, trivial⟩, hp⟩
      replace h := ifF h hb
      obtain ⟨s112, hs113, h⟩ := bnd h
      have hp : Hp _ _ _ (Res.opt pk70 v11 m15 :: Res.opt (LoomK 75 5) v3 ax11 :: Res.opt (LoomK 75 5) v7 bx13 :: Res.opt pk70 v15 n17 :: ow) := Hp.sel (pre := [Res.opt (LoomK 75 5) v3 ax11, Res.opt (LoomK 75 5) v7 bx13, Res.opt pk70 v11 m15, Res.opt pk70 v15 n17]) (tail := ow) (rs' := [Res.opt pk70 v11 m15, Res.opt (LoomK 75 5) v3 ax11, Res.opt (LoomK 75 5) v7 bx13, Res.opt pk70 v15 n17]) hp [2, 0, 1, 3] (by decide) (by simp) rfl
      replace hp : Hp _ _ _ (pk70.R v11 s112 :: Res.opt (LoomK 75 5) v3 ax11 :: Res.opt (LoomK 75 5) v7 bx13 :: Res.opt pk70 v15 n17 :: ow) := hp.optSome hs113
      obtain ⟨⟨v114, v115⟩, hp⟩ := pk70_in hp
      replace hp : Hp _ _ _ (Res.obj 70 v11 [v114, .int .i64 s112.2.1, .int .i64 s112.2.2] :: Res.rows (RowK.sl (Ek.int .u8) 5) 59 v114 v115 s112.1 :: Res.opt (LoomK 75 5) v3 ax11 :: Res.opt (LoomK 75 5) v7 bx13 :: Res.opt pk70 v15 n17 :: ow) := hp
      refine wp_skip ?_
      refine th_n ?_
      refine wp_seq ?_
      refine wp_seq ?_
      refine wp_reg ?_
      refine st_move hf rfl rfl (by decide) ?_
      clear hf; intro a ha hf; clear ha
      refine st_move hf rfl rfl (by decide) ?_
      clear hf; intro a ha hf; clear ha
      obtain ⟨hc117, h⟩ := chk h
      refine st_index (E := (Ek.pair (Ek.int .i64) (Ek.pair (Ek.int .i64) (Ek.pair (Ek.int .u8) Ek.str)))) hf (by decide) Try.underlying44 elt52 rfl rfl rfl (hl4.sl hp) hc117.1 hc117.2 ?_
      clear hf; intro a ha hf; clear ha
      refine st_faP (off := 0) (sz := 1) hf (by decide) (by kernel_rfl) (by decide) rfl rfl (Sl.isP (hl4.sl hp) hc117.1 hc117.2) ?_
      clear hf; intro a ha hf; clear ha
      refine st_ldQ (F := (Ek.int .i64)) (yv := (gt l4 i19).1) hf (by decide) pl3 (fun x => .int .i64 x) (fun _ _ h => h) rfl rfl (Sl.part (E := (Ek.pair (Ek.int .i64) (Ek.pair (Ek.int .i64) (Ek.pair (Ek.int .u8) Ek.str)))) (F := (Ek.int .i64)) (o := 0) (Sub.fst (E := (Ek.int .i64)) (F := (Ek.pair (Ek.int .i64) (Ek.pair (Ek.int .u8) Ek.str)))) (hl4.sl hp) hc117.1 hc117.2) ?_
      clear hf; intro a ha hf; clear ha
      refine st_nil hf ?_
      refine th_n ?_
      refine wp_block ?_
      refine wp_seq ?_
      refine wp_reg ?_
      refine st_ieql hf (by decide) rfl rfl rfl ?_
      clear hf; intro a ha hf; clear ha
      refine st_assign hf rfl rfl (by decide) ?_
      clear hf; intro a ha hf; clear ha
      refine st_nil hf ?_
      refine th_n ?_
      refine wp_if hf rfl (fun hb => ?_) (fun hb => ?_)
      · replace h := ifT h hb
        refine wp_seq ?_
        refine wp_reg ?_
        refine st_move hf rfl rfl (by decide) ?_
        clear hf; intro a ha hf; clear ha
        refine st_move hf rfl rfl (by decide) ?_
        clear hf; intro a ha hf; clear ha
        refine st_move hf rfl rfl (by decide) ?_
        clear hf; intro a ha hf; clear ha
        obtain ⟨hc118, h⟩ := chk h
        refine st_index (E := (Ek.pair (Ek.int .i64) (Ek.pair (Ek.int .i64) (Ek.pair (Ek.int .u8) Ek.str)))) hf (by decide) Try.underlying44 elt52 rfl rfl rfl (hl4.sl hp) hc118.1 hc118.2 ?_
        clear hf; intro a ha hf; clear ha
        refine st_faP (off := 2) (sz := 1) hf (by decide) (by kernel_rfl) (by decide) rfl rfl (Sl.isP (hl4.sl hp) hc118.1 hc118.2) ?_
        clear hf; intro a ha hf; clear ha
        refine st_ldQ (F := (Ek.int .u8)) (yv := (gt l4 i19).2.2.1) hf (by decide) pl5 (fun x => .int .u8 x) (fun _ _ h => h) rfl rfl (Sl.part (E := (Ek.pair (Ek.int .i64) (Ek.pair (Ek.int .i64) (Ek.pair (Ek.int .u8) Ek.str)))) (F := (Ek.int .u8)) (o := 2) (Sub.comp (Sub.snd (E := (Ek.int .i64)) (F := (Ek.pair (Ek.int .i64) (Ek.pair (Ek.int .u8) Ek.str)))) (Sub.comp (Sub.snd (E := (Ek.int .i64)) (F := (Ek.pair (Ek.int .u8) Ek.str))) (Sub.fst (E := (Ek.int .u8)) (F := Ek.str)))) (hl4.sl hp) hc118.1 hc118.2) ?_
        clear hf; intro a ha hf; clear ha
        obtain ⟨q119, hcall120, h⟩ := bnd h
        have hp121 : Hp _ _ _ (Res.opt (LoomK 75 5) v3 ax11 :: Res.obj 70 v11 [v114, .int .i64 s112.2.1, .int .i64 s112.2.2] :: Res.rows (RowK.sl (Ek.int .u8) 5) 59 v114 v115 s112.1 :: Res.opt (LoomK 75 5) v7 bx13 :: Res.opt pk70 v15 n17 :: ow) := Hp.sel (pre := [Res.obj 70 v11 [v114, .int .i64 s112.2.1, .int .i64 s112.2.2], Res.rows (RowK.sl (Ek.int .u8) 5) 59 v114 v115 s112.1, Res.opt (LoomK 75 5) v3 ax11, Res.opt (LoomK 75 5) v7 bx13, Res.opt pk70 v15 n17]) (tail := ow) (rs' := [Res.opt (LoomK 75 5) v3 ax11, Res.obj 70 v11 [v114, .int .i64 s112.2.1, .int .i64 s112.2.2], Res.rows (RowK.sl (Ek.int .u8) 5) 59 v114 v115 s112.1, Res.opt (LoomK 75 5) v7 bx13, Res.opt pk70 v15 n17]) hp [2, 0, 1, 3, 4] (by decide) (by simp) rfl
        refine st_call hf (by decide) Try.func30 rfl rfl rfl rfl rfl (f_weave_Loom_Push_c _ _ _ hp121 hcall120) ?_
        rintro _ w ⟨rfl, hp0⟩
        clear hp; have hp := hp0; clear hp0
        replace hp : Hp _ _ _ (Res.opt (LoomK 75 5) v3 q119.2.2 :: Res.obj 70 v11 [v114, .int .i64 s112.2.1, .int .i64 s112.2.2] :: Res.rows (RowK.sl (Ek.int .u8) 5) 59 v114 v115 s112.1 :: Res.opt (LoomK 75 5) v7 bx13 :: Res.opt pk70 v15 n17 :: ow) := hp
        refine ⟨_, rfl, ?_⟩
        clear hf; intro a hf
        refine st_move hf rfl rfl (by decide) ?_
        clear hf; intro a ha hf; clear ha
        refine st_extract hf (by decide) rfl rfl rfl ?_
        clear hf; intro a ha hf; clear ha
        refine st_extract hf (by decide) rfl rfl rfl ?_
        clear hf; intro a ha hf; clear ha
        refine st_assign hf rfl rfl (by decide) ?_
        clear hf; intro a ha hf; clear ha
        refine st_assign hf rfl rfl (by decide) ?_
        clear hf; intro a ha hf; clear ha
        refine st_nil hf ?_
        refine th_n ?_
        refine wp_seq ?_
        refine wp_reg ?_
        refine st_move hf rfl rfl (by decide) ?_
        clear hf; intro a ha hf; clear ha
        refine st_ineq hf (by decide) rfl rfl rfl ?_
        clear hf; intro a ha hf; clear ha
        refine st_move hf rfl rfl (by decide) ?_
        clear hf; intro a ha hf; clear ha
        obtain ⟨z128, hz122, h⟩ := bnd h
        refine wpList_cut 10 (fun a w => ∃ (v124 : Value) (vs125 : List Value), Fr 161 a [(4, vl4), (11, v3), (13, v7), (15, v11), (17, v15), (19, .int .i64 i19), (20, v3), (21, v11), (125, .bool z128.1)] ∧ Hp S w0 w (Res.rows (RowK.sl (Ek.int .u8) 5) 59 v124 vs125 z128.2.1 :: Res.obj 70 v11 [v124, .int .i64 z128.2.2.1, .int .i64 z128.2.2.2] :: Res.opt (LoomK 75 5) v3 q119.2.2 :: Res.opt (LoomK 75 5) v7 bx13 :: Res.opt pk70 v15 n17 :: ow)) ?_ ?_
        · rcases Bool.eq_false_or_eq_true (q119.2.1 != (0 : Int)) with hb123 | hb123
          · skip
            replace hz122 := ifT hz122 hb123
            refine st_skip hf (wantN hf rfl rfl hb123) rfl (by decide) ?_ rfl
            clear hf; intro a hf
            refine st_skip hf (wantN hf rfl rfl hb123) rfl (by decide) ?_ rfl
            clear hf; intro a hf
            refine st_skip hf (wantN hf rfl rfl hb123) rfl (by decide) ?_ rfl
            clear hf; intro a hf
            refine st_skip hf (wantN hf rfl rfl hb123) rfl (by decide) ?_ rfl
            clear hf; intro a hf
            refine st_skip hf (wantN hf rfl rfl hb123) rfl (by decide) ?_ rfl
            clear hf; intro a hf
            refine st_skip hf (wantN hf rfl rfl hb123) rfl (by decide) ?_ rfl
            clear hf; intro a hf
            refine st_skip hf (wantN hf rfl rfl hb123) rfl (by decide) ?_ rfl
            clear hf; intro a hf
            refine st_skip hf (wantN hf rfl rfl hb123) rfl (by decide) ?_ rfl
            clear hf; intro a hf
            refine st_skip hf (wantN hf rfl rfl hb123) rfl (by decide) ?_ rfl
            clear hf; intro a hf
            obtain rfl := Option.some.inj hz122
            have hp : Hp _ _ _ (Res.rows (RowK.sl (Ek.int .u8) 5) 59 v114 v115 s112.1 :: Res.obj 70 v11 [v114, .int .i64 s112.2.1, .int .i64 s112.2.2] :: Res.opt (LoomK 75 5) v3 q119.2.2 :: Res.opt (LoomK 75 5) v7 bx13 :: Res.opt pk70 v15 n17 :: ow) := Hp.sel (pre := [Res.opt (LoomK 75 5) v3 q119.2.2, Res.obj 70 v11 [v114, .int .i64 s112.2.1, .int .i64 s112.2.2], Res.rows (RowK.sl (Ek.int .u8) 5) 59 v114 v115 s112.1, Res.opt (LoomK 75 5) v7 bx13, Res.opt pk70 v15 n17]) (tail := ow) (rs' := [Res.rows (RowK.sl (Ek.int .u8) 5) 59 v114 v115 s112.1, Res.obj 70 v11 [v114, .int .i64 s112.2.1, .int .i64 s112.2.2], Res.opt (LoomK 75 5) v3 q119.2.2, Res.opt (LoomK 75 5) v7 bx13, Res.opt pk70 v15 n17]) hp [2, 1, 0, 3, 4] (by decide) (by simp) rfl
            refine st_pick (v := .bool true) hf rfl rfl (fun hb' => ?_) (fun hb' => ?_) (by decide) ?_
            · rfl
            · exact absurd (hb123.symm.trans hb') (by decide)
            clear hf; intro a ha hf; clear ha
            refine st_nil hf (th_n ?_)
            exact ⟨_, _, hf.sub ⟨rfl, rfl, rfl, rfl, rfl, rfl, rfl, rfl, rfl, trivial⟩, hp⟩
          replace hz122 := ifF hz122 hb123
          refine st_move hf (wantY hf rfl rfl hb123) rfl (by decide) ?_
          clear hf; intro a ha hf; clear ha
          refine st_move hf (wantY hf rfl rfl hb123) rfl (by decide) ?_
          clear hf; intro a ha hf; clear ha
          refine st_move hf (wantY hf rfl rfl hb123) rfl (by decide) ?_
          clear hf; intro a ha hf; clear ha
          refine st_move hf (wantY hf rfl rfl hb123) rfl (by decide) ?_
          clear hf; intro a ha hf; clear ha
          obtain ⟨hc129, hz122⟩ := chk hz122
          refine st_index (E := (Ek.pair (Ek.int .i64) (Ek.pair (Ek.int .i64) (Ek.pair (Ek.int .u8) Ek.str)))) hf (by decide) Try.underlying44 elt52 (wantY hf rfl rfl hb123) rfl rfl (hl4.sl hp) hc129.1 hc129.2 ?_
          clear hf; intro a ha hf; clear ha
          refine st_faP (off := 2) (sz := 1) hf (by decide) (by kernel_rfl) (by decide) (wantY hf rfl rfl hb123) rfl (Sl.isP (hl4.sl hp) hc129.1 hc129.2) ?_
          clear hf; intro a ha hf; clear ha
          refine st_ldQ (F := (Ek.int .u8)) (yv := (gt l4 i19).2.2.1) hf (by decide) pl5 (fun x => .int .u8 x) (fun _ _ h => h) (wantY hf rfl rfl hb123) rfl (Sl.part (E := (Ek.pair (Ek.int .i64) (Ek.pair (Ek.int .i64) (Ek.pair (Ek.int .u8) Ek.str)))) (F := (Ek.int .u8)) (o := 2) (Sub.comp (Sub.snd (E := (Ek.int .i64)) (F := (Ek.pair (Ek.int .i64) (Ek.pair (Ek.int .u8) Ek.str)))) (Sub.comp (Sub.snd (E := (Ek.int .i64)) (F := (Ek.pair (Ek.int .u8) Ek.str))) (Sub.fst (E := (Ek.int .u8)) (F := Ek.str)))) (hl4.sl hp) hc129.1 hc129.2) ?_
          clear hf; intro a ha hf; clear ha
          obtain ⟨q130, hcall131, hz122⟩ := bnd hz122
          have hp132 : Hp _ _ _ (Res.rows (RowK.sl (Ek.int .u8) 5) 59 v114 v115 s112.1 :: Res.obj 70 v11 [v114, .int .i64 s112.2.1, .int .i64 s112.2.2] :: Res.opt (LoomK 75 5) v3 q119.2.2 :: Res.opt (LoomK 75 5) v7 bx13 :: Res.opt pk70 v15 n17 :: ow) := Hp.sel (pre := [Res.opt (LoomK 75 5) v3 q119.2.2, Res.obj 70 v11 [v114, .int .i64 s112.2.1, .int .i64 s112.2.2], Res.rows (RowK.sl (Ek.int .u8) 5) 59 v114 v115 s112.1, Res.opt (LoomK 75 5) v7 bx13, Res.opt pk70 v15 n17]) (tail := ow) (rs' := [Res.rows (RowK.sl (Ek.int .u8) 5) 59 v114 v115 s112.1, Res.obj 70 v11 [v114, .int .i64 s112.2.1, .int .i64 s112.2.2], Res.opt (LoomK 75 5) v3 q119.2.2, Res.opt (LoomK 75 5) v7 bx13, Res.opt pk70 v15 n17]) hp [2, 1, 0, 3, 4] (by decide) (by simp) rfl
          refine st_call hf (by decide) Try.func31 rfl rfl (wantY hf rfl rfl hb123) rfl rfl (f_foghornref17_Loom_Push_c _ _ _ _ _ _ _ hp132 hcall131) ?_
          rintro _ w ⟨v133, v134, rfl, hp0⟩
          clear hp; have hp := hp0; clear hp0
          replace hp : Hp _ _ _ (Res.rows (RowK.sl (Ek.int .u8) 5) 59 v133 v134 q130.2.1 :: Res.obj 70 v11 [v133, .int .i64 q130.2.2.1, .int .i64 q130.2.2.2] :: Res.opt (LoomK 75 5) v3 q119.2.2 :: Res.opt (LoomK 75 5) v7 bx13 :: Res.opt pk70 v15 n17 :: ow) := hp
          refine ⟨_, rfl, ?_⟩
          clear hf; intro a hf
          refine st_ineq hf (by decide) (wantY hf rfl rfl hb123) rfl rfl ?_
          clear hf; intro a ha hf; clear ha
          obtain rfl := Option.some.inj hz122
          refine st_pick (v := .bool (q119.1 != q130.1)) hf rfl rfl (fun hb' => ?_) (fun hb' => ?_) (by decide) ?_
          · exact absurd (hb123.symm.trans hb') (by decide)
          · rfl
          clear hf; intro a ha hf; clear ha
          refine st_nil hf (th_n ?_)
          exact ⟨_, _, hf.sub ⟨rfl, rfl, rfl, rfl, rfl, rfl, rfl, rfl, rfl, trivial⟩, hp⟩
        rintro a w ⟨v124, vs125, hf, hp⟩
        refine st_nil hf ?_
        refine th_n ?_
        refine wp_if hf rfl (fun hb => ?_) (fun hb => ?_)
        · replace h := ifT h hb
          refine wp_seq ?_
          refine wp_reg ?_
          refine st_assign hf rfl rfl (by decide) ?_
          clear hf; intro a ha hf; clear ha
          refine st_nil hf ?_
          refine th_n ?_
          refine wp_ret ?_
          refine ib_r ?_
          refine th_r ?_
          refine ib_r ?_
          refine th_r ?_
          obtain rfl := Option.some.inj h
          have hp : Hp _ _ _ (ow) := Hp.sel (pre := [Res.rows (RowK.sl (Ek.int .u8) 5) 59 v124 vs125 z128.2.1, Res.obj 70 v11 [v124, .int .i64 z128.2.2.1, .int .i64 z128.2.2.2], Res.opt (LoomK 75 5) v3 q119.2.2, Res.opt (LoomK 75 5) v7 bx13, Res.opt pk70 v15 n17]) (tail := ow) (rs' := []) hp [] (by decide) (by simp) rfl
          exact rnd_r (by simp) ⟨rfl, ⟨hf.sub ⟨rfl, trivial⟩, hp⟩⟩
        replace h := ifF h hb
        refine wp_skip ?_
        refine ib_n ?_
        refine th_n ?_
        refine wp_seq ?_
        refine wp_reg ?_
        refine st_move hf rfl rfl (by decide) ?_
        clear hf; intro a ha hf; clear ha
        obtain ⟨q136, hcall137, h⟩ := bnd h
        have hp138 : Hp _ _ _ (Res.opt (LoomK 75 5) v3 q119.2.2 :: Res.rows (RowK.sl (Ek.int .u8) 5) 59 v124 vs125 z128.2.1 :: Res.obj 70 v11 [v124, .int .i64 z128.2.2.1, .int .i64 z128.2.2.2] :: Res.opt (LoomK 75 5) v7 bx13 :: Res.opt pk70 v15 n17 :: ow) := Hp.sel (pre := [Res.rows (RowK.sl (Ek.int .u8) 5) 59 v124 vs125 z128.2.1, Res.obj 70 v11 [v124, .int .i64 z128.2.2.1, .int .i64 z128.2.2.2], Res.opt (LoomK 75 5) v3 q119.2.2, Res.opt (LoomK 75 5) v7 bx13, Res.opt pk70 v15 n17]) (tail := ow) (rs' := [Res.opt (LoomK 75 5) v3 q119.2.2, Res.rows (RowK.sl (Ek.int .u8) 5) 59 v124 vs125 z128.2.1, Res.obj 70 v11 [v124, .int .i64 z128.2.2.1, .int .i64 z128.2.2.2], Res.opt (LoomK 75 5) v7 bx13, Res.opt pk70 v15 n17]) hp [2, 0, 1, 3, 4] (by decide) (by simp) rfl
        refine st_call hf (by decide) Try.func34 rfl rfl rfl rfl rfl (f_weave_Loom_Delay_c _ _ hp138 hcall137) ?_
        rintro _ w ⟨rfl, hp0⟩
        clear hp; have hp := hp0; clear hp0
        replace hp : Hp _ _ _ (Res.opt (LoomK 75 5) v3 q119.2.2 :: Res.rows (RowK.sl (Ek.int .u8) 5) 59 v124 vs125 z128.2.1 :: Res.obj 70 v11 [v124, .int .i64 z128.2.2.1, .int .i64 z128.2.2.2] :: Res.opt (LoomK 75 5) v7 bx13 :: Res.opt pk70 v15 n17 :: ow) := hp
        refine ⟨_, rfl, ?_⟩
        clear hf; intro a hf
        refine st_move hf rfl rfl (by decide) ?_
        clear hf; intro a ha hf; clear ha
        obtain ⟨q139, hcall140, h⟩ := bnd h
        obtain ⟨S141, hp142, rd143, up144, bk145⟩ := Hp.lendR hp (i := 1) rfl
        obtain ⟨S146, hp147, rd148, up149, bk150⟩ := Hp.lendO hp142 (i := 1) rfl
        refine st_call hf (by decide) Try.func35 rfl rfl rfl rfl rfl (f_foghornref17_Loom_Delay_c hp147 _ _ _ ((rd143.now hp142).mono up149) _ _ _ rd148 hcall140) ?_
        rintro _ w ⟨rfl, hp0⟩
        have hp0 := bk150 _ _ hp0
        have hp0 := bk145 _ _ hp0
        clear hp; have hp := hp0; clear hp0
        replace hp : Hp _ _ _ (Res.rows (RowK.sl (Ek.int .u8) 5) 59 v124 vs125 z128.2.1 :: Res.obj 70 v11 [v124, .int .i64 z128.2.2.1, .int .i64 z128.2.2.2] :: Res.opt (LoomK 75 5) v3 q119.2.2 :: Res.opt (LoomK 75 5) v7 bx13 :: Res.opt pk70 v15 n17 :: ow) := hp
        refine ⟨_, rfl, ?_⟩
        clear hf; intro a hf
        refine st_ineq hf (by decide) rfl rfl rfl ?_
        clear hf; intro a ha hf; clear ha
        refine st_nil hf ?_
        refine th_n ?_
        refine wp_if hf rfl (fun hb => ?_) (fun hb => ?_)
        · replace h := ifT h hb
          refine wp_seq ?_
          refine wp_reg ?_
          refine st_assign hf rfl rfl (by decide) ?_
          clear hf; intro a ha hf; clear ha
          refine st_nil hf ?_
          refine th_n ?_
          refine wp_ret ?_
          refine ib_r ?_
          refine th_r ?_
          obtain rfl := Option.some.inj h
          have hp : Hp _ _ _ (ow) := Hp.sel (pre := [Res.rows (RowK.sl (Ek.int .u8) 5) 59 v124 vs125 z128.2.1, Res.obj 70 v11 [v124, .int .i64 z128.2.2.1, .int .i64 z128.2.2.2], Res.opt (LoomK 75 5) v3 q119.2.2, Res.opt (LoomK 75 5) v7 bx13, Res.opt pk70 v15 n17]) (tail := ow) (rs' := []) hp [] (by decide) (by simp) rfl
          exact rnd_r (by simp) ⟨rfl, ⟨hf.sub ⟨rfl, trivial⟩, hp⟩⟩
        replace h := ifF h hb
        refine wp_skip ?_
        refine ib_n ?_
        refine th_n ?_
        refine wp_reg ?_
        refine st_move hf rfl rfl (by decide) ?_
        clear hf; intro a ha hf; clear ha
        refine st_iadd hf (by decide) rfl rfl rfl ?_
        clear hf; intro a ha hf; clear ha
        refine st_assign hf rfl rfl (by decide) ?_
        clear hf; intro a ha hf; clear ha
        refine st_nil hf ?_
        have hp : Hp _ _ _ (Res.obj 70 v11 [v124, .int .i64 z128.2.2.1, .int .i64 z128.2.2.2] :: Res.rows (RowK.sl (Ek.int .u8) 5) 59 v124 vs125 z128.2.1 :: Res.opt (LoomK 75 5) v3 q119.2.2 :: Res.opt (LoomK 75 5) v7 bx13 :: Res.opt pk70 v15 n17 :: ow) := Hp.sel (pre := [Res.rows (RowK.sl (Ek.int .u8) 5) 59 v124 vs125 z128.2.1, Res.obj 70 v11 [v124, .int .i64 z128.2.2.1, .int .i64 z128.2.2.2], Res.opt (LoomK 75 5) v3 q119.2.2, Res.opt (LoomK 75 5) v7 bx13, Res.opt pk70 v15 n17]) (tail := ow) (rs' := [Res.obj 70 v11 [v124, .int .i64 z128.2.2.1, .int .i64 z128.2.2.2], Res.rows (RowK.sl (Ek.int .u8) 5) 59 v124 vs125 z128.2.1, Res.opt (LoomK 75 5) v3 q119.2.2, Res.opt (LoomK 75 5) v7 bx13, Res.opt pk70 v15 n17]) hp [1, 0, 2, 3, 4] (by decide) (by simp) rfl
        replace hp : Hp _ _ _ (Res.opt pk70 v11 (some (z128.2.1, z128.2.2.1, z128.2.2.2)) :: Res.opt (LoomK 75 5) v3 q119.2.2 :: Res.opt (LoomK 75 5) v7 bx13 :: Res.opt pk70 v15 n17 :: ow) := pk70_out (s := (z128.2.1, z128.2.2.1, z128.2.2.2)) (u := (v124, vs125)) hp
        obtain rfl := Option.some.inj h
        have hp : Hp _ _ _ (Res.opt (LoomK 75 5) v3 q119.2.2 :: Res.opt (LoomK 75 5) v7 bx13 :: Res.opt pk70 v11 (some (z128.2.1, z128.2.2.1, z128.2.2.2)) :: Res.opt pk70 v15 n17 :: ow) := Hp.sel (pre := [Res.opt pk70 v11 (some (z128.2.1, z128.2.2.1, z128.2.2.2)), Res.opt (LoomK 75 5) v3 q119.2.2, Res.opt (LoomK 75 5) v7 bx13, Res.opt pk70 v15 n17]) (tail := ow) (rs' := [Res.opt (LoomK 75 5) v3 q119.2.2, Res.opt (LoomK 75 5) v7 bx13, Res.opt pk70 v11 (some (z128.2.1, z128.2.2.1, z128.2.2.2)), Res.opt pk70 v15 n17]) hp [1, 2, 0, 3] (by decide) (by simp) rfl
        exact rnd_l ⟨hf.sub ⟨rfl, rfl, rfl, rfl, rfl, rfl, trivial⟩, hp⟩
      replace h := ifF h hb
      refine wp_seq ?_
      refine wp_reg ?_
      refine st_ieql hf (by decide) rfl rfl rfl ?_
      clear hf; intro a ha hf; clear ha
      refine st_assign hf rfl rfl (by decide) ?_
      clear hf; intro a ha hf; clear ha
      refine st_nil hf ?_
      refine th_n ?_
      refine wp_if hf rfl (fun hb => ?_) (fun hb => ?_)
      · replace h := ifT h hb
        refine wp_seq ?_
        refine wp_reg ?_
        refine st_move hf rfl rfl (by decide) ?_
        clear hf; intro a ha hf; clear ha
        refine st_move hf rfl rfl (by decide) ?_
        clear hf; intro a ha hf; clear ha
        refine st_move hf rfl rfl (by decide) ?_
        clear hf; intro a ha hf; clear ha
        obtain ⟨hc151, h⟩ := chk h
        refine st_index (E := (Ek.pair (Ek.int .i64) (Ek.pair (Ek.int .i64) (Ek.pair (Ek.int .u8) Ek.str)))) hf (by decide) Try.underlying44 elt52 rfl rfl rfl (hl4.sl hp) hc151.1 hc151.2 ?_
        clear hf; intro a ha hf; clear ha
        refine st_faP (off := 3) (sz := 1) hf (by decide) (by kernel_rfl) (by decide) rfl rfl (Sl.isP (hl4.sl hp) hc151.1 hc151.2) ?_
        clear hf; intro a ha hf; clear ha
        refine st_ldQ (F := Ek.str) (yv := (gt l4 i19).2.2.2) hf (by decide) pl9 (fun x => .string x) (fun _ _ h => h) rfl rfl (Sl.part (E := (Ek.pair (Ek.int .i64) (Ek.pair (Ek.int .i64) (Ek.pair (Ek.int .u8) Ek.str)))) (F := Ek.str) (o := 3) (Sub.comp (Sub.snd (E := (Ek.int .i64)) (F := (Ek.pair (Ek.int .i64) (Ek.pair (Ek.int .u8) Ek.str)))) (Sub.comp (Sub.snd (E := (Ek.int .i64)) (F := (Ek.pair (Ek.int .u8) Ek.str))) (Sub.snd (E := (Ek.int .u8)) (F := Ek.str)))) (hl4.sl hp) hc151.1 hc151.2) ?_
        clear hf; intro a ha hf; clear ha
        obtain ⟨q152, hcall153, h⟩ := bnd h
        have hp154 : Hp _ _ _ (Res.opt (LoomK 75 5) v3 ax11 :: Res.obj 70 v11 [v114, .int .i64 s112.2.1, .int .i64 s112.2.2] :: Res.rows (RowK.sl (Ek.int .u8) 5) 59 v114 v115 s112.1 :: Res.opt (LoomK 75 5) v7 bx13 :: Res.opt pk70 v15 n17 :: ow) := Hp.sel (pre := [Res.obj 70 v11 [v114, .int .i64 s112.2.1, .int .i64 s112.2.2], Res.rows (RowK.sl (Ek.int .u8) 5) 59 v114 v115 s112.1, Res.opt (LoomK 75 5) v3 ax11, Res.opt (LoomK 75 5) v7 bx13, Res.opt pk70 v15 n17]) (tail := ow) (rs' := [Res.opt (LoomK 75 5) v3 ax11, Res.obj 70 v11 [v114, .int .i64 s112.2.1, .int .i64 s112.2.2], Res.rows (RowK.sl (Ek.int .u8) 5) 59 v114 v115 s112.1, Res.opt (LoomK 75 5) v7 bx13, Res.opt pk70 v15 n17]) hp [2, 0, 1, 3, 4] (by decide) (by simp) rfl
        refine st_call hf (by decide) Try.func32 rfl rfl rfl rfl rfl (f_weave_Loom_Run_c _ _ _ hp154 hcall153) ?_
        rintro _ w ⟨rfl, hp0⟩
        clear hp; have hp := hp0; clear hp0
        replace hp : Hp _ _ _ (Res.opt (LoomK 75 5) v3 q152.2.2 :: Res.obj 70 v11 [v114, .int .i64 s112.2.1, .int .i64 s112.2.2] :: Res.rows (RowK.sl (Ek.int .u8) 5) 59 v114 v115 s112.1 :: Res.opt (LoomK 75 5) v7 bx13 :: Res.opt pk70 v15 n17 :: ow) := hp
        refine ⟨_, rfl, ?_⟩
        clear hf; intro a hf
        refine st_move hf rfl rfl (by decide) ?_
        clear hf; intro a ha hf; clear ha
        refine st_extract hf (by decide) rfl rfl rfl ?_
        clear hf; intro a ha hf; clear ha
        refine st_extract hf (by decide) rfl rfl rfl ?_
        clear hf; intro a ha hf; clear ha
        refine st_assign hf rfl rfl (by decide) ?_
        clear hf; intro a ha hf; clear ha
        refine st_assign hf rfl rfl (by decide) ?_
        clear hf; intro a ha hf; clear ha
        refine st_nil hf ?_
        refine th_n ?_
        refine wp_seq ?_
        refine wp_reg ?_
        refine st_move hf rfl rfl (by decide) ?_
        clear hf; intro a ha hf; clear ha
        refine st_move hf rfl rfl (by decide) ?_
        clear hf; intro a ha hf; clear ha
        refine st_move hf rfl rfl (by decide) ?_
        clear hf; intro a ha hf; clear ha
        obtain ⟨hc155, h⟩ := chk h
        refine st_index (E := (Ek.pair (Ek.int .i64) (Ek.pair (Ek.int .i64) (Ek.pair (Ek.int .u8) Ek.str)))) hf (by decide) Try.underlying44 elt52 rfl rfl rfl (hl4.sl hp) hc155.1 hc155.2 ?_
        clear hf; intro a ha hf; clear ha
        refine st_faP (off := 3) (sz := 1) hf (by decide) (by kernel_rfl) (by decide) rfl rfl (Sl.isP (hl4.sl hp) hc155.1 hc155.2) ?_
        clear hf; intro a ha hf; clear ha
        refine st_ldQ (F := Ek.str) (yv := (gt l4 i19).2.2.2) hf (by decide) pl9 (fun x => .string x) (fun _ _ h => h) rfl rfl (Sl.part (E := (Ek.pair (Ek.int .i64) (Ek.pair (Ek.int .i64) (Ek.pair (Ek.int .u8) Ek.str)))) (F := Ek.str) (o := 3) (Sub.comp (Sub.snd (E := (Ek.int .i64)) (F := (Ek.pair (Ek.int .i64) (Ek.pair (Ek.int .u8) Ek.str)))) (Sub.comp (Sub.snd (E := (Ek.int .i64)) (F := (Ek.pair (Ek.int .u8) Ek.str))) (Sub.snd (E := (Ek.int .u8)) (F := Ek.str)))) (hl4.sl hp) hc155.1 hc155.2) ?_
        clear hf; intro a ha hf; clear ha
        obtain ⟨q156, hcall157, h⟩ := bnd h
        have hp158 : Hp _ _ _ (Res.rows (RowK.sl (Ek.int .u8) 5) 59 v114 v115 s112.1 :: Res.obj 70 v11 [v114, .int .i64 s112.2.1, .int .i64 s112.2.2] :: Res.opt (LoomK 75 5) v3 q152.2.2 :: Res.opt (LoomK 75 5) v7 bx13 :: Res.opt pk70 v15 n17 :: ow) := Hp.sel (pre := [Res.opt (LoomK 75 5) v3 q152.2.2, Res.obj 70 v11 [v114, .int .i64 s112.2.1, .int .i64 s112.2.2], Res.rows (RowK.sl (Ek.int .u8) 5) 59 v114 v115 s112.1, Res.opt (LoomK 75 5) v7 bx13, Res.opt pk70 v15 n17]) (tail := ow) (rs' := [Res.rows (RowK.sl (Ek.int .u8) 5) 59 v114 v115 s112.1, Res.obj 70 v11 [v114, .int .i64 s112.2.1, .int .i64 s112.2.2], Res.opt (LoomK 75 5) v3 q152.2.2, Res.opt (LoomK 75 5) v7 bx13, Res.opt pk70 v15 n17]) hp [2, 1, 0, 3, 4] (by decide) (by simp) rfl
        refine st_call hf (by decide) Try.func33 rfl rfl rfl rfl rfl (f_foghornref17_Loom_Run_c _ _ _ _ _ _ _ hp158 hcall157) ?_
        rintro _ w ⟨v159, v160, rfl, hp0⟩
        clear hp; have hp := hp0; clear hp0
        replace hp : Hp _ _ _ (Res.rows (RowK.sl (Ek.int .u8) 5) 59 v159 v160 q156.2.2.1 :: Res.obj 70 v11 [v159, .int .i64 q156.2.2.2.1, .int .i64 q156.2.2.2.2] :: Res.opt (LoomK 75 5) v3 q152.2.2 :: Res.opt (LoomK 75 5) v7 bx13 :: Res.opt pk70 v15 n17 :: ow) := hp
        refine ⟨_, rfl, ?_⟩
        clear hf; intro a hf
        refine st_move hf rfl rfl (by decide) ?_
        clear hf; intro a ha hf; clear ha
        refine st_extract hf (by decide) rfl rfl rfl ?_
        clear hf; intro a ha hf; clear ha
        refine st_extract hf (by decide) rfl rfl rfl ?_
        clear hf; intro a ha hf; clear ha
        refine st_assign hf rfl rfl (by decide) ?_
        clear hf; intro a ha hf; clear ha
        refine st_assign hf rfl rfl (by decide) ?_
        clear hf; intro a ha hf; clear ha
        refine st_nil hf ?_
        refine th_n ?_
        refine wp_seq ?_
        refine wp_reg ?_
        refine st_move hf rfl rfl (by decide) ?_
        clear hf; intro a ha hf; clear ha
        refine st_move hf rfl rfl (by decide) ?_
        clear hf; intro a ha hf; clear ha
        refine st_sneq hf (by decide) rfl rfl rfl ?_
        clear hf; intro a ha hf; clear ha
        refine st_move hf rfl rfl (by decide) ?_
        clear hf; intro a ha hf; clear ha
        refine wpList_cut 4 (fun a w => Fr 161 a [(4, vl4), (11, v3), (13, v7), (15, v11), (17, v15), (19, .int .i64 i19), (20, v3), (21, v11), (155, .bool ((!seq q152.1 q156.1) || (q152.2.1 != q156.2.1)))] ∧ Hp S w0 w (Res.rows (RowK.sl (Ek.int .u8) 5) 59 v159 v160 q156.2.2.1 :: Res.obj 70 v11 [v159, .int .i64 q156.2.2.2.1, .int .i64 q156.2.2.2.2] :: Res.opt (LoomK 75 5) v3 q152.2.2 :: Res.opt (LoomK 75 5) v7 bx13 :: Res.opt pk70 v15 n17 :: ow)) ?_ ?_
        · rcases Bool.eq_false_or_eq_true (!seq q152.1 q156.1) with hb163 | hb163
          · skip
            refine st_skip hf (wantN hf rfl rfl hb163) rfl (by decide) ?_ rfl
            clear hf; intro a hf
            refine st_skip hf (wantN hf rfl rfl hb163) rfl (by decide) ?_ rfl
            clear hf; intro a hf
            refine st_skip hf (wantN hf rfl rfl hb163) rfl (by decide) ?_ rfl
            clear hf; intro a hf
            refine st_pick (v := .bool true) hf rfl rfl (fun hb' => ?_) (fun hb' => ?_) (by decide) ?_
            · rfl
            · exact absurd (hb163.symm.trans hb') (by decide)
            clear hf; intro a ha hf; clear ha
            refine st_nil hf (th_n ?_)
            exact ⟨hf.sub ⟨rfl, rfl, rfl, rfl, rfl, rfl, rfl, rfl, (by rw [hb163]; rfl), trivial⟩, hp⟩
          refine st_move hf (wantY hf rfl rfl hb163) rfl (by decide) ?_
          clear hf; intro a ha hf; clear ha
          refine st_move hf (wantY hf rfl rfl hb163) rfl (by decide) ?_
          clear hf; intro a ha hf; clear ha
          refine st_ineq hf (by decide) (wantY hf rfl rfl hb163) rfl rfl ?_
          clear hf; intro a ha hf; clear ha
          refine st_pick (v := .bool (q152.2.1 != q156.2.1)) hf rfl rfl (fun hb' => ?_) (fun hb' => ?_) (by decide) ?_
          · exact absurd (hb163.symm.trans hb') (by decide)
          · rfl
          clear hf; intro a ha hf; clear ha
          refine st_nil hf (th_n ?_)
          exact ⟨hf.sub ⟨rfl, rfl, rfl, rfl, rfl, rfl, rfl, rfl, (by rw [hb163]; rfl), trivial⟩, hp⟩
        rintro a w ⟨hf, hp⟩
        refine st_nil hf ?_
        refine th_n ?_
        refine wp_if hf rfl (fun hb => ?_) (fun hb => ?_)
        · replace h := ifT h hb
          refine wp_seq ?_
          refine wp_reg ?_
          refine st_assign hf rfl rfl (by decide) ?_
          clear hf; intro a ha hf; clear ha
          refine st_nil hf ?_
          refine th_n ?_
          refine wp_ret ?_
          refine ib_r ?_
          refine th_r ?_
          refine ib_r ?_
          refine th_r ?_
          obtain rfl := Option.some.inj h
          have hp : Hp _ _ _ (ow) := Hp.sel (pre := [Res.rows (RowK.sl (Ek.int .u8) 5) 59 v159 v160 q156.2.2.1, Res.obj 70 v11 [v159, .int .i64 q156.2.2.2.1, .int .i64 q156.2.2.2.2], Res.opt (LoomK 75 5) v3 q152.2.2, Res.opt (LoomK 75 5) v7 bx13, Res.opt pk70 v15 n17]) (tail := ow) (rs' := []) hp [] (by decide) (by simp) rfl
          exact rnd_r (by simp) ⟨rfl, ⟨hf.sub ⟨rfl, trivial⟩, hp⟩⟩
        replace h := ifF h hb
        refine wp_skip ?_
        refine ib_n ?_
        refine th_n ?_
        refine wp_seq ?_
        refine wp_reg ?_
        refine st_move hf rfl rfl (by decide) ?_
        clear hf; intro a ha hf; clear ha
        obtain ⟨q164, hcall165, h⟩ := bnd h
        have hp166 : Hp _ _ _ (Res.opt (LoomK 75 5) v3 q152.2.2 :: Res.rows (RowK.sl (Ek.int .u8) 5) 59 v159 v160 q156.2.2.1 :: Res.obj 70 v11 [v159, .int .i64 q156.2.2.2.1, .int .i64 q156.2.2.2.2] :: Res.opt (LoomK 75 5) v7 bx13 :: Res.opt pk70 v15 n17 :: ow) := Hp.sel (pre := [Res.rows (RowK.sl (Ek.int .u8) 5) 59 v159 v160 q156.2.2.1, Res.obj 70 v11 [v159, .int .i64 q156.2.2.2.1, .int .i64 q156.2.2.2.2], Res.opt (LoomK 75 5) v3 q152.2.2, Res.opt (LoomK 75 5) v7 bx13, Res.opt pk70 v15 n17]) (tail := ow) (rs' := [Res.opt (LoomK 75 5) v3 q152.2.2, Res.rows (RowK.sl (Ek.int .u8) 5) 59 v159 v160 q156.2.2.1, Res.obj 70 v11 [v159, .int .i64 q156.2.2.2.1, .int .i64 q156.2.2.2.2], Res.opt (LoomK 75 5) v7 bx13, Res.opt pk70 v15 n17]) hp [2, 0, 1, 3, 4] (by decide) (by simp) rfl
        refine st_call hf (by decide) Try.func34 rfl rfl rfl rfl rfl (f_weave_Loom_Delay_c _ _ hp166 hcall165) ?_
        rintro _ w ⟨rfl, hp0⟩
        clear hp; have hp := hp0; clear hp0
        replace hp : Hp _ _ _ (Res.opt (LoomK 75 5) v3 q152.2.2 :: Res.rows (RowK.sl (Ek.int .u8) 5) 59 v159 v160 q156.2.2.1 :: Res.obj 70 v11 [v159, .int .i64 q156.2.2.2.1, .int .i64 q156.2.2.2.2] :: Res.opt (LoomK 75 5) v7 bx13 :: Res.opt pk70 v15 n17 :: ow) := hp
        refine ⟨_, rfl, ?_⟩
        clear hf; intro a hf
        refine st_move hf rfl rfl (by decide) ?_
        clear hf; intro a ha hf; clear ha
        obtain ⟨q167, hcall168, h⟩ := bnd h
        obtain ⟨S169, hp170, rd171, up172, bk173⟩ := Hp.lendR hp (i := 1) rfl
        obtain ⟨S174, hp175, rd176, up177, bk178⟩ := Hp.lendO hp170 (i := 1) rfl
        refine st_call hf (by decide) Try.func35 rfl rfl rfl rfl rfl (f_foghornref17_Loom_Delay_c hp175 _ _ _ ((rd171.now hp170).mono up177) _ _ _ rd176 hcall168) ?_
        rintro _ w ⟨rfl, hp0⟩
        have hp0 := bk178 _ _ hp0
        have hp0 := bk173 _ _ hp0
        clear hp; have hp := hp0; clear hp0
        replace hp : Hp _ _ _ (Res.rows (RowK.sl (Ek.int .u8) 5) 59 v159 v160 q156.2.2.1 :: Res.obj 70 v11 [v159, .int .i64 q156.2.2.2.1, .int .i64 q156.2.2.2.2] :: Res.opt (LoomK 75 5) v3 q152.2.2 :: Res.opt (LoomK 75 5) v7 bx13 :: Res.opt pk70 v15 n17 :: ow) := hp
        refine ⟨_, rfl, ?_⟩
        clear hf; intro a hf
        refine st_ineq hf (by decide) rfl rfl rfl ?_
        clear hf; intro a ha hf; clear ha
        refine st_nil hf ?_
        refine th_n ?_
        refine wp_if hf rfl (fun hb => ?_) (fun hb => ?_)
        · replace h := ifT h hb
          refine wp_seq ?_
          refine wp_reg ?_
          refine st_assign hf rfl rfl (by decide) ?_
          clear hf; intro a ha hf; clear ha
          refine st_nil hf ?_
          refine th_n ?_
          refine wp_ret ?_
          refine ib_r ?_
          refine th_r ?_
          obtain rfl := Option.some.inj h
          have hp : Hp _ _ _ (ow) := Hp.sel (pre := [Res.rows (RowK.sl (Ek.int .u8) 5) 59 v159 v160 q156.2.2.1, Res.obj 70 v11 [v159, .int .i64 q156.2.2.2.1, .int .i64 q156.2.2.2.2], Res.opt (LoomK 75 5) v3 q152.2.2, Res.opt (LoomK 75 5) v7 bx13, Res.opt pk70 v15 n17]) (tail := ow) (rs' := []) hp [] (by decide) (by simp) rfl
          exact rnd_r (by simp) ⟨rfl, ⟨hf.sub ⟨rfl, trivial⟩, hp⟩⟩
        replace h := ifF h hb
        refine wp_skip ?_
        refine ib_n ?_
        refine th_n ?_
        refine wp_reg ?_
        refine st_move hf rfl rfl (by decide) ?_
        clear hf; intro a ha hf; clear ha
        refine st_iadd hf (by decide) rfl rfl rfl ?_
        clear hf; intro a ha hf; clear ha
        refine st_assign hf rfl rfl (by decide) ?_
        clear hf; intro a ha hf; clear ha
        refine st_nil hf ?_
        have hp : Hp _ _ _ (Res.obj 70 v11 [v159, .int .i64 q156.2.2.2.1, .int .i64 q156.2.2.2.2] :: Res.rows (RowK.sl (Ek.int .u8) 5) 59 v159 v160 q156.2.2.1 :: Res.opt (LoomK 75 5) v3 q152.2.2 :: Res.opt (LoomK 75 5) v7 bx13 :: Res.opt pk70 v15 n17 :: ow) := Hp.sel (pre := [Res.rows (RowK.sl (Ek.int .u8) 5) 59 v159 v160 q156.2.2.1, Res.obj 70 v11 [v159, .int .i64 q156.2.2.2.1, .int .i64 q156.2.2.2.2], Res.opt (LoomK 75 5) v3 q152.2.2, Res.opt (LoomK 75 5) v7 bx13, Res.opt pk70 v15 n17]) (tail := ow) (rs' := [Res.obj 70 v11 [v159, .int .i64 q156.2.2.2.1, .int .i64 q156.2.2.2.2], Res.rows (RowK.sl (Ek.int .u8) 5) 59 v159 v160 q156.2.2.1, Res.opt (LoomK 75 5) v3 q152.2.2, Res.opt (LoomK 75 5) v7 bx13, Res.opt pk70 v15 n17]) hp [1, 0, 2, 3, 4] (by decide) (by simp) rfl
        replace hp : Hp _ _ _ (Res.opt pk70 v11 (some (q156.2.2.1, q156.2.2.2.1, q156.2.2.2.2)) :: Res.opt (LoomK 75 5) v3 q152.2.2 :: Res.opt (LoomK 75 5) v7 bx13 :: Res.opt pk70 v15 n17 :: ow) := pk70_out (s := (q156.2.2.1, q156.2.2.2.1, q156.2.2.2.2)) (u := (v159, v160)) hp
        obtain rfl := Option.some.inj h
        have hp : Hp _ _ _ (Res.opt (LoomK 75 5) v3 q152.2.2 :: Res.opt (LoomK 75 5) v7 bx13 :: Res.opt pk70 v11 (some (q156.2.2.1, q156.2.2.2.1, q156.2.2.2.2)) :: Res.opt pk70 v15 n17 :: ow) := Hp.sel (pre := [Res.opt pk70 v11 (some (q156.2.2.1, q156.2.2.2.1, q156.2.2.2.2)), Res.opt (LoomK 75 5) v3 q152.2.2, Res.opt (LoomK 75 5) v7 bx13, Res.opt pk70 v15 n17]) (tail := ow) (rs' := [Res.opt (LoomK 75 5) v3 q152.2.2, Res.opt (LoomK 75 5) v7 bx13, Res.opt pk70 v11 (some (q156.2.2.1, q156.2.2.2.1, q156.2.2.2.2)), Res.opt pk70 v15 n17]) hp [1, 2, 0, 3] (by decide) (by simp) rfl
        exact rnd_l ⟨hf.sub ⟨rfl, rfl, rfl, rfl, rfl, rfl, trivial⟩, hp⟩
      replace h := ifF h hb
      refine wp_skip ?_
      refine ib_n ?_
      refine th_n ?_
      refine wp_seq ?_
      refine wp_reg ?_
      refine st_move hf rfl rfl (by decide) ?_
      clear hf; intro a ha hf; clear ha
      obtain ⟨q179, hcall180, h⟩ := bnd h
      have hp181 : Hp _ _ _ (Res.opt (LoomK 75 5) v3 ax11 :: Res.obj 70 v11 [v114, .int .i64 s112.2.1, .int .i64 s112.2.2] :: Res.rows (RowK.sl (Ek.int .u8) 5) 59 v114 v115 s112.1 :: Res.opt (LoomK 75 5) v7 bx13 :: Res.opt pk70 v15 n17 :: ow) := Hp.sel (pre := [Res.obj 70 v11 [v114, .int .i64 s112.2.1, .int .i64 s112.2.2], Res.rows (RowK.sl (Ek.int .u8) 5) 59 v114 v115 s112.1, Res.opt (LoomK 75 5) v3 ax11, Res.opt (LoomK 75 5) v7 bx13, Res.opt pk70 v15 n17]) (tail := ow) (rs' := [Res.opt (LoomK 75 5) v3 ax11, Res.obj 70 v11 [v114, .int .i64 s112.2.1, .int .i64 s112.2.2], Res.rows (RowK.sl (Ek.int .u8) 5) 59 v114 v115 s112.1, Res.opt (LoomK 75 5) v7 bx13, Res.opt pk70 v15 n17]) hp [2, 0, 1, 3, 4] (by decide) (by simp) rfl
      refine st_call hf (by decide) Try.func34 rfl rfl rfl rfl rfl (f_weave_Loom_Delay_c _ _ hp181 hcall180) ?_
      rintro _ w ⟨rfl, hp0⟩
      clear hp; have hp := hp0; clear hp0
      replace hp : Hp _ _ _ (Res.opt (LoomK 75 5) v3 ax11 :: Res.obj 70 v11 [v114, .int .i64 s112.2.1, .int .i64 s112.2.2] :: Res.rows (RowK.sl (Ek.int .u8) 5) 59 v114 v115 s112.1 :: Res.opt (LoomK 75 5) v7 bx13 :: Res.opt pk70 v15 n17 :: ow) := hp
      refine ⟨_, rfl, ?_⟩
      clear hf; intro a hf
      refine st_move hf rfl rfl (by decide) ?_
      clear hf; intro a ha hf; clear ha
      obtain ⟨q182, hcall183, h⟩ := bnd h
      obtain ⟨S184, hp185, rd186, up187, bk188⟩ := Hp.lendR hp (i := 2) rfl
      obtain ⟨S189, hp190, rd191, up192, bk193⟩ := Hp.lendO hp185 (i := 1) rfl
      refine st_call hf (by decide) Try.func35 rfl rfl rfl rfl rfl (f_foghornref17_Loom_Delay_c hp190 _ _ _ ((rd186.now hp185).mono up192) _ _ _ rd191 hcall183) ?_
      rintro _ w ⟨rfl, hp0⟩
      have hp0 := bk193 _ _ hp0
      have hp0 := bk188 _ _ hp0
      clear hp; have hp := hp0; clear hp0
      replace hp : Hp _ _ _ (Res.rows (RowK.sl (Ek.int .u8) 5) 59 v114 v115 s112.1 :: Res.obj 70 v11 [v114, .int .i64 s112.2.1, .int .i64 s112.2.2] :: Res.opt (LoomK 75 5) v3 ax11 :: Res.opt (LoomK 75 5) v7 bx13 :: Res.opt pk70 v15 n17 :: ow) := hp
      refine ⟨_, rfl, ?_⟩
      clear hf; intro a hf
      refine st_ineq hf (by decide) rfl rfl rfl ?_
      clear hf; intro a ha hf; clear ha
      refine st_nil hf ?_
      refine th_n ?_
      refine wp_if hf rfl (fun hb => ?_) (fun hb => ?_)
      · replace h := ifT h hb
        refine wp_seq ?_
        refine wp_reg ?_
        refine st_assign hf rfl rfl (by decide) ?_
        clear hf; intro a ha hf; clear ha
        refine st_nil hf ?_
        refine th_n ?_
        refine wp_ret ?_
        refine ib_r ?_
        refine th_r ?_
        obtain rfl := Option.some.inj h
        have hp : Hp _ _ _ (ow) := Hp.sel (pre := [Res.rows (RowK.sl (Ek.int .u8) 5) 59 v114 v115 s112.1, Res.obj 70 v11 [v114, .int .i64 s112.2.1, .int .i64 s112.2.2], Res.opt (LoomK 75 5) v3 ax11, Res.opt (LoomK 75 5) v7 bx13, Res.opt pk70 v15 n17]) (tail := ow) (rs' := []) hp [] (by decide) (by simp) rfl
        exact rnd_r (by simp) ⟨rfl, ⟨hf.sub ⟨rfl, trivial⟩, hp⟩⟩
      replace h := ifF h hb
      refine wp_skip ?_
      refine ib_n ?_
      refine th_n ?_
      refine wp_reg ?_
      refine st_move hf rfl rfl (by decide) ?_
      clear hf; intro a ha hf; clear ha
      refine st_iadd hf (by decide) rfl rfl rfl ?_
      clear hf; intro a ha hf; clear ha
      refine st_assign hf rfl rfl (by decide) ?_
      clear hf; intro a ha hf; clear ha
      refine st_nil hf ?_
      have hp : Hp _ _ _ (Res.obj 70 v11 [v114, .int .i64 s112.2.1, .int .i64 s112.2.2] :: Res.rows (RowK.sl (Ek.int .u8) 5) 59 v114 v115 s112.1 :: Res.opt (LoomK 75 5) v3 ax11 :: Res.opt (LoomK 75 5) v7 bx13 :: Res.opt pk70 v15 n17 :: ow) := Hp.sel (pre := [Res.rows (RowK.sl (Ek.int .u8) 5) 59 v114 v115 s112.1, Res.obj 70 v11 [v114, .int .i64 s112.2.1, .int .i64 s112.2.2], Res.opt (LoomK 75 5) v3 ax11, Res.opt (LoomK 75 5) v7 bx13, Res.opt pk70 v15 n17]) (tail := ow) (rs' := [Res.obj 70 v11 [v114, .int .i64 s112.2.1, .int .i64 s112.2.2], Res.rows (RowK.sl (Ek.int .u8) 5) 59 v114 v115 s112.1, Res.opt (LoomK 75 5) v3 ax11, Res.opt (LoomK 75 5) v7 bx13, Res.opt pk70 v15 n17]) hp [1, 0, 2, 3, 4] (by decide) (by simp) rfl
      replace hp : Hp _ _ _ (Res.opt pk70 v11 (some (s112.1, s112.2.1, s112.2.2)) :: Res.opt (LoomK 75 5) v3 ax11 :: Res.opt (LoomK 75 5) v7 bx13 :: Res.opt pk70 v15 n17 :: ow) := pk70_out (s := (s112.1, s112.2.1, s112.2.2)) (u := (v114, v115)) hp
      obtain rfl := Option.some.inj h
      have hp : Hp _ _ _ (Res.opt (LoomK 75 5) v3 ax11 :: Res.opt (LoomK 75 5) v7 bx13 :: Res.opt pk70 v11 (some (s112.1, s112.2.1, s112.2.2)) :: Res.opt pk70 v15 n17 :: ow) := Hp.sel (pre := [Res.opt pk70 v11 (some (s112.1, s112.2.1, s112.2.2)), Res.opt (LoomK 75 5) v3 ax11, Res.opt (LoomK 75 5) v7 bx13, Res.opt pk70 v15 n17]) (tail := ow) (rs' := [Res.opt (LoomK 75 5) v3 ax11, Res.opt (LoomK 75 5) v7 bx13, Res.opt pk70 v11 (some (s112.1, s112.2.1, s112.2.2)), Res.opt pk70 v15 n17]) hp [1, 2, 0, 3] (by decide) (by simp) rfl
      exact rnd_l ⟨hf.sub ⟨rfl, rfl, rfl, rfl, rfl, rfl, trivial⟩, hp⟩
    replace h := ifF h hb
    refine wp_exit ?_
    refine th_e ?_
    obtain rfl := Option.some.inj h
    have hp : Hp _ _ _ (ow) := Hp.sel (pre := [Res.opt (LoomK 75 5) v3 ax11, Res.opt (LoomK 75 5) v7 bx13, Res.opt pk70 v11 m15, Res.opt pk70 v15 n17]) (tail := ow) (rs' := []) hp [] (by decide) (by simp) rfl
    exact rnd_r (by simp) ⟨rfl, hf.sub trivial, hp⟩
  clear hl hf hp
  intro e a w hne hO
  rcases q194 with q195 | q196
  · replace h := smL h
    obtain ⟨rfl, hf, hp⟩ := hO
    refine ib_same ?_
    refine th_n ?_
    refine wp_seq ?_
    refine wp_reg ?_
    refine st_assign hf rfl rfl (by decide) ?_
    clear hf; intro a ha hf; clear ha
    refine st_nil hf ?_
    refine th_n ?_
    refine wp_ret ?_
    obtain rfl := Option.some.inj h
    exact ⟨rfl, ⟨hf.sub ⟨rfl, trivial⟩, hp⟩⟩
  replace h := smR h
  obtain ⟨rfl, hf, hp⟩ := hO
  refine ib_r ?_
  refine th_r ?_
  obtain rfl := Option.some.inj h
  exact ⟨rfl, ⟨hf.sub ⟨rfl, trivial⟩, hp⟩⟩

end Go.Proofs.Ythoigfonjpmibaa
