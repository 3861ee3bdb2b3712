/- The functions foghorn foghornlaw06.TurnsWhole: what each answers, as a plain function, and that its call answers it; printed by gen.py. -/
import Derived.Test.YtienojgmpjpcjaaProg
import Derived.Test.YtienojgmpjpcjaaGlN
import Derived.KernelRfl
import Derived.Test.YtienojgmpjpcjaaG1p1
set_option linter.unusedVariables false
set_option maxRecDepth 100000
set_option maxHeartbeats 4000000
namespace Go.Proofs.Ytienojgmpjpcjaa
open GL
noncomputable def f_foghornlaw06_TurnsWhole.s1c (n1 : Int) (q5 : ((List Int) × Int)) (added14 : (List Int)) (i15 : Int) : Option (((List Int) × Int) ⊕ (List Int)) := (if (decide (i15 < (q5.1.length : Int))) = true then (if 0 ≤ i15 ∧ i15 < (q5.1.length : Int) then (if (added14.length + ([(((IntKind.u8.wrap ((gt q5.1 i15) + ((n1).tmod (4 : Int))))).tmod (4 : Int))]).length) * 1 ≤ 140737488355328 then (some (Sum.inl ((added14 ++ [(((IntKind.u8.wrap ((gt q5.1 i15) + ((n1).tmod (4 : Int))))).tmod (4 : Int))]), (IntKind.i64.wrap (i15 + (1 : Int)))))) else none) else none) else (some (Sum.inr added14)))
noncomputable def f_foghornlaw06_TurnsWhole.s1 (n1 : Int) (q5 : ((List Int) × Int)) (s : ((List Int) × Int)) : Option (((List Int) × Int) ⊕ (List Int)) := f_foghornlaw06_TurnsWhole.s1c n1 q5 s.1 s.2
noncomputable def f_foghornlaw06_TurnsWhole.s2c (n1 : Int) (q1 : (List Int)) (q90 : ((List Int) × Int)) (k20 : Int) : Option (Int ⊕ (Unit ⊕ Bool)) := (if (decide (k20 < (q90.1.length : Int))) = true then ((if (decide ((0 : Int) < k20)) = true then (if 0 ≤ k20 ∧ k20 < (q90.1.length : Int) then (if 0 ≤ k20 ∧ k20 < (q1.length : Int) then (some ((gt q90.1 k20) != (gt q1 k20))) else none) else none) else (some false)).bind fun z143 => ((if z143 = true then (some true) else ((if (k20 == (0 : Int)) = true then (if 0 ≤ (0 : Int) ∧ (0 : Int) < (q90.1.length : Int) then (if 0 ≤ (0 : Int) ∧ (0 : Int) < (q1.length : Int) then (some ((gt q90.1 (0 : Int)) != (((IntKind.u8.wrap ((gt q1 (0 : Int)) + ((n1).tmod (4 : Int))))).tmod (4 : Int)))) else none) else none) else (some false)).bind fun z150 => (some z150))).bind fun z151 => (if z151 = true then (some (Sum.inr (Sum.inr false))) else (some (Sum.inl (IntKind.i64.wrap (k20 + (1 : Int)))))))) else (some (Sum.inr (Sum.inl ()))))
noncomputable def f_foghornlaw06_TurnsWhole.s2 (n1 : Int) (q1 : (List Int)) (q90 : ((List Int) × Int)) (s : Int) : Option (Int ⊕ (Unit ⊕ Bool)) := f_foghornlaw06_TurnsWhole.s2c n1 q1 q90 s
noncomputable def f_foghornlaw06_TurnsWhole.s3c (k21 : Int) : Option (Int ⊕ (Unit ⊕ Bool)) := (if (decide (k21 < (4 : Int))) = true then ((f_turns_Bits ([k21, (((IntKind.u8.wrap (k21 + (1 : Int)))).tmod (4 : Int))])).bind fun q157 => ((if ((q157.2 != (0 : Int)) || ((q157.1.length : Int) != (4 : Int))) = true then (some true) else (if 0 ≤ (0 : Int) ∧ (0 : Int) < (q157.1.length : Int) then (if 0 ≤ (2 : Int) ∧ (2 : Int) < (q157.1.length : Int) then (if 0 ≤ (1 : Int) ∧ (1 : Int) < (q157.1.length : Int) then (if 0 ≤ (3 : Int) ∧ (3 : Int) < (q157.1.length : Int) then (some (((gt q157.1 (0 : Int)) == (gt q157.1 (2 : Int))) == ((gt q157.1 (1 : Int)) == (gt q157.1 (3 : Int))))) else none) else none) else none) else none)).bind fun z180 => (if z180 = true then (some (Sum.inr (Sum.inr false))) else (some (Sum.inl (IntKind.u8.wrap (k21 + (1 : Int)))))))) else (some (Sum.inr (Sum.inl ()))))
noncomputable def f_foghornlaw06_TurnsWhole.s3  (s : Int) : Option (Int ⊕ (Unit ⊕ Bool)) := f_foghornlaw06_TurnsWhole.s3c s
noncomputable def f_foghornlaw06_TurnsWhole (row0 : (List Int)) (n1 : Int) : Option Bool := ((f_foghornlaw06_fit row0 (300 : Int)).bind fun q1 => ((f_turns_Into q1).bind fun q5 => ((f_turns_Out q5.1).bind fun q14 => ((f_turns_Bits q1).bind fun q23 => ((f_turns_Of q23.1).bind fun q32 => ((if ((((q5.2 != (0 : Int)) || (q14.2 != (0 : Int))) || (q23.2 != (0 : Int))) || (q32.2 != (0 : Int))) = true then (some true) else ((f_foghornlaw06_quarters q14.1 q1).bind fun q50 => (some (!q50)))).bind fun z49 => ((if z49 = true then (some true) else ((f_foghornlaw06_quarters q32.1 q1).bind fun q65 => (some (!q65)))).bind fun z64 => (if (z64 || ((q23.1.length : Int) != (IntKind.i64.wrap ((2 : Int) * (q1.length : Int))))) = true then (some false) else ((loop (f_foghornlaw06_TurnsWhole.s1 n1 q5) ([], (0 : Int))).bind (fun q88 => ((f_turns_Out q88).bind fun q90 => ((f_turns_Into q90.1).bind fun q99 => ((if (((q90.2 != (0 : Int)) || (q99.2 != (0 : Int))) || ((q90.1.length : Int) != (q1.length : Int))) = true then (some true) else ((f_foghornlaw06_quarters q99.1 q88).bind fun q115 => (some (!q115)))).bind fun z114 => (if z114 = true then (some false) else ((loop (f_foghornlaw06_TurnsWhole.s2 n1 q1 q90) (0 : Int)).bind (fun q152 => sm q152 (fun q153 => ((loop f_foghornlaw06_TurnsWhole.s3 (0 : Int)).bind (fun q181 => sm q181 (fun q182 => ((f_foghornlaw06_awake).bind fun q184 => (some q184))) (fun q183 => (some q183))))) (fun q154 => (some q154))))))))))))))))))
theorem f_foghornlaw06_TurnsWhole_c {S : Nat → Prop} {w0 w : World} {ow : List Res} (hp : Hp S w0 w ow) (vrow0 : Value) (row0 : (List Int)) (hrow0 : RdS (Ek.int .u8) S w0 vrow0 row0) (n1 : Int) {r : Bool} (h : f_foghornlaw06_TurnsWhole row0 n1 = some r) :
    Calls Try.prog 3 #[vrow0, .int .u8 n1] w (fun e w' => e = .returned (.bool r) ∧ Hp S w0 w' (ow)) := by
  unfold f_foghornlaw06_TurnsWhole at h
  refine enter (n := 200) (args := [vrow0, .int .u8 n1]) Try.func3 rfl rfl (Nat.le_of_ble_eq_true rfl) fun a hf => ?_
  replace hf : Fr 200 a [(0, vrow0), (1, .int .u8 n1)] := hf
  refine wp_mono (Q := fun e a w => e = .ret ∧ Fr 200 a [(4, .bool r)] ∧ Hp S w0 w (ow)) ?_ ?_
  rotate_left
  · rintro e a w ⟨rfl, hf, hp⟩
    exact ret1 hf rfl rfl ⟨rfl, hp⟩
  refine wp_seq ?_
  refine wp_reg ?_
  refine st_assign hf rfl rfl (by decide) ?_
  clear hf; intro a ha hf; clear ha
  refine st_nil hf ?_
  refine th_n ?_
  refine wp_seq ?_
  refine wp_reg ?_
  refine st_move hf rfl rfl (by decide) ?_
  clear hf; intro a ha hf; clear ha
  obtain ⟨q1, hcall2, h⟩ := bnd h
  refine st_call hf (by decide) Try.func8 rfl rfl rfl rfl rfl (f_foghornlaw06_fit_c hp _ _ hrow0 _ hcall2) ?_
  rintro _ w ⟨v3, rfl, hp0⟩
  clear hp; have hp := hp0; clear hp0
  replace hp : Hp _ _ w (Res.sl (Ek.int .u8) 5 v3 q1 :: ow) := hp
  refine ⟨_, rfl, ?_⟩
  clear hf; intro a hf
  refine st_assign hf rfl rfl (by decide) ?_
  clear hf; intro a ha hf; clear ha
  refine st_nil hf ?_
  refine th_n ?_
  refine wp_seq ?_
  refine wp_reg ?_
  refine st_move hf rfl rfl (by decide) ?_
  clear hf; intro a ha hf; clear ha
  obtain ⟨q5, hcall6, h⟩ := bnd h
  obtain ⟨S7, hp8, rd9, up10, bk11⟩ := Hp.lendS hp (i := 0) rfl
  refine st_call hf (by decide) Try.func9 rfl rfl rfl rfl rfl (f_turns_Into_c hp8 _ _ rd9 hcall6) ?_
  rintro _ w ⟨v12, rfl, hp0⟩
  have hp0 := bk11 _ _ hp0
  clear hp; have hp := hp0; clear hp0
  replace hp : Hp _ _ w (Res.sl (Ek.int .u8) 5 v3 q1 :: Res.sl (Ek.int .u8) 5 v12 q5.1 :: ow) := hp
  refine ⟨_, rfl, ?_⟩
  clear hf; intro a hf
  refine st_move hf rfl rfl (by decide) ?_
  clear hf; intro a ha hf; clear ha
  refine st_extract hf (by decide) rfl rfl rfl ?_
  clear hf; intro a ha hf; clear ha
  refine st_extract hf (by decide) rfl rfl rfl ?_
  clear hf; intro a ha hf; clear ha
  refine st_assign hf rfl rfl (by decide) ?_
  clear hf; intro a ha hf; clear ha
  refine st_assign hf rfl rfl (by decide) ?_
  clear hf; intro a ha hf; clear ha
  refine st_nil hf ?_
  refine th_n ?_
  refine wp_seq ?_
  refine wp_reg ?_
  refine st_move hf rfl rfl (by decide) ?_
  clear hf; intro a ha hf; clear ha
  obtain ⟨q14, hcall15, h⟩ := bnd h
  obtain ⟨S16, hp17, rd18, up19, bk20⟩ := Hp.lendS hp (i := 1) rfl
  refine st_call hf (by decide) Try.func10 rfl rfl rfl rfl rfl (f_turns_Out_c hp17 _ _ rd18 hcall15) ?_
  rintro _ w ⟨v21, rfl, hp0⟩
  have hp0 := bk20 _ _ hp0
  clear hp; have hp := hp0; clear hp0
  replace hp : Hp _ _ w (Res.sl (Ek.int .u8) 5 v12 q5.1 :: Res.sl (Ek.int .u8) 5 v21 q14.1 :: Res.sl (Ek.int .u8) 5 v3 q1 :: ow) := hp
  refine ⟨_, rfl, ?_⟩
  clear hf; intro a hf
  refine st_move hf rfl rfl (by decide) ?_
  clear hf; intro a ha hf; clear ha
  refine st_extract hf (by decide) rfl rfl rfl ?_
  clear hf; intro a ha hf; clear ha
  refine st_extract hf (by decide) rfl rfl rfl ?_
  clear hf; intro a ha hf; clear ha
  refine st_assign hf rfl rfl (by decide) ?_
  clear hf; intro a ha hf; clear ha
  refine st_assign hf rfl rfl (by decide) ?_
  clear hf; intro a ha hf; clear ha
  refine st_nil hf ?_
  refine th_n ?_
  refine wp_seq ?_
  refine wp_reg ?_
  refine st_move hf rfl rfl (by decide) ?_
  clear hf; intro a ha hf; clear ha
  obtain ⟨q23, hcall24, h⟩ := bnd h
  obtain ⟨S25, hp26, rd27, up28, bk29⟩ := Hp.lendS hp (i := 2) rfl
  refine st_call hf (by decide) Try.func11 rfl rfl rfl rfl rfl (f_turns_Bits_c hp26 _ _ rd27 hcall24) ?_
  rintro _ w ⟨v30, rfl, hp0⟩
  have hp0 := bk29 _ _ hp0
  clear hp; have hp := hp0; clear hp0
  replace hp : Hp _ _ w (Res.sl (Ek.int .u8) 5 v3 q1 :: Res.sl Ek.bool 4 v30 q23.1 :: Res.sl (Ek.int .u8) 5 v12 q5.1 :: Res.sl (Ek.int .u8) 5 v21 q14.1 :: ow) := hp
  refine ⟨_, rfl, ?_⟩
  clear hf; intro a hf
  refine st_move hf rfl rfl (by decide) ?_
  clear hf; intro a ha hf; clear ha
  refine st_extract hf (by decide) rfl rfl rfl ?_
  clear hf; intro a ha hf; clear ha
  refine st_extract hf (by decide) rfl rfl rfl ?_
  clear hf; intro a ha hf; clear ha
  refine st_assign hf rfl rfl (by decide) ?_
  clear hf; intro a ha hf; clear ha
  refine st_assign hf rfl rfl (by decide) ?_
  clear hf; intro a ha hf; clear ha
  refine st_nil hf ?_
  refine th_n ?_
  refine wp_seq ?_
  refine wp_reg ?_
  refine st_move hf rfl rfl (by decide) ?_
  clear hf; intro a ha hf; clear ha
  obtain ⟨q32, hcall33, h⟩ := bnd h
  obtain ⟨S34, hp35, rd36, up37, bk38⟩ := Hp.lendS hp (i := 1) rfl
  refine st_call hf (by decide) Try.func12 rfl rfl rfl rfl rfl (f_turns_Of_c hp35 _ _ rd36 hcall33) ?_
  rintro _ w ⟨v39, rfl, hp0⟩
  have hp0 := bk38 _ _ hp0
  clear hp; have hp := hp0; clear hp0
  replace hp : Hp _ _ w (Res.sl Ek.bool 4 v30 q23.1 :: Res.sl (Ek.int .u8) 5 v39 q32.1 :: Res.sl (Ek.int .u8) 5 v3 q1 :: Res.sl (Ek.int .u8) 5 v12 q5.1 :: Res.sl (Ek.int .u8) 5 v21 q14.1 :: ow) := hp
  refine ⟨_, rfl, ?_⟩
  clear hf; intro a hf
  refine st_move hf rfl rfl (by decide) ?_
  clear hf; intro a ha hf; clear ha
  refine st_extract hf (by decide) rfl rfl rfl ?_
  clear hf; intro a ha hf; clear ha
  refine st_extract hf (by decide) rfl rfl rfl ?_
  clear hf; intro a ha hf; clear ha
  refine st_assign hf rfl rfl (by decide) ?_
  clear hf; intro a ha hf; clear ha
  refine st_assign hf rfl rfl (by decide) ?_
  clear hf; intro a ha hf; clear ha
  refine st_nil hf ?_
  refine th_n ?_
  refine wp_seq ?_
  refine wp_seq ?_
  refine wp_reg ?_
  refine st_move hf rfl rfl (by decide) ?_
  clear hf; intro a ha hf; clear ha
  refine st_ineq hf (by decide) rfl rfl rfl ?_
  clear hf; intro a ha hf; clear ha
  refine st_move hf rfl rfl (by decide) ?_
  clear hf; intro a ha hf; clear ha
  refine wpList_cut 3 (fun a w => Fr 200 a [(1, .int .u8 n1), (5, v3), (6, v12), (8, v21), (10, v30), (11, .int .i64 q23.2), (12, v39), (13, .int .i64 q32.2), (51, .bool ((q5.2 != (0 : Int)) || (q14.2 != (0 : Int))))] ∧ Hp S w0 w (Res.sl Ek.bool 4 v30 q23.1 :: Res.sl (Ek.int .u8) 5 v39 q32.1 :: Res.sl (Ek.int .u8) 5 v3 q1 :: Res.sl (Ek.int .u8) 5 v12 q5.1 :: Res.sl (Ek.int .u8) 5 v21 q14.1 :: ow)) ?_ ?_
  · rcases Bool.eq_false_or_eq_true (q5.2 != (0 : Int)) with hb42 | hb42
    · skip
      refine st_skip hf (wantN hf rfl rfl hb42) rfl (by decide) ?_ rfl
      clear hf; intro a hf
      refine st_skip hf (wantN hf rfl rfl hb42) rfl (by decide) ?_ rfl
      clear hf; intro a hf
      refine st_pick (v := .bool true) hf rfl rfl (fun hb' => ?_) (fun hb' => ?_) (by decide) ?_
      · rfl
      · exact absurd (hb42.symm.trans hb') (by decide)
      clear hf; intro a ha hf; clear ha
      refine st_nil hf (th_n ?_)
      exact ⟨hf.sub ⟨rfl, rfl, rfl, rfl, rfl, rfl, rfl, rfl, (by rw [hb42]; rfl), trivial⟩, hp⟩
    · skip
      refine st_move hf (wantY hf rfl rfl hb42) rfl (by decide) ?_
      clear hf; intro a ha hf; clear ha
      refine st_ineq hf (by decide) (wantY hf rfl rfl hb42) rfl rfl ?_
      clear hf; intro a ha hf; clear ha
      refine st_pick (v := .bool (q14.2 != (0 : Int))) hf rfl rfl (fun hb' => ?_) (fun hb' => ?_) (by decide) ?_
      · exact absurd (hb42.symm.trans hb') (by decide)
      · rfl
      clear hf; intro a ha hf; clear ha
      refine st_nil hf (th_n ?_)
      exact ⟨hf.sub ⟨rfl, rfl, rfl, rfl, rfl, rfl, rfl, rfl, (by rw [hb42]; rfl), trivial⟩, hp⟩
  · rintro a w ⟨hf, hp⟩
    refine st_move hf rfl rfl (by decide) ?_
    clear hf; intro a ha hf; clear ha
    refine wpList_cut 3 (fun a w => Fr 200 a [(1, .int .u8 n1), (5, v3), (6, v12), (8, v21), (10, v30), (12, v39), (13, .int .i64 q32.2), (55, .bool (((q5.2 != (0 : Int)) || (q14.2 != (0 : Int))) || (q23.2 != (0 : Int))))] ∧ Hp S w0 w (Res.sl Ek.bool 4 v30 q23.1 :: Res.sl (Ek.int .u8) 5 v39 q32.1 :: Res.sl (Ek.int .u8) 5 v3 q1 :: Res.sl (Ek.int .u8) 5 v12 q5.1 :: Res.sl (Ek.int .u8) 5 v21 q14.1 :: ow)) ?_ ?_
    · rcases Bool.eq_false_or_eq_true ((q5.2 != (0 : Int)) || (q14.2 != (0 : Int))) with hb44 | hb44
      · skip
        refine st_skip hf (wantN hf rfl rfl hb44) rfl (by decide) ?_ rfl
        clear hf; intro a hf
        refine st_skip hf (wantN hf rfl rfl hb44) rfl (by decide) ?_ rfl
        clear hf; intro a hf
        refine st_pick (v := .bool true) hf rfl rfl (fun hb' => ?_) (fun hb' => ?_) (by decide) ?_
        · rfl
        · exact absurd (hb44.symm.trans hb') (by decide)
        clear hf; intro a ha hf; clear ha
        refine st_nil hf (th_n ?_)
        exact ⟨hf.sub ⟨rfl, rfl, rfl, rfl, rfl, rfl, rfl, (by rw [hb44]; rfl), trivial⟩, hp⟩
      · skip
        refine st_move hf (wantY hf rfl rfl hb44) rfl (by decide) ?_
        clear hf; intro a ha hf; clear ha
        refine st_ineq hf (by decide) (wantY hf rfl rfl hb44) rfl rfl ?_
        clear hf; intro a ha hf; clear ha
        refine st_pick (v := .bool (q23.2 != (0 : Int))) hf rfl rfl (fun hb' => ?_) (fun hb' => ?_) (by decide) ?_
        · exact absurd (hb44.symm.trans hb') (by decide)
        · rfl
        clear hf; intro a ha hf; clear ha
        refine st_nil hf (th_n ?_)
        exact ⟨hf.sub ⟨rfl, rfl, rfl, rfl, rfl, rfl, rfl, (by rw [hb44]; rfl), trivial⟩, hp⟩
    · rintro a w ⟨hf, hp⟩
      refine st_move hf rfl rfl (by decide) ?_
      clear hf; intro a ha hf; clear ha
      refine wpList_cut 3 (fun a w => Fr 200 a [(1, .int .u8 n1), (5, v3), (6, v12), (8, v21), (10, v30), (12, v39), (59, .bool ((((q5.2 != (0 : Int)) || (q14.2 != (0 : Int))) || (q23.2 != (0 : Int))) || (q32.2 != (0 : Int))))] ∧ Hp S w0 w (Res.sl Ek.bool 4 v30 q23.1 :: Res.sl (Ek.int .u8) 5 v39 q32.1 :: Res.sl (Ek.int .u8) 5 v3 q1 :: Res.sl (Ek.int .u8) 5 v12 q5.1 :: Res.sl (Ek.int .u8) 5 v21 q14.1 :: ow)) ?_ ?_
      · rcases Bool.eq_false_or_eq_true (((q5.2 != (0 : Int)) || (q14.2 != (0 : Int))) || (q23.2 != (0 : Int))) with hb46 | hb46
        · skip
          refine st_skip hf (wantN hf rfl rfl hb46) rfl (by decide) ?_ rfl
          clear hf; intro a hf
          refine st_skip hf (wantN hf rfl rfl hb46) rfl (by decide) ?_ rfl
          clear hf; intro a hf
          refine st_pick (v := .bool true) hf rfl rfl (fun hb' => ?_) (fun hb' => ?_) (by decide) ?_
          · rfl
          · exact absurd (hb46.symm.trans hb') (by decide)
          clear hf; intro a ha hf; clear ha
          refine st_nil hf (th_n ?_)
          exact ⟨hf.sub ⟨rfl, rfl, rfl, rfl, rfl, rfl, (by rw [hb46]; rfl), trivial⟩, hp⟩
        · skip
          refine st_move hf (wantY hf rfl rfl hb46) rfl (by decide) ?_
          clear hf; intro a ha hf; clear ha
          refine st_ineq hf (by decide) (wantY hf rfl rfl hb46) rfl rfl ?_
          clear hf; intro a ha hf; clear ha
          refine st_pick (v := .bool (q32.2 != (0 : Int))) hf rfl rfl (fun hb' => ?_) (fun hb' => ?_) (by decide) ?_
          · exact absurd (hb46.symm.trans hb') (by decide)
          · rfl
          clear hf; intro a ha hf; clear ha
          refine st_nil hf (th_n ?_)
          exact ⟨hf.sub ⟨rfl, rfl, rfl, rfl, rfl, rfl, (by rw [hb46]; rfl), trivial⟩, hp⟩
      · rintro a w ⟨hf, hp⟩
        refine st_move hf rfl rfl (by decide) ?_
        clear hf; intro a ha hf; clear ha
        obtain ⟨z49, hz47, h⟩ := bnd h
        refine wpList_cut 5 (fun a w => Fr 200 a [(1, .int .u8 n1), (5, v3), (6, v12), (10, v30), (12, v39), (65, .bool z49)] ∧ Hp S w0 w (Res.sl Ek.bool 4 v30 q23.1 :: Res.sl (Ek.int .u8) 5 v39 q32.1 :: Res.sl (Ek.int .u8) 5 v3 q1 :: Res.sl (Ek.int .u8) 5 v12 q5.1 :: Res.sl (Ek.int .u8) 5 v21 q14.1 :: ow)) ?_ ?_
        · rcases Bool.eq_false_or_eq_true ((((q5.2 != (0 : Int)) || (q14.2 != (0 : Int))) || (q23.2 != (0 : Int))) || (q32.2 != (0 : Int))) with hb48 | hb48
          · skip
            replace hz47 := ifT hz47 hb48
            refine st_skip hf (wantN hf rfl rfl hb48) rfl (by decide) ?_ rfl
            clear hf; intro a hf
            refine st_skip hf (wantN hf rfl rfl hb48) rfl (by decide) ?_ rfl
            clear hf; intro a hf
            refine st_skip hf (wantN hf rfl rfl hb48) rfl (by decide) ?_ rfl
            clear hf; intro a hf
            refine st_skip hf (wantN hf rfl rfl hb48) rfl (by decide) ?_ rfl
            clear hf; intro a hf
            obtain rfl := Option.some.inj hz47
            refine st_pick (v := .bool true) hf rfl rfl (fun hb' => ?_) (fun hb' => ?_) (by decide) ?_
            · rfl
            · exact absurd (hb48.symm.trans hb') (by decide)
            clear hf; intro a ha hf; clear ha
            refine st_nil hf (th_n ?_)
            exact ⟨hf.sub ⟨rfl, rfl, rfl, rfl, rfl, rfl, trivial⟩, hp⟩
          · skip
            replace hz47 := ifF hz47 hb48
            refine st_move hf (wantY hf rfl rfl hb48) rfl (by decide) ?_
            clear hf; intro a ha hf; clear ha
            refine st_move hf (wantY hf rfl rfl hb48) rfl (by decide) ?_
            clear hf; intro a ha hf; clear ha
            obtain ⟨q50, hcall51, hz47⟩ := bnd hz47
            obtain ⟨S52, hp53, rd54, up55, bk56⟩ := Hp.lendS hp (i := 4) rfl
            obtain ⟨S57, hp58, rd59, up60, bk61⟩ := Hp.lendS hp53 (i := 2) rfl
            refine st_call hf (by decide) Try.func13 rfl rfl (wantY hf rfl rfl hb48) rfl rfl (f_foghornlaw06_quarters_c hp58 _ _ ((rd54.now hp53).mono up60) _ _ rd59 hcall51) ?_
            rintro _ w ⟨rfl, hp0⟩
            have hp0 := bk61 _ _ hp0
            have hp0 := bk56 _ _ hp0
            clear hp; have hp := hp0; clear hp0
            replace hp : Hp _ _ w (Res.sl (Ek.int .u8) 5 v21 q14.1 :: Res.sl (Ek.int .u8) 5 v3 q1 :: Res.sl Ek.bool 4 v30 q23.1 :: Res.sl (Ek.int .u8) 5 v39 q32.1 :: Res.sl (Ek.int .u8) 5 v12 q5.1 :: ow) := hp
            refine ⟨_, rfl, ?_⟩
            clear hf; intro a hf
            refine st_not hf (by decide) (wantY hf rfl rfl hb48) rfl ?_
            clear hf; intro a ha hf; clear ha
            obtain rfl := Option.some.inj hz47
            refine st_pick (v := .bool (!q50)) hf rfl rfl (fun hb' => ?_) (fun hb' => ?_) (by decide) ?_
            · exact absurd (hb48.symm.trans hb') (by decide)
            · rfl
            clear hf; intro a ha hf; clear ha
            refine st_nil hf (th_n ?_)
            have hp : Hp _ _ w (Res.sl Ek.bool 4 v30 q23.1 :: Res.sl (Ek.int .u8) 5 v39 q32.1 :: Res.sl (Ek.int .u8) 5 v3 q1 :: Res.sl (Ek.int .u8) 5 v12 q5.1 :: Res.sl (Ek.int .u8) 5 v21 q14.1 :: ow) := Hp.sel (pre := [Res.sl (Ek.int .u8) 5 v21 q14.1, Res.sl (Ek.int .u8) 5 v3 q1, Res.sl Ek.bool 4 v30 q23.1, Res.sl (Ek.int .u8) 5 v39 q32.1, Res.sl (Ek.int .u8) 5 v12 q5.1]) (tail := ow) (rs' := [Res.sl Ek.bool 4 v30 q23.1, Res.sl (Ek.int .u8) 5 v39 q32.1, Res.sl (Ek.int .u8) 5 v3 q1, Res.sl (Ek.int .u8) 5 v12 q5.1, Res.sl (Ek.int .u8) 5 v21 q14.1]) hp [2, 3, 1, 4, 0] (by decide) (by simp) rfl
            exact ⟨hf.sub ⟨rfl, rfl, rfl, rfl, rfl, rfl, trivial⟩, hp⟩
        · rintro a w ⟨hf, hp⟩
          refine st_move hf rfl rfl (by decide) ?_
          clear hf; intro a ha hf; clear ha
          obtain ⟨z64, hz62, h⟩ := bnd h
          refine wpList_cut 5 (fun a w => Fr 200 a [(1, .int .u8 n1), (5, v3), (6, v12), (10, v30), (71, .bool z64)] ∧ Hp S w0 w (Res.sl Ek.bool 4 v30 q23.1 :: Res.sl (Ek.int .u8) 5 v39 q32.1 :: Res.sl (Ek.int .u8) 5 v3 q1 :: Res.sl (Ek.int .u8) 5 v12 q5.1 :: Res.sl (Ek.int .u8) 5 v21 q14.1 :: ow)) ?_ ?_
          · rcases Bool.eq_false_or_eq_true z49 with hb63 | hb63
            · skip
              replace hz62 := ifT hz62 hb63
              refine st_skip hf (wantN hf rfl rfl hb63) rfl (by decide) ?_ rfl
              clear hf; intro a hf
              refine st_skip hf (wantN hf rfl rfl hb63) rfl (by decide) ?_ rfl
              clear hf; intro a hf
              refine st_skip hf (wantN hf rfl rfl hb63) rfl (by decide) ?_ rfl
              clear hf; intro a hf
              refine st_skip hf (wantN hf rfl rfl hb63) rfl (by decide) ?_ rfl
              clear hf; intro a hf
              obtain rfl := Option.some.inj hz62
              refine st_pick (v := .bool true) hf rfl rfl (fun hb' => ?_) (fun hb' => ?_) (by decide) ?_
              · rfl
              · exact absurd (hb63.symm.trans hb') (by decide)
              clear hf; intro a ha hf; clear ha
              refine st_nil hf (th_n ?_)
              exact ⟨hf.sub ⟨rfl, rfl, rfl, rfl, rfl, trivial⟩, hp⟩
            · skip
              replace hz62 := ifF hz62 hb63
              refine st_move hf (wantY hf rfl rfl hb63) rfl (by decide) ?_
              clear hf; intro a ha hf; clear ha
              refine st_move hf (wantY hf rfl rfl hb63) rfl (by decide) ?_
              clear hf; intro a ha hf; clear ha
              obtain ⟨q65, hcall66, hz62⟩ := bnd hz62
              obtain ⟨S67, hp68, rd69, up70, bk71⟩ := Hp.lendS hp (i := 1) rfl
              obtain ⟨S72, hp73, rd74, up75, bk76⟩ := Hp.lendS hp68 (i := 1) rfl
              refine st_call hf (by decide) Try.func13 rfl rfl (wantY hf rfl rfl hb63) rfl rfl (f_foghornlaw06_quarters_c hp73 _ _ ((rd69.now hp68).mono up75) _ _ rd74 hcall66) ?_
              rintro _ w ⟨rfl, hp0⟩
              have hp0 := bk76 _ _ hp0
              have hp0 := bk71 _ _ hp0
              clear hp; have hp := hp0; clear hp0
              replace hp : Hp _ _ w (Res.sl (Ek.int .u8) 5 v39 q32.1 :: Res.sl (Ek.int .u8) 5 v3 q1 :: Res.sl Ek.bool 4 v30 q23.1 :: Res.sl (Ek.int .u8) 5 v12 q5.1 :: Res.sl (Ek.int .u8) 5 v21 q14.1 :: ow) := hp
              refine ⟨_, rfl, ?_⟩
              clear hf; intro a hf
              refine st_not hf (by decide) (wantY hf rfl rfl hb63) rfl ?_
              clear hf; intro a ha hf; clear ha
              obtain rfl := Option.some.inj hz62
              refine st_pick (v := .bool (!q65)) hf rfl rfl (fun hb' => ?_) (fun hb' => ?_) (by decide) ?_
              · exact absurd (hb63.symm.trans hb') (by decide)
              · rfl
              clear hf; intro a ha hf; clear ha
              refine st_nil hf (th_n ?_)
              have hp : Hp _ _ w (Res.sl Ek.bool 4 v30 q23.1 :: Res.sl (Ek.int .u8) 5 v39 q32.1 :: Res.sl (Ek.int .u8) 5 v3 q1 :: Res.sl (Ek.int .u8) 5 v12 q5.1 :: Res.sl (Ek.int .u8) 5 v21 q14.1 :: ow) := Hp.sel (pre := [Res.sl (Ek.int .u8) 5 v39 q32.1, Res.sl (Ek.int .u8) 5 v3 q1, Res.sl Ek.bool 4 v30 q23.1, Res.sl (Ek.int .u8) 5 v12 q5.1, Res.sl (Ek.int .u8) 5 v21 q14.1]) (tail := ow) (rs' := [Res.sl Ek.bool 4 v30 q23.1, Res.sl (Ek.int .u8) 5 v39 q32.1, Res.sl (Ek.int .u8) 5 v3 q1, Res.sl (Ek.int .u8) 5 v12 q5.1, Res.sl (Ek.int .u8) 5 v21 q14.1]) hp [2, 0, 1, 3, 4] (by decide) (by simp) rfl
              exact ⟨hf.sub ⟨rfl, rfl, rfl, rfl, rfl, trivial⟩, hp⟩
          · rintro a w ⟨hf, hp⟩
            refine st_move hf rfl rfl (by decide) ?_
            clear hf; intro a ha hf; clear ha
            refine wpList_cut 7 (fun a w => Fr 200 a [(1, .int .u8 n1), (5, v3), (6, v12), (79, .bool (z64 || ((q23.1.length : Int) != (IntKind.i64.wrap ((2 : Int) * (q1.length : Int))))))] ∧ Hp S w0 w (Res.sl Ek.bool 4 v30 q23.1 :: Res.sl (Ek.int .u8) 5 v39 q32.1 :: Res.sl (Ek.int .u8) 5 v3 q1 :: Res.sl (Ek.int .u8) 5 v12 q5.1 :: Res.sl (Ek.int .u8) 5 v21 q14.1 :: ow)) ?_ ?_
            · rcases Bool.eq_false_or_eq_true z64 with hb78 | hb78
              · skip
                refine st_skip hf (wantN hf rfl rfl hb78) rfl (by decide) ?_ rfl
                clear hf; intro a hf
                refine st_skip hf (wantN hf rfl rfl hb78) rfl (by decide) ?_ rfl
                clear hf; intro a hf
                refine st_skip hf (wantN hf rfl rfl hb78) rfl (by decide) ?_ rfl
                clear hf; intro a hf
                refine st_skip hf (wantN hf rfl rfl hb78) rfl (by decide) ?_ rfl
                clear hf; intro a hf
                refine st_skip hf (wantN hf rfl rfl hb78) rfl (by decide) ?_ rfl
                clear hf; intro a hf
                refine st_skip hf (wantN hf rfl rfl hb78) rfl (by decide) ?_ rfl
                clear hf; intro a hf
                refine st_pick (v := .bool true) hf rfl rfl (fun hb' => ?_) (fun hb' => ?_) (by decide) ?_
                · rfl
                · exact absurd (hb78.symm.trans hb') (by decide)
                clear hf; intro a ha hf; clear ha
                refine st_nil hf (th_n ?_)
                exact ⟨hf.sub ⟨rfl, rfl, rfl, (by rw [hb78]; rfl), trivial⟩, hp⟩
              · skip
                refine st_move hf (wantY hf rfl rfl hb78) rfl (by decide) ?_
                clear hf; intro a ha hf; clear ha
                refine st_len (E := Ek.bool) hf (by decide) Try.underlying27 (wantY hf rfl rfl hb78) rfl (hp.sl (i := 0) rfl) ?_
                clear hf; intro a ha hf; clear ha
                refine st_move hf (wantY hf rfl rfl hb78) rfl (by decide) ?_
                clear hf; intro a ha hf; clear ha
                refine st_len (E := (Ek.int .u8)) hf (by decide) Try.underlying22 (wantY hf rfl rfl hb78) rfl (hp.sl (i := 2) rfl) ?_
                clear hf; intro a ha hf; clear ha
                refine st_imul hf (by decide) (wantY hf rfl rfl hb78) rfl rfl ?_
                clear hf; intro a ha hf; clear ha
                refine st_ineq hf (by decide) (wantY hf rfl rfl hb78) rfl rfl ?_
                clear hf; intro a ha hf; clear ha
                refine st_pick (v := .bool ((q23.1.length : Int) != (IntKind.i64.wrap ((2 : Int) * (q1.length : Int))))) hf rfl rfl (fun hb' => ?_) (fun hb' => ?_) (by decide) ?_
                · exact absurd (hb78.symm.trans hb') (by decide)
                · rfl
                clear hf; intro a ha hf; clear ha
                refine st_nil hf (th_n ?_)
                exact ⟨hf.sub ⟨rfl, rfl, rfl, (by rw [hb78]; rfl), trivial⟩, hp⟩
            · rintro a w ⟨hf, hp⟩
              refine st_nil hf ?_
              refine th_n ?_
              refine wp_if hf rfl (fun hb => ?_) (fun hb => ?_)
              · replace h := ifT h hb
                refine wp_seq ?_
                refine wp_reg ?_
                refine st_assign hf rfl rfl (by decide) ?_
                clear hf; intro a ha hf; clear ha
                refine st_nil hf ?_
                refine th_n ?_
                refine wp_ret ?_
                refine th_r ?_
                obtain rfl := Option.some.inj h
                have hp : Hp _ _ w (ow) := Hp.sel (pre := [Res.sl Ek.bool 4 v30 q23.1, Res.sl (Ek.int .u8) 5 v39 q32.1, Res.sl (Ek.int .u8) 5 v3 q1, Res.sl (Ek.int .u8) 5 v12 q5.1, Res.sl (Ek.int .u8) 5 v21 q14.1]) (tail := ow) (rs' := []) hp [] (by decide) (by simp) rfl
                exact ⟨rfl, ⟨hf.sub ⟨rfl, trivial⟩, hp⟩⟩
              · replace h := ifF h hb
                refine wp_skip ?_
                refine th_n ?_
                refine wp_seq ?_
                refine wp_reg ?_
                refine st_assign hf rfl rfl (by decide) ?_
                clear hf; intro a ha hf; clear ha
                refine st_nil hf ?_
                refine th_n ?_
                refine wp_seq ?_
                refine wp_seq ?_
                refine wp_reg ?_
                refine st_assign hf rfl rfl (by decide) ?_
                clear hf; intro a ha hf; clear ha
                refine st_nil hf ?_
                refine th_n ?_
                refine wp_block ?_
                obtain ⟨q88, hl, h⟩ := bnd h
                have hp := hp.nil (Ek.int .u8) 5
                have hp : Hp _ _ w (Res.sl (Ek.int .u8) 5 (.slice none 0 0) ([]) :: Res.sl (Ek.int .u8) 5 v3 q1 :: Res.sl (Ek.int .u8) 5 v12 q5.1 :: ow) := Hp.sel (pre := [Res.sl (Ek.int .u8) 5 (.slice none 0 0) ([]), Res.sl Ek.bool 4 v30 q23.1, Res.sl (Ek.int .u8) 5 v39 q32.1, Res.sl (Ek.int .u8) 5 v3 q1, Res.sl (Ek.int .u8) 5 v12 q5.1, Res.sl (Ek.int .u8) 5 v21 q14.1]) (tail := ow) (rs' := [Res.sl (Ek.int .u8) 5 (.slice none 0 0) ([]), Res.sl (Ek.int .u8) 5 v3 q1, Res.sl (Ek.int .u8) 5 v12 q5.1]) hp [0, 3, 4] (by decide) (by simp) rfl
                refine wp_loop_pure (f := (f_foghornlaw06_TurnsWhole.s1 n1 q5)) (s := ([], (0 : Int))) (fun s a w => ∃ (v79 : Value), Fr 200 a [(1, .int .u8 n1), (5, v3), (6, v12), (14, v79), (15, .int .i64 s.2)] ∧ Hp S w0 w (Res.sl (Ek.int .u8) 5 v79 s.1 :: Res.sl (Ek.int .u8) 5 v3 q1 :: Res.sl (Ek.int .u8) 5 v12 q5.1 :: ow)) (fun q e a w => e = .exit 0 ∧ ∃ (v81 : Value), Fr 200 a [(1, .int .u8 n1), (5, v3), (14, v81)] ∧ Hp S w0 w (Res.sl (Ek.int .u8) 5 v81 q :: Res.sl (Ek.int .u8) 5 v3 q1 :: ow)) ?_ hl ⟨_, hf.sub ⟨rfl, rfl, rfl, rfl, rfl, trivial⟩, hp⟩ ?_
                · clear hl hf hp
                  intro s x a w h hI
                  obtain ⟨added14, i15⟩ := s
                  obtain ⟨v79, hf, hp⟩ : ∃ (v79 : Value), Fr 200 a [(1, .int .u8 n1), (5, v3), (6, v12), (14, v79), (15, .int .i64 i15)] ∧ Hp S w0 w (Res.sl (Ek.int .u8) 5 v79 added14 :: Res.sl (Ek.int .u8) 5 v3 q1 :: Res.sl (Ek.int .u8) 5 v12 q5.1 :: ow) := hI
                  replace h : f_foghornlaw06_TurnsWhole.s1c n1 q5 added14 i15 = some x := h
                  unfold f_foghornlaw06_TurnsWhole.s1c at h
                  refine wp_seq ?_
                  refine wp_seq ?_
                  refine wp_reg ?_
                  refine st_move hf rfl rfl (by decide) ?_
                  clear hf; intro a ha hf; clear ha
                  refine st_move hf rfl rfl (by decide) ?_
                  clear hf; intro a ha hf; clear ha
                  refine st_len (E := (Ek.int .u8)) hf (by decide) Try.underlying22 rfl rfl (hp.sl (i := 2) rfl) ?_
                  clear hf; intro a ha hf; clear ha
                  refine st_ilss hf (by decide) rfl rfl rfl ?_
                  clear hf; intro a ha hf; clear ha
                  refine st_nil hf ?_
                  refine th_n ?_
                  refine wp_if hf rfl (fun hb => ?_) (fun hb => ?_)
                  · replace h := ifT h hb
                    refine wp_skip ?_
                    refine th_n ?_
                    refine wp_seq ?_
                    refine wp_block ?_
                    refine wp_reg ?_
                    refine st_move hf rfl rfl (by decide) ?_
                    clear hf; intro a ha hf; clear ha
                    refine st_move hf rfl rfl (by decide) ?_
                    clear hf; intro a ha hf; clear ha
                    refine st_move hf rfl rfl (by decide) ?_
                    clear hf; intro a ha hf; clear ha
                    obtain ⟨hc83, h⟩ := chk h
                    refine st_index (E := (Ek.int .u8)) hf (by decide) Try.underlying22 elt5 rfl rfl rfl (hp.sl (i := 2) rfl) hc83.1 hc83.2 ?_
                    clear hf; intro a ha hf; clear ha
                    refine st_ldI hf (by decide) pl5 rfl rfl (hp.sl (i := 2) rfl) hc83.1 hc83.2 ?_
                    clear hf; intro a ha hf; clear ha
                    refine st_move hf rfl rfl (by decide) ?_
                    clear hf; intro a ha hf; clear ha
                    refine st_irem hf (by decide) rfl rfl rfl (by decide) ?_
                    clear hf; intro a ha hf; clear ha
                    refine st_iadd hf (by decide) rfl rfl rfl ?_
                    clear hf; intro a ha hf; clear ha
                    refine st_irem hf (by decide) rfl rfl rfl (by decide) ?_
                    clear hf; intro a ha hf; clear ha
                    refine st_build (E := (Ek.int .u8)) (xs := [(((IntKind.u8.wrap ((gt q5.1 i15) + ((n1).tmod (4 : Int))))).tmod (4 : Int))]) hf (by decide) elt5 Try.underlying22 hp (vals := #[(0, .int .u8 (((IntKind.u8.wrap ((gt q5.1 i15) + ((n1).tmod (4 : Int))))).tmod (4 : Int)))]) (cells := #[.int .u8 (((IntKind.u8.wrap ((gt q5.1 i15) + ((n1).tmod (4 : Int))))).tmod (4 : Int))]) rfl (by simp [hf.ev (x := (Operand.tmp 94)) rfl]) (by decide) (by decide) (z := .int .u8 0) (by kernel_rfl) (by kernel_rfl) rfl (reps_cons (cs := [.int .u8 (((IntKind.u8.wrap ((gt q5.1 i15) + ((n1).tmod (4 : Int))))).tmod (4 : Int))]) rfl (reps_nil _)) ?_
                    clear hf; intro a w v84 hf hp0; clear hp; have hp := hp0; clear hp0
                    replace hp : Hp _ _ w (Res.sl (Ek.int .u8) 5 v84 ([(((IntKind.u8.wrap ((gt q5.1 i15) + ((n1).tmod (4 : Int))))).tmod (4 : Int))]) :: Res.sl (Ek.int .u8) 5 v79 added14 :: Res.sl (Ek.int .u8) 5 v3 q1 :: Res.sl (Ek.int .u8) 5 v12 q5.1 :: ow) := hp
                    obtain ⟨hc86, h⟩ := chk h
                    refine st_append (E := (Ek.int .u8)) hf (by decide) elt5 Try.underlying22 (by decide) hp (i := 1) rfl rfl rfl rfl (hp.sl (i := 0) rfl) hc86 ?_
                    clear hf; intro a w v87 hf hp0; clear hp; have hp := hp0; clear hp0
                    replace hp : Hp _ _ w (Res.sl (Ek.int .u8) 5 v84 ([(((IntKind.u8.wrap ((gt q5.1 i15) + ((n1).tmod (4 : Int))))).tmod (4 : Int))]) :: Res.sl (Ek.int .u8) 5 v87 (added14 ++ [(((IntKind.u8.wrap ((gt q5.1 i15) + ((n1).tmod (4 : Int))))).tmod (4 : Int))]) :: Res.sl (Ek.int .u8) 5 v3 q1 :: Res.sl (Ek.int .u8) 5 v12 q5.1 :: ow) := hp
                    refine st_assign hf rfl rfl (by decide) ?_
                    clear hf; intro a ha hf; clear ha
                    refine st_nil hf ?_
                    refine ib_n ?_
                    refine th_n ?_
                    refine wp_reg ?_
                    refine st_move hf rfl rfl (by decide) ?_
                    clear hf; intro a ha hf; clear ha
                    refine st_iadd hf (by decide) rfl rfl rfl ?_
                    clear hf; intro a ha hf; clear ha
                    refine st_assign hf rfl rfl (by decide) ?_
                    clear hf; intro a ha hf; clear ha
                    refine st_nil hf ?_
                    obtain rfl := Option.some.inj h
                    have hp : Hp _ _ w (Res.sl (Ek.int .u8) 5 v87 (added14 ++ [(((IntKind.u8.wrap ((gt q5.1 i15) + ((n1).tmod (4 : Int))))).tmod (4 : Int))]) :: Res.sl (Ek.int .u8) 5 v3 q1 :: Res.sl (Ek.int .u8) 5 v12 q5.1 :: ow) := Hp.sel (pre := [Res.sl (Ek.int .u8) 5 v84 ([(((IntKind.u8.wrap ((gt q5.1 i15) + ((n1).tmod (4 : Int))))).tmod (4 : Int))]), Res.sl (Ek.int .u8) 5 v87 (added14 ++ [(((IntKind.u8.wrap ((gt q5.1 i15) + ((n1).tmod (4 : Int))))).tmod (4 : Int))]), Res.sl (Ek.int .u8) 5 v3 q1, Res.sl (Ek.int .u8) 5 v12 q5.1]) (tail := ow) (rs' := [Res.sl (Ek.int .u8) 5 v87 (added14 ++ [(((IntKind.u8.wrap ((gt q5.1 i15) + ((n1).tmod (4 : Int))))).tmod (4 : Int))]), Res.sl (Ek.int .u8) 5 v3 q1, Res.sl (Ek.int .u8) 5 v12 q5.1]) hp [1, 2, 3] (by decide) (by simp) rfl
                    exact rnd_l ⟨_, hf.sub ⟨rfl, rfl, rfl, rfl, rfl, trivial⟩, hp⟩
                  · replace h := ifF h hb
                    refine wp_exit ?_
                    refine th_e ?_
                    obtain rfl := Option.some.inj h
                    have hp : Hp _ _ w (Res.sl (Ek.int .u8) 5 v79 added14 :: Res.sl (Ek.int .u8) 5 v3 q1 :: ow) := Hp.sel (pre := [Res.sl (Ek.int .u8) 5 v79 added14, Res.sl (Ek.int .u8) 5 v3 q1, Res.sl (Ek.int .u8) 5 v12 q5.1]) (tail := ow) (rs' := [Res.sl (Ek.int .u8) 5 v79 added14, Res.sl (Ek.int .u8) 5 v3 q1]) hp [0, 1] (by decide) (by simp) rfl
                    exact rnd_r (by simp) ⟨rfl, _, hf.sub ⟨rfl, rfl, rfl, trivial⟩, hp⟩
                · clear hl hf hp
                  intro e a w hne hO
                  obtain ⟨rfl, v81, hf, hp⟩ := hO
                  refine ib_same ?_
                  refine th_n ?_
                  refine wp_seq ?_
                  refine wp_reg ?_
                  refine st_move hf rfl rfl (by decide) ?_
                  clear hf; intro a ha hf; clear ha
                  obtain ⟨q90, hcall91, h⟩ := bnd h
                  obtain ⟨S92, hp93, rd94, up95, bk96⟩ := Hp.lendS hp (i := 0) rfl
                  refine st_call hf (by decide) Try.func10 rfl rfl rfl rfl rfl (f_turns_Out_c hp93 _ _ rd94 hcall91) ?_
                  rintro _ w ⟨v97, rfl, hp0⟩
                  have hp0 := bk96 _ _ hp0
                  clear hp; have hp := hp0; clear hp0
                  replace hp : Hp _ _ w (Res.sl (Ek.int .u8) 5 v81 q88 :: Res.sl (Ek.int .u8) 5 v97 q90.1 :: Res.sl (Ek.int .u8) 5 v3 q1 :: ow) := hp
                  refine ⟨_, rfl, ?_⟩
                  clear hf; intro a hf
                  refine st_move hf rfl rfl (by decide) ?_
                  clear hf; intro a ha hf; clear ha
                  refine st_extract hf (by decide) rfl rfl rfl ?_
                  clear hf; intro a ha hf; clear ha
                  refine st_extract hf (by decide) rfl rfl rfl ?_
                  clear hf; intro a ha hf; clear ha
                  refine st_assign hf rfl rfl (by decide) ?_
                  clear hf; intro a ha hf; clear ha
                  refine st_assign hf rfl rfl (by decide) ?_
                  clear hf; intro a ha hf; clear ha
                  refine st_nil hf ?_
                  refine th_n ?_
                  refine wp_seq ?_
                  refine wp_reg ?_
                  refine st_move hf rfl rfl (by decide) ?_
                  clear hf; intro a ha hf; clear ha
                  obtain ⟨q99, hcall100, h⟩ := bnd h
                  obtain ⟨S101, hp102, rd103, up104, bk105⟩ := Hp.lendS hp (i := 1) rfl
                  refine st_call hf (by decide) Try.func9 rfl rfl rfl rfl rfl (f_turns_Into_c hp102 _ _ rd103 hcall100) ?_
                  rintro _ w ⟨v106, rfl, hp0⟩
                  have hp0 := bk105 _ _ hp0
                  clear hp; have hp := hp0; clear hp0
                  replace hp : Hp _ _ w (Res.sl (Ek.int .u8) 5 v97 q90.1 :: Res.sl (Ek.int .u8) 5 v106 q99.1 :: Res.sl (Ek.int .u8) 5 v81 q88 :: Res.sl (Ek.int .u8) 5 v3 q1 :: ow) := hp
                  refine ⟨_, rfl, ?_⟩
                  clear hf; intro a hf
                  refine st_move hf rfl rfl (by decide) ?_
                  clear hf; intro a ha hf; clear ha
                  refine st_extract hf (by decide) rfl rfl rfl ?_
                  clear hf; intro a ha hf; clear ha
                  refine st_extract hf (by decide) rfl rfl rfl ?_
                  clear hf; intro a ha hf; clear ha
                  refine st_assign hf rfl rfl (by decide) ?_
                  clear hf; intro a ha hf; clear ha
                  refine st_assign hf rfl rfl (by decide) ?_
                  clear hf; intro a ha hf; clear ha
                  refine st_nil hf ?_
                  refine th_n ?_
                  refine wp_seq ?_
                  refine wp_seq ?_
                  refine wp_reg ?_
                  refine st_move hf rfl rfl (by decide) ?_
                  clear hf; intro a ha hf; clear ha
                  refine st_ineq hf (by decide) rfl rfl rfl ?_
                  clear hf; intro a ha hf; clear ha
                  refine st_move hf rfl rfl (by decide) ?_
                  clear hf; intro a ha hf; clear ha
                  refine wpList_cut 3 (fun a w => Fr 200 a [(1, .int .u8 n1), (5, v3), (14, v81), (16, v97), (18, v106), (112, .bool ((q90.2 != (0 : Int)) || (q99.2 != (0 : Int))))] ∧ Hp S w0 w (Res.sl (Ek.int .u8) 5 v97 q90.1 :: Res.sl (Ek.int .u8) 5 v106 q99.1 :: Res.sl (Ek.int .u8) 5 v81 q88 :: Res.sl (Ek.int .u8) 5 v3 q1 :: ow)) ?_ ?_
                  · rcases Bool.eq_false_or_eq_true (q90.2 != (0 : Int)) with hb109 | hb109
                    · skip
                      refine st_skip hf (wantN hf rfl rfl hb109) rfl (by decide) ?_ rfl
                      clear hf; intro a hf
                      refine st_skip hf (wantN hf rfl rfl hb109) rfl (by decide) ?_ rfl
                      clear hf; intro a hf
                      refine st_pick (v := .bool true) hf rfl rfl (fun hb' => ?_) (fun hb' => ?_) (by decide) ?_
                      · rfl
                      · exact absurd (hb109.symm.trans hb') (by decide)
                      clear hf; intro a ha hf; clear ha
                      refine st_nil hf (th_n ?_)
                      exact ⟨hf.sub ⟨rfl, rfl, rfl, rfl, rfl, (by rw [hb109]; rfl), trivial⟩, hp⟩
                    · skip
                      refine st_move hf (wantY hf rfl rfl hb109) rfl (by decide) ?_
                      clear hf; intro a ha hf; clear ha
                      refine st_ineq hf (by decide) (wantY hf rfl rfl hb109) rfl rfl ?_
                      clear hf; intro a ha hf; clear ha
                      refine st_pick (v := .bool (q99.2 != (0 : Int))) hf rfl rfl (fun hb' => ?_) (fun hb' => ?_) (by decide) ?_
                      · exact absurd (hb109.symm.trans hb') (by decide)
                      · rfl
                      clear hf; intro a ha hf; clear ha
                      refine st_nil hf (th_n ?_)
                      exact ⟨hf.sub ⟨rfl, rfl, rfl, rfl, rfl, (by rw [hb109]; rfl), trivial⟩, hp⟩
                  · rintro a w ⟨hf, hp⟩
                    refine st_move hf rfl rfl (by decide) ?_
                    clear hf; intro a ha hf; clear ha
                    refine wpList_cut 6 (fun a w => Fr 200 a [(1, .int .u8 n1), (5, v3), (14, v81), (16, v97), (18, v106), (119, .bool (((q90.2 != (0 : Int)) || (q99.2 != (0 : Int))) || ((q90.1.length : Int) != (q1.length : Int))))] ∧ Hp S w0 w (Res.sl (Ek.int .u8) 5 v97 q90.1 :: Res.sl (Ek.int .u8) 5 v106 q99.1 :: Res.sl (Ek.int .u8) 5 v81 q88 :: Res.sl (Ek.int .u8) 5 v3 q1 :: ow)) ?_ ?_
                    · rcases Bool.eq_false_or_eq_true ((q90.2 != (0 : Int)) || (q99.2 != (0 : Int))) with hb111 | hb111
                      · skip
                        refine st_skip hf (wantN hf rfl rfl hb111) rfl (by decide) ?_ rfl
                        clear hf; intro a hf
                        refine st_skip hf (wantN hf rfl rfl hb111) rfl (by decide) ?_ rfl
                        clear hf; intro a hf
                        refine st_skip hf (wantN hf rfl rfl hb111) rfl (by decide) ?_ rfl
                        clear hf; intro a hf
                        refine st_skip hf (wantN hf rfl rfl hb111) rfl (by decide) ?_ rfl
                        clear hf; intro a hf
                        refine st_skip hf (wantN hf rfl rfl hb111) rfl (by decide) ?_ rfl
                        clear hf; intro a hf
                        refine st_pick (v := .bool true) hf rfl rfl (fun hb' => ?_) (fun hb' => ?_) (by decide) ?_
                        · rfl
                        · exact absurd (hb111.symm.trans hb') (by decide)
                        clear hf; intro a ha hf; clear ha
                        refine st_nil hf (th_n ?_)
                        exact ⟨hf.sub ⟨rfl, rfl, rfl, rfl, rfl, (by rw [hb111]; rfl), trivial⟩, hp⟩
                      · skip
                        refine st_move hf (wantY hf rfl rfl hb111) rfl (by decide) ?_
                        clear hf; intro a ha hf; clear ha
                        refine st_len (E := (Ek.int .u8)) hf (by decide) Try.underlying22 (wantY hf rfl rfl hb111) rfl (hp.sl (i := 0) rfl) ?_
                        clear hf; intro a ha hf; clear ha
                        refine st_move hf (wantY hf rfl rfl hb111) rfl (by decide) ?_
                        clear hf; intro a ha hf; clear ha
                        refine st_len (E := (Ek.int .u8)) hf (by decide) Try.underlying22 (wantY hf rfl rfl hb111) rfl (hp.sl (i := 3) rfl) ?_
                        clear hf; intro a ha hf; clear ha
                        refine st_ineq hf (by decide) (wantY hf rfl rfl hb111) rfl rfl ?_
                        clear hf; intro a ha hf; clear ha
                        refine st_pick (v := .bool ((q90.1.length : Int) != (q1.length : Int))) hf rfl rfl (fun hb' => ?_) (fun hb' => ?_) (by decide) ?_
                        · exact absurd (hb111.symm.trans hb') (by decide)
                        · rfl
                        clear hf; intro a ha hf; clear ha
                        refine st_nil hf (th_n ?_)
                        exact ⟨hf.sub ⟨rfl, rfl, rfl, rfl, rfl, (by rw [hb111]; rfl), trivial⟩, hp⟩
                    · rintro a w ⟨hf, hp⟩
                      refine st_move hf rfl rfl (by decide) ?_
                      clear hf; intro a ha hf; clear ha
                      obtain ⟨z114, hz112, h⟩ := bnd h
                      refine wpList_cut 5 (fun a w => Fr 200 a [(1, .int .u8 n1), (5, v3), (16, v97), (125, .bool z114)] ∧ Hp S w0 w (Res.sl (Ek.int .u8) 5 v97 q90.1 :: Res.sl (Ek.int .u8) 5 v106 q99.1 :: Res.sl (Ek.int .u8) 5 v81 q88 :: Res.sl (Ek.int .u8) 5 v3 q1 :: ow)) ?_ ?_
                      · rcases Bool.eq_false_or_eq_true (((q90.2 != (0 : Int)) || (q99.2 != (0 : Int))) || ((q90.1.length : Int) != (q1.length : Int))) with hb113 | hb113
                        · skip
                          replace hz112 := ifT hz112 hb113
                          refine st_skip hf (wantN hf rfl rfl hb113) rfl (by decide) ?_ rfl
                          clear hf; intro a hf
                          refine st_skip hf (wantN hf rfl rfl hb113) rfl (by decide) ?_ rfl
                          clear hf; intro a hf
                          refine st_skip hf (wantN hf rfl rfl hb113) rfl (by decide) ?_ rfl
                          clear hf; intro a hf
                          refine st_skip hf (wantN hf rfl rfl hb113) rfl (by decide) ?_ rfl
                          clear hf; intro a hf
                          obtain rfl := Option.some.inj hz112
                          refine st_pick (v := .bool true) hf rfl rfl (fun hb' => ?_) (fun hb' => ?_) (by decide) ?_
                          · rfl
                          · exact absurd (hb113.symm.trans hb') (by decide)
                          clear hf; intro a ha hf; clear ha
                          refine st_nil hf (th_n ?_)
                          exact ⟨hf.sub ⟨rfl, rfl, rfl, rfl, trivial⟩, hp⟩
                        · skip
                          replace hz112 := ifF hz112 hb113
                          refine st_move hf (wantY hf rfl rfl hb113) rfl (by decide) ?_
                          clear hf; intro a ha hf; clear ha
                          refine st_move hf (wantY hf rfl rfl hb113) rfl (by decide) ?_
                          clear hf; intro a ha hf; clear ha
                          obtain ⟨q115, hcall116, hz112⟩ := bnd hz112
                          obtain ⟨S117, hp118, rd119, up120, bk121⟩ := Hp.lendS hp (i := 1) rfl
                          obtain ⟨S122, hp123, rd124, up125, bk126⟩ := Hp.lendS hp118 (i := 1) rfl
                          refine st_call hf (by decide) Try.func13 rfl rfl (wantY hf rfl rfl hb113) rfl rfl (f_foghornlaw06_quarters_c hp123 _ _ ((rd119.now hp118).mono up125) _ _ rd124 hcall116) ?_
                          rintro _ w ⟨rfl, hp0⟩
                          have hp0 := bk126 _ _ hp0
                          have hp0 := bk121 _ _ hp0
                          clear hp; have hp := hp0; clear hp0
                          replace hp : Hp _ _ w (Res.sl (Ek.int .u8) 5 v106 q99.1 :: Res.sl (Ek.int .u8) 5 v81 q88 :: Res.sl (Ek.int .u8) 5 v97 q90.1 :: Res.sl (Ek.int .u8) 5 v3 q1 :: ow) := hp
                          refine ⟨_, rfl, ?_⟩
                          clear hf; intro a hf
                          refine st_not hf (by decide) (wantY hf rfl rfl hb113) rfl ?_
                          clear hf; intro a ha hf; clear ha
                          obtain rfl := Option.some.inj hz112
                          refine st_pick (v := .bool (!q115)) hf rfl rfl (fun hb' => ?_) (fun hb' => ?_) (by decide) ?_
                          · exact absurd (hb113.symm.trans hb') (by decide)
                          · rfl
                          clear hf; intro a ha hf; clear ha
                          refine st_nil hf (th_n ?_)
                          have hp : Hp _ _ w (Res.sl (Ek.int .u8) 5 v97 q90.1 :: Res.sl (Ek.int .u8) 5 v106 q99.1 :: Res.sl (Ek.int .u8) 5 v81 q88 :: Res.sl (Ek.int .u8) 5 v3 q1 :: ow) := Hp.sel (pre := [Res.sl (Ek.int .u8) 5 v106 q99.1, Res.sl (Ek.int .u8) 5 v81 q88, Res.sl (Ek.int .u8) 5 v97 q90.1, Res.sl (Ek.int .u8) 5 v3 q1]) (tail := ow) (rs' := [Res.sl (Ek.int .u8) 5 v97 q90.1, Res.sl (Ek.int .u8) 5 v106 q99.1, Res.sl (Ek.int .u8) 5 v81 q88, Res.sl (Ek.int .u8) 5 v3 q1]) hp [2, 0, 1, 3] (by decide) (by simp) rfl
                          exact ⟨hf.sub ⟨rfl, rfl, rfl, rfl, trivial⟩, hp⟩
                      · rintro a w ⟨hf, hp⟩
                        refine st_nil hf ?_
                        refine th_n ?_
                        refine wp_if hf rfl (fun hb => ?_) (fun hb => ?_)
                        · replace h := ifT h hb
                          refine wp_seq ?_
                          refine wp_reg ?_
                          refine st_assign hf rfl rfl (by decide) ?_
                          clear hf; intro a ha hf; clear ha
                          refine st_nil hf ?_
                          refine th_n ?_
                          refine wp_ret ?_
                          refine th_r ?_
                          obtain rfl := Option.some.inj h
                          have hp : Hp _ _ w (ow) := Hp.sel (pre := [Res.sl (Ek.int .u8) 5 v97 q90.1, Res.sl (Ek.int .u8) 5 v106 q99.1, Res.sl (Ek.int .u8) 5 v81 q88, Res.sl (Ek.int .u8) 5 v3 q1]) (tail := ow) (rs' := []) hp [] (by decide) (by simp) rfl
                          exact ⟨rfl, ⟨hf.sub ⟨rfl, trivial⟩, hp⟩⟩
                        · replace h := ifF h hb
                          refine wp_skip ?_
                          refine th_n ?_
                          refine wp_seq ?_
                          refine wp_seq ?_
                          refine wp_reg ?_
                          refine st_assign hf rfl rfl (by decide) ?_
                          clear hf; intro a ha hf; clear ha
                          refine st_nil hf ?_
                          refine th_n ?_
                          refine wp_block ?_
                          obtain ⟨q152, hl, h⟩ := bnd h
                          have hp : Hp _ _ w (Res.sl (Ek.int .u8) 5 v3 q1 :: Res.sl (Ek.int .u8) 5 v97 q90.1 :: ow) := Hp.sel (pre := [Res.sl (Ek.int .u8) 5 v97 q90.1, Res.sl (Ek.int .u8) 5 v106 q99.1, Res.sl (Ek.int .u8) 5 v81 q88, Res.sl (Ek.int .u8) 5 v3 q1]) (tail := ow) (rs' := [Res.sl (Ek.int .u8) 5 v3 q1, Res.sl (Ek.int .u8) 5 v97 q90.1]) hp [3, 0] (by decide) (by simp) rfl
                          refine wp_loop_pure (f := (f_foghornlaw06_TurnsWhole.s2 n1 q1 q90)) (s := (0 : Int)) (fun s a w => Fr 200 a [(1, .int .u8 n1), (5, v3), (16, v97), (20, .int .i64 s)] ∧ Hp S w0 w (Res.sl (Ek.int .u8) 5 v3 q1 :: Res.sl (Ek.int .u8) 5 v97 q90.1 :: ow)) (fun q e a w => match q with | (Sum.inl q) => e = .exit 2 ∧ Fr 200 a [] ∧ Hp S w0 w (ow) | (Sum.inr q) => e = .ret ∧ Fr 200 a [(4, .bool q)] ∧ Hp S w0 w (ow)) ?_ hl ⟨hf.sub ⟨rfl, rfl, rfl, rfl, trivial⟩, hp⟩ ?_
                          · clear hl hf hp
                            intro s x a w h hI
                            obtain ⟨k20, hs⟩ : ∃ z, z = s := ⟨s, rfl⟩; subst hs
                            obtain ⟨hf, hp⟩ : Fr 200 a [(1, .int .u8 n1), (5, v3), (16, v97), (20, .int .i64 k20)] ∧ Hp S w0 w (Res.sl (Ek.int .u8) 5 v3 q1 :: Res.sl (Ek.int .u8) 5 v97 q90.1 :: ow) := hI
                            replace h : f_foghornlaw06_TurnsWhole.s2c n1 q1 q90 k20 = some x := h
                            unfold f_foghornlaw06_TurnsWhole.s2c at h
                            refine wp_seq ?_
                            refine wp_seq ?_
                            refine wp_reg ?_
                            refine st_move hf rfl rfl (by decide) ?_
                            clear hf; intro a ha hf; clear ha
                            refine st_move hf rfl rfl (by decide) ?_
                            clear hf; intro a ha hf; clear ha
                            refine st_len (E := (Ek.int .u8)) hf (by decide) Try.underlying22 rfl rfl (hp.sl (i := 1) rfl) ?_
                            clear hf; intro a ha hf; clear ha
                            refine st_ilss hf (by decide) rfl rfl rfl ?_
                            clear hf; intro a ha hf; clear ha
                            refine st_nil hf ?_
                            refine th_n ?_
                            refine wp_if hf rfl (fun hb => ?_) (fun hb => ?_)
                            · replace h := ifT h hb
                              refine wp_skip ?_
                              refine th_n ?_
                              refine wp_seq ?_
                              refine wp_block ?_
                              refine wp_seq ?_
                              obtain ⟨S127, hp128, rd129, up130, bk131⟩ := Hp.lendS hp (i := 1) rfl
                              obtain ⟨S132, hp133, rd134, up135, bk136⟩ := Hp.lendS hp128 (i := 0) rfl
                              have rl137 := rd134
                              have rl138 := ((rd129.now hp128).mono up135)
                              obtain ⟨z143, hz139, h⟩ := bnd h
                              obtain ⟨z151, hz144, h⟩ := bnd h
                              refine wp_cutN (fun a w => Fr 200 a [(1, .int .u8 n1), (5, v3), (16, v97), (20, .int .i64 k20), (161, .bool z151)] ∧ Hp S w0 w (Res.sl (Ek.int .u8) 5 v97 q90.1 :: Res.sl (Ek.int .u8) 5 v3 q1 :: ow)) ?_ ?_
                              · have hp := hp133.same (Same.drew w)
                                rcases Bool.eq_false_or_eq_true (decide ((0 : Int) < k20)) with hb140 | hb140
                                · skip
                                  replace hz139 := ifT hz139 hb140
                                  obtain ⟨hc141, hz139⟩ := chk hz139
                                  obtain ⟨hc142, hz139⟩ := chk hz139
                                  replace hz139 := Option.some.inj hz139
                                  rcases Bool.eq_false_or_eq_true z143 with hb145 | hb145
                                  · skip
                                    replace hz144 := ifT hz144 hb145
                                    replace hz144 := Option.some.inj hz144
                                    refine dr_begin' (fun a w => Fr 200 a [(1, .int .u8 n1), (5, v3), (16, v97), (20, .int .i64 k20), (161, .bool z151)] ∧ Hp S w0 w (Res.sl (Ek.int .u8) 5 v97 q90.1 :: Res.sl (Ek.int .u8) 5 v3 q1 :: ow)) (fun w' => ∃ l, Hp S132 w w' l) [] (by kernel_rfl) ?_
                                    refine dr_take 0 (.int .i64 k20) rfl (by kernel_rfl) (by kernel_rfl) (by kernel_rfl) (by kernel_rfl) rfl rfl hf (by decide) rfl (fun w hp => ?_) ⟨_, hp⟩ ?_
                                    · obtain ⟨_, hp⟩ := hp
                                      refine st_move hf rfl rfl (by decide) ?_
                                      clear hf; intro a ha hf
                                      exact st_nil hf (th_n ⟨ha, rfl⟩)
                                    clear hf; intro a hf
                                    refine dr_take 1 (.bool (decide ((0 : Int) < k20))) rfl (by kernel_rfl) (by kernel_rfl) (by kernel_rfl) (by kernel_rfl) rfl rfl hf (by decide) rfl (fun w hp => ?_) ⟨_, hp⟩ ?_
                                    · obtain ⟨_, hp⟩ := hp
                                      refine st_igtr hf (by decide) rfl rfl rfl ?_
                                      clear hf; intro a ha hf
                                      exact st_nil hf (th_n ⟨ha, rfl⟩)
                                    clear hf; intro a hf
                                    refine dr_take 2 (.bool (decide ((0 : Int) < k20))) rfl (by kernel_rfl) (by kernel_rfl) (by kernel_rfl) (by kernel_rfl) rfl rfl hf (by decide) rfl (fun w hp => ?_) ⟨_, hp⟩ ?_
                                    · obtain ⟨_, hp⟩ := hp
                                      refine st_move hf rfl rfl (by decide) ?_
                                      clear hf; intro a ha hf
                                      exact st_nil hf (th_n ⟨ha, rfl⟩)
                                    clear hf; intro a hf
                                    refine dr_take 3 (v97) rfl (by kernel_rfl) (by kernel_rfl) (by kernel_rfl) (by kernel_rfl) rfl rfl hf (by decide) (wantY hf rfl rfl hb140) (fun w hp => ?_) ⟨_, hp⟩ ?_
                                    · obtain ⟨_, hp⟩ := hp
                                      refine st_move hf (wantY hf rfl rfl hb140) rfl (by decide) ?_
                                      clear hf; intro a ha hf
                                      exact st_nil hf (th_n ⟨ha, rfl⟩)
                                    clear hf; intro a hf
                                    refine dr_take 4 (.int .i64 k20) rfl (by kernel_rfl) (by kernel_rfl) (by kernel_rfl) (by kernel_rfl) rfl rfl hf (by decide) (wantY hf rfl rfl hb140) (fun w hp => ?_) ⟨_, hp⟩ ?_
                                    · obtain ⟨_, hp⟩ := hp
                                      refine st_move hf (wantY hf rfl rfl hb140) rfl (by decide) ?_
                                      clear hf; intro a ha hf
                                      exact st_nil hf (th_n ⟨ha, rfl⟩)
                                    clear hf; intro a hf
                                    refine dr_take 5 (eptr v97 k20 1) rfl (by kernel_rfl) (by kernel_rfl) (by kernel_rfl) (by kernel_rfl) rfl rfl hf (by decide) (wantY hf rfl rfl hb140) (fun w hp => ?_) ⟨_, hp⟩ ?_
                                    · obtain ⟨_, hp⟩ := hp
                                      refine st_index (E := (Ek.int .u8)) hf (by decide) Try.underlying22 elt5 (wantY hf rfl rfl hb140) rfl rfl (rl138.sl hp) hc141.1 hc141.2 ?_
                                      clear hf; intro a ha hf
                                      exact st_nil hf (th_n ⟨ha, rfl⟩)
                                    clear hf; intro a hf
                                    refine dr_take 6 (.int .u8 (gt q90.1 k20)) rfl (by kernel_rfl) (by kernel_rfl) (by kernel_rfl) (by kernel_rfl) rfl rfl hf (by decide) (wantY hf rfl rfl hb140) (fun w hp => ?_) ⟨_, hp⟩ ?_
                                    · obtain ⟨_, hp⟩ := hp
                                      refine st_ldI hf (by decide) pl5 (wantY hf rfl rfl hb140) rfl (rl138.sl hp) hc141.1 hc141.2 ?_
                                      clear hf; intro a ha hf
                                      exact st_nil hf (th_n ⟨ha, rfl⟩)
                                    clear hf; intro a hf
                                    refine dr_take 7 (v3) rfl (by kernel_rfl) (by kernel_rfl) (by kernel_rfl) (by kernel_rfl) rfl rfl hf (by decide) (wantY hf rfl rfl hb140) (fun w hp => ?_) ⟨_, hp⟩ ?_
                                    · obtain ⟨_, hp⟩ := hp
                                      refine st_move hf (wantY hf rfl rfl hb140) rfl (by decide) ?_
                                      clear hf; intro a ha hf
                                      exact st_nil hf (th_n ⟨ha, rfl⟩)
                                    clear hf; intro a hf
                                    refine dr_take 8 (.int .i64 k20) rfl (by kernel_rfl) (by kernel_rfl) (by kernel_rfl) (by kernel_rfl) rfl rfl hf (by decide) (wantY hf rfl rfl hb140) (fun w hp => ?_) ⟨_, hp⟩ ?_
                                    · obtain ⟨_, hp⟩ := hp
                                      refine st_move hf (wantY hf rfl rfl hb140) rfl (by decide) ?_
                                      clear hf; intro a ha hf
                                      exact st_nil hf (th_n ⟨ha, rfl⟩)
                                    clear hf; intro a hf
                                    refine dr_take 9 (eptr v3 k20 1) rfl (by kernel_rfl) (by kernel_rfl) (by kernel_rfl) (by kernel_rfl) rfl rfl hf (by decide) (wantY hf rfl rfl hb140) (fun w hp => ?_) ⟨_, hp⟩ ?_
                                    · obtain ⟨_, hp⟩ := hp
                                      refine st_index (E := (Ek.int .u8)) hf (by decide) Try.underlying22 elt5 (wantY hf rfl rfl hb140) rfl rfl (rl137.sl hp) hc142.1 hc142.2 ?_
                                      clear hf; intro a ha hf
                                      exact st_nil hf (th_n ⟨ha, rfl⟩)
                                    clear hf; intro a hf
                                    refine dr_take 10 (.int .u8 (gt q1 k20)) rfl (by kernel_rfl) (by kernel_rfl) (by kernel_rfl) (by kernel_rfl) rfl rfl hf (by decide) (wantY hf rfl rfl hb140) (fun w hp => ?_) ⟨_, hp⟩ ?_
                                    · obtain ⟨_, hp⟩ := hp
                                      refine st_ldI hf (by decide) pl5 (wantY hf rfl rfl hb140) rfl (rl137.sl hp) hc142.1 hc142.2 ?_
                                      clear hf; intro a ha hf
                                      exact st_nil hf (th_n ⟨ha, rfl⟩)
                                    clear hf; intro a hf
                                    refine dr_take 11 (.bool ((gt q90.1 k20) != (gt q1 k20))) rfl (by kernel_rfl) (by kernel_rfl) (by kernel_rfl) (by kernel_rfl) rfl rfl hf (by decide) (wantY hf rfl rfl hb140) (fun w hp => ?_) ⟨_, hp⟩ ?_
                                    · obtain ⟨_, hp⟩ := hp
                                      refine st_ineq hf (by decide) (wantY hf rfl rfl hb140) rfl rfl ?_
                                      clear hf; intro a ha hf
                                      exact st_nil hf (th_n ⟨ha, rfl⟩)
                                    clear hf; intro a hf
                                    refine dr_take 12 (.bool z143) rfl (by kernel_rfl) (by kernel_rfl) (by kernel_rfl) (by kernel_rfl) rfl rfl hf (by decide) rfl (fun w hp => ?_) ⟨_, hp⟩ ?_
                                    · obtain ⟨_, hp⟩ := hp
                                      refine st_pick (v := .bool z143) hf rfl rfl (fun _ => by rw [← hz139]; rfl) (fun hb' => absurd (hb140.symm.trans hb') (by decide)) (by decide) ?_
                                      clear hf; intro a ha hf
                                      exact st_nil hf (th_n ⟨ha, rfl⟩)
                                    clear hf; intro a hf
                                    refine dr_take 13 (.bool z143) rfl (by kernel_rfl) (by kernel_rfl) (by kernel_rfl) (by kernel_rfl) rfl rfl hf (by decide) rfl (fun w hp => ?_) ⟨_, hp⟩ ?_
                                    · obtain ⟨_, hp⟩ := hp
                                      refine st_move hf rfl rfl (by decide) ?_
                                      clear hf; intro a ha hf
                                      exact st_nil hf (th_n ⟨ha, rfl⟩)
                                    clear hf; intro a hf
                                    refine dr_out 14 rfl (by kernel_rfl) (by kernel_rfl) (by kernel_rfl) (by kernel_rfl) rfl hf (by decide) rfl (wantN hf rfl rfl hb145) ⟨_, hp⟩ ?_
                                    clear hf; intro a hf
                                    refine dr_out 15 rfl (by kernel_rfl) (by kernel_rfl) (by kernel_rfl) (by kernel_rfl) rfl hf (by decide) rfl (wantN hf rfl rfl hb145) ⟨_, hp⟩ ?_
                                    clear hf; intro a hf
                                    refine dr_outU 16 rfl (by kernel_rfl) (by kernel_rfl) (by kernel_rfl) (by kernel_rfl) rfl hf (by decide) (wantN hf rfl rfl hb145) ⟨_, hp⟩ ?_
                                    clear hf; intro a hf
                                    refine dr_out 17 rfl (by kernel_rfl) (by kernel_rfl) (by kernel_rfl) (by kernel_rfl) rfl hf (by decide) rfl (wantU hf rfl rfl) ⟨_, hp⟩ ?_
                                    clear hf; intro a hf
                                    refine dr_out 18 rfl (by kernel_rfl) (by kernel_rfl) (by kernel_rfl) (by kernel_rfl) rfl hf (by decide) rfl (wantU hf rfl rfl) ⟨_, hp⟩ ?_
                                    clear hf; intro a hf
                                    refine dr_out 19 rfl (by kernel_rfl) (by kernel_rfl) (by kernel_rfl) (by kernel_rfl) rfl hf (by decide) rfl (wantU hf rfl rfl) ⟨_, hp⟩ ?_
                                    clear hf; intro a hf
                                    refine dr_out 20 rfl (by kernel_rfl) (by kernel_rfl) (by kernel_rfl) (by kernel_rfl) rfl hf (by decide) rfl (wantU hf rfl rfl) ⟨_, hp⟩ ?_
                                    clear hf; intro a hf
                                    refine dr_out 21 rfl (by kernel_rfl) (by kernel_rfl) (by kernel_rfl) (by kernel_rfl) rfl hf (by decide) rfl (wantU hf rfl rfl) ⟨_, hp⟩ ?_
                                    clear hf; intro a hf
                                    refine dr_out 22 rfl (by kernel_rfl) (by kernel_rfl) (by kernel_rfl) (by kernel_rfl) rfl hf (by decide) rfl (wantU hf rfl rfl) ⟨_, hp⟩ ?_
                                    clear hf; intro a hf
                                    refine dr_out 23 rfl (by kernel_rfl) (by kernel_rfl) (by kernel_rfl) (by kernel_rfl) rfl hf (by decide) rfl (wantU hf rfl rfl) ⟨_, hp⟩ ?_
                                    clear hf; intro a hf
                                    refine dr_out 24 rfl (by kernel_rfl) (by kernel_rfl) (by kernel_rfl) (by kernel_rfl) rfl hf (by decide) rfl (wantU hf rfl rfl) ⟨_, hp⟩ ?_
                                    clear hf; intro a hf
                                    refine dr_out 25 rfl (by kernel_rfl) (by kernel_rfl) (by kernel_rfl) (by kernel_rfl) rfl hf (by decide) rfl (wantU hf rfl rfl) ⟨_, hp⟩ ?_
                                    clear hf; intro a hf
                                    refine dr_out 26 rfl (by kernel_rfl) (by kernel_rfl) (by kernel_rfl) (by kernel_rfl) rfl hf (by decide) rfl (wantU hf rfl rfl) ⟨_, hp⟩ ?_
                                    clear hf; intro a hf
                                    refine dr_out 27 rfl (by kernel_rfl) (by kernel_rfl) (by kernel_rfl) (by kernel_rfl) rfl hf (by decide) rfl (wantU hf rfl rfl) ⟨_, hp⟩ ?_
                                    clear hf; intro a hf
                                    refine dr_out 28 rfl (by kernel_rfl) (by kernel_rfl) (by kernel_rfl) (by kernel_rfl) rfl hf (by decide) rfl (wantN hf rfl rfl hb145) ⟨_, hp⟩ ?_
                                    clear hf; intro a hf
                                    refine dr_take 29 (.bool z151) rfl (by kernel_rfl) (by kernel_rfl) (by kernel_rfl) (by kernel_rfl) rfl rfl hf (by decide) rfl (fun w hp => ?_) ⟨_, hp⟩ ?_
                                    · obtain ⟨_, hp⟩ := hp
                                      refine st_pick (v := .bool z151) hf rfl rfl (fun _ => by rw [← hz144]; rfl) (fun hb' => absurd (hb145.symm.trans hb') (by decide)) (by decide) ?_
                                      clear hf; intro a ha hf
                                      exact st_nil hf (th_n ⟨ha, rfl⟩)
                                    clear hf; intro a hf
                                    refine dr_end (by kernel_rfl) ?_ _
                                    have hp := bk136 _ _ hp
                                    have hp := bk131 _ _ hp
                                    exact ⟨hf.sub ⟨rfl, rfl, rfl, rfl, rfl, trivial⟩, hp⟩
                                  · skip
                                    replace hz144 := ifF hz144 hb145
                                    obtain ⟨z150, hz146, hz144⟩ := bnd hz144
                                    replace hz144 := Option.some.inj hz144
                                    rcases Bool.eq_false_or_eq_true (k20 == (0 : Int)) with hb147 | hb147
                                    · skip
                                      replace hz146 := ifT hz146 hb147
                                      obtain ⟨hc148, hz146⟩ := chk hz146
                                      obtain ⟨hc149, hz146⟩ := chk hz146
                                      replace hz146 := Option.some.inj hz146
                                      refine dr_begin' (fun a w => Fr 200 a [(1, .int .u8 n1), (5, v3), (16, v97), (20, .int .i64 k20), (161, .bool z151)] ∧ Hp S w0 w (Res.sl (Ek.int .u8) 5 v97 q90.1 :: Res.sl (Ek.int .u8) 5 v3 q1 :: ow)) (fun w' => ∃ l, Hp S132 w w' l) [] (by kernel_rfl) ?_
                                      refine dr_take 0 (.int .i64 k20) rfl (by kernel_rfl) (by kernel_rfl) (by kernel_rfl) (by kernel_rfl) rfl rfl hf (by decide) rfl (fun w hp => ?_) ⟨_, hp⟩ ?_
                                      · obtain ⟨_, hp⟩ := hp
                                        refine st_move hf rfl rfl (by decide) ?_
                                        clear hf; intro a ha hf
                                        exact st_nil hf (th_n ⟨ha, rfl⟩)
                                      clear hf; intro a hf
                                      refine dr_take 1 (.bool (decide ((0 : Int) < k20))) rfl (by kernel_rfl) (by kernel_rfl) (by kernel_rfl) (by kernel_rfl) rfl rfl hf (by decide) rfl (fun w hp => ?_) ⟨_, hp⟩ ?_
                                      · obtain ⟨_, hp⟩ := hp
                                        refine st_igtr hf (by decide) rfl rfl rfl ?_
                                        clear hf; intro a ha hf
                                        exact st_nil hf (th_n ⟨ha, rfl⟩)
                                      clear hf; intro a hf
                                      refine dr_take 2 (.bool (decide ((0 : Int) < k20))) rfl (by kernel_rfl) (by kernel_rfl) (by kernel_rfl) (by kernel_rfl) rfl rfl hf (by decide) rfl (fun w hp => ?_) ⟨_, hp⟩ ?_
                                      · obtain ⟨_, hp⟩ := hp
                                        refine st_move hf rfl rfl (by decide) ?_
                                        clear hf; intro a ha hf
                                        exact st_nil hf (th_n ⟨ha, rfl⟩)
                                      clear hf; intro a hf
                                      refine dr_take 3 (v97) rfl (by kernel_rfl) (by kernel_rfl) (by kernel_rfl) (by kernel_rfl) rfl rfl hf (by decide) (wantY hf rfl rfl hb140) (fun w hp => ?_) ⟨_, hp⟩ ?_
                                      · obtain ⟨_, hp⟩ := hp
                                        refine st_move hf (wantY hf rfl rfl hb140) rfl (by decide) ?_
                                        clear hf; intro a ha hf
                                        exact st_nil hf (th_n ⟨ha, rfl⟩)
                                      clear hf; intro a hf
                                      refine dr_take 4 (.int .i64 k20) rfl (by kernel_rfl) (by kernel_rfl) (by kernel_rfl) (by kernel_rfl) rfl rfl hf (by decide) (wantY hf rfl rfl hb140) (fun w hp => ?_) ⟨_, hp⟩ ?_
                                      · obtain ⟨_, hp⟩ := hp
                                        refine st_move hf (wantY hf rfl rfl hb140) rfl (by decide) ?_
                                        clear hf; intro a ha hf
                                        exact st_nil hf (th_n ⟨ha, rfl⟩)
                                      clear hf; intro a hf
                                      refine dr_take 5 (eptr v97 k20 1) rfl (by kernel_rfl) (by kernel_rfl) (by kernel_rfl) (by kernel_rfl) rfl rfl hf (by decide) (wantY hf rfl rfl hb140) (fun w hp => ?_) ⟨_, hp⟩ ?_
                                      · obtain ⟨_, hp⟩ := hp
                                        refine st_index (E := (Ek.int .u8)) hf (by decide) Try.underlying22 elt5 (wantY hf rfl rfl hb140) rfl rfl (rl138.sl hp) hc141.1 hc141.2 ?_
                                        clear hf; intro a ha hf
                                        exact st_nil hf (th_n ⟨ha, rfl⟩)
                                      clear hf; intro a hf
                                      refine dr_take 6 (.int .u8 (gt q90.1 k20)) rfl (by kernel_rfl) (by kernel_rfl) (by kernel_rfl) (by kernel_rfl) rfl rfl hf (by decide) (wantY hf rfl rfl hb140) (fun w hp => ?_) ⟨_, hp⟩ ?_
                                      · obtain ⟨_, hp⟩ := hp
                                        refine st_ldI hf (by decide) pl5 (wantY hf rfl rfl hb140) rfl (rl138.sl hp) hc141.1 hc141.2 ?_
                                        clear hf; intro a ha hf
                                        exact st_nil hf (th_n ⟨ha, rfl⟩)
                                      clear hf; intro a hf
                                      refine dr_take 7 (v3) rfl (by kernel_rfl) (by kernel_rfl) (by kernel_rfl) (by kernel_rfl) rfl rfl hf (by decide) (wantY hf rfl rfl hb140) (fun w hp => ?_) ⟨_, hp⟩ ?_
                                      · obtain ⟨_, hp⟩ := hp
                                        refine st_move hf (wantY hf rfl rfl hb140) rfl (by decide) ?_
                                        clear hf; intro a ha hf
                                        exact st_nil hf (th_n ⟨ha, rfl⟩)
                                      clear hf; intro a hf
                                      refine dr_take 8 (.int .i64 k20) rfl (by kernel_rfl) (by kernel_rfl) (by kernel_rfl) (by kernel_rfl) rfl rfl hf (by decide) (wantY hf rfl rfl hb140) (fun w hp => ?_) ⟨_, hp⟩ ?_
                                      · obtain ⟨_, hp⟩ := hp
                                        refine st_move hf (wantY hf rfl rfl hb140) rfl (by decide) ?_
                                        clear hf; intro a ha hf
                                        exact st_nil hf (th_n ⟨ha, rfl⟩)
                                      clear hf; intro a hf
                                      refine dr_take 9 (eptr v3 k20 1) rfl (by kernel_rfl) (by kernel_rfl) (by kernel_rfl) (by kernel_rfl) rfl rfl hf (by decide) (wantY hf rfl rfl hb140) (fun w hp => ?_) ⟨_, hp⟩ ?_
                                      · obtain ⟨_, hp⟩ := hp
                                        refine st_index (E := (Ek.int .u8)) hf (by decide) Try.underlying22 elt5 (wantY hf rfl rfl hb140) rfl rfl (rl137.sl hp) hc142.1 hc142.2 ?_
                                        clear hf; intro a ha hf
                                        exact st_nil hf (th_n ⟨ha, rfl⟩)
                                      clear hf; intro a hf
                                      refine dr_take 10 (.int .u8 (gt q1 k20)) rfl (by kernel_rfl) (by kernel_rfl) (by kernel_rfl) (by kernel_rfl) rfl rfl hf (by decide) (wantY hf rfl rfl hb140) (fun w hp => ?_) ⟨_, hp⟩ ?_
                                      · obtain ⟨_, hp⟩ := hp
                                        refine st_ldI hf (by decide) pl5 (wantY hf rfl rfl hb140) rfl (rl137.sl hp) hc142.1 hc142.2 ?_
                                        clear hf; intro a ha hf
                                        exact st_nil hf (th_n ⟨ha, rfl⟩)
                                      clear hf; intro a hf
                                      refine dr_take 11 (.bool ((gt q90.1 k20) != (gt q1 k20))) rfl (by kernel_rfl) (by kernel_rfl) (by kernel_rfl) (by kernel_rfl) rfl rfl hf (by decide) (wantY hf rfl rfl hb140) (fun w hp => ?_) ⟨_, hp⟩ ?_
                                      · obtain ⟨_, hp⟩ := hp
                                        refine st_ineq hf (by decide) (wantY hf rfl rfl hb140) rfl rfl ?_
                                        clear hf; intro a ha hf
                                        exact st_nil hf (th_n ⟨ha, rfl⟩)
                                      clear hf; intro a hf
                                      refine dr_take 12 (.bool z143) rfl (by kernel_rfl) (by kernel_rfl) (by kernel_rfl) (by kernel_rfl) rfl rfl hf (by decide) rfl (fun w hp => ?_) ⟨_, hp⟩ ?_
                                      · obtain ⟨_, hp⟩ := hp
                                        refine st_pick (v := .bool z143) hf rfl rfl (fun _ => by rw [← hz139]; rfl) (fun hb' => absurd (hb140.symm.trans hb') (by decide)) (by decide) ?_
                                        clear hf; intro a ha hf
                                        exact st_nil hf (th_n ⟨ha, rfl⟩)
                                      clear hf; intro a hf
                                      refine dr_take 13 (.bool z143) rfl (by kernel_rfl) (by kernel_rfl) (by kernel_rfl) (by kernel_rfl) rfl rfl hf (by decide) rfl (fun w hp => ?_) ⟨_, hp⟩ ?_
                                      · obtain ⟨_, hp⟩ := hp
                                        refine st_move hf rfl rfl (by decide) ?_
                                        clear hf; intro a ha hf
                                        exact st_nil hf (th_n ⟨ha, rfl⟩)
                                      clear hf; intro a hf
                                      refine dr_take 14 (.int .i64 k20) rfl (by kernel_rfl) (by kernel_rfl) (by kernel_rfl) (by kernel_rfl) rfl rfl hf (by decide) (wantY hf rfl rfl hb145) (fun w hp => ?_) ⟨_, hp⟩ ?_
                                      · obtain ⟨_, hp⟩ := hp
                                        refine st_move hf (wantY hf rfl rfl hb145) rfl (by decide) ?_
                                        clear hf; intro a ha hf
                                        exact st_nil hf (th_n ⟨ha, rfl⟩)
                                      clear hf; intro a hf
                                      refine dr_take 15 (.bool (k20 == (0 : Int))) rfl (by kernel_rfl) (by kernel_rfl) (by kernel_rfl) (by kernel_rfl) rfl rfl hf (by decide) (wantY hf rfl rfl hb145) (fun w hp => ?_) ⟨_, hp⟩ ?_
                                      · obtain ⟨_, hp⟩ := hp
                                        refine st_ieql hf (by decide) (wantY hf rfl rfl hb145) rfl rfl ?_
                                        clear hf; intro a ha hf
                                        exact st_nil hf (th_n ⟨ha, rfl⟩)
                                      clear hf; intro a hf
                                      refine dr_take 16 (.bool (k20 == (0 : Int))) rfl (by kernel_rfl) (by kernel_rfl) (by kernel_rfl) (by kernel_rfl) rfl rfl hf (by decide) (wantY hf rfl rfl hb145) (fun w hp => ?_) ⟨_, hp⟩ ?_
                                      · obtain ⟨_, hp⟩ := hp
                                        refine st_move hf (wantY hf rfl rfl hb145) rfl (by decide) ?_
                                        clear hf; intro a ha hf
                                        exact st_nil hf (th_n ⟨ha, rfl⟩)
                                      clear hf; intro a hf
                                      refine dr_take 17 (v97) rfl (by kernel_rfl) (by kernel_rfl) (by kernel_rfl) (by kernel_rfl) rfl rfl hf (by decide) (wantY hf rfl rfl hb147) (fun w hp => ?_) ⟨_, hp⟩ ?_
                                      · obtain ⟨_, hp⟩ := hp
                                        refine st_move hf (wantY hf rfl rfl hb147) rfl (by decide) ?_
                                        clear hf; intro a ha hf
                                        exact st_nil hf (th_n ⟨ha, rfl⟩)
                                      clear hf; intro a hf
                                      refine dr_take 18 (eptr v97 (0 : Int) 1) rfl (by kernel_rfl) (by kernel_rfl) (by kernel_rfl) (by kernel_rfl) rfl rfl hf (by decide) (wantY hf rfl rfl hb147) (fun w hp => ?_) ⟨_, hp⟩ ?_
                                      · obtain ⟨_, hp⟩ := hp
                                        refine st_index (E := (Ek.int .u8)) hf (by decide) Try.underlying22 elt5 (wantY hf rfl rfl hb147) rfl rfl (rl138.sl hp) hc148.1 hc148.2 ?_
                                        clear hf; intro a ha hf
                                        exact st_nil hf (th_n ⟨ha, rfl⟩)
                                      clear hf; intro a hf
                                      refine dr_take 19 (.int .u8 (gt q90.1 (0 : Int))) rfl (by kernel_rfl) (by kernel_rfl) (by kernel_rfl) (by kernel_rfl) rfl rfl hf (by decide) (wantY hf rfl rfl hb147) (fun w hp => ?_) ⟨_, hp⟩ ?_
                                      · obtain ⟨_, hp⟩ := hp
                                        refine st_ldI hf (by decide) pl5 (wantY hf rfl rfl hb147) rfl (rl138.sl hp) hc148.1 hc148.2 ?_
                                        clear hf; intro a ha hf
                                        exact st_nil hf (th_n ⟨ha, rfl⟩)
                                      clear hf; intro a hf
                                      refine dr_take 20 (v3) rfl (by kernel_rfl) (by kernel_rfl) (by kernel_rfl) (by kernel_rfl) rfl rfl hf (by decide) (wantY hf rfl rfl hb147) (fun w hp => ?_) ⟨_, hp⟩ ?_
                                      · obtain ⟨_, hp⟩ := hp
                                        refine st_move hf (wantY hf rfl rfl hb147) rfl (by decide) ?_
                                        clear hf; intro a ha hf
                                        exact st_nil hf (th_n ⟨ha, rfl⟩)
                                      clear hf; intro a hf
                                      refine dr_take 21 (eptr v3 (0 : Int) 1) rfl (by kernel_rfl) (by kernel_rfl) (by kernel_rfl) (by kernel_rfl) rfl rfl hf (by decide) (wantY hf rfl rfl hb147) (fun w hp => ?_) ⟨_, hp⟩ ?_
                                      · obtain ⟨_, hp⟩ := hp
                                        refine st_index (E := (Ek.int .u8)) hf (by decide) Try.underlying22 elt5 (wantY hf rfl rfl hb147) rfl rfl (rl137.sl hp) hc149.1 hc149.2 ?_
                                        clear hf; intro a ha hf
                                        exact st_nil hf (th_n ⟨ha, rfl⟩)
                                      clear hf; intro a hf
                                      refine dr_take 22 (.int .u8 (gt q1 (0 : Int))) rfl (by kernel_rfl) (by kernel_rfl) (by kernel_rfl) (by kernel_rfl) rfl rfl hf (by decide) (wantY hf rfl rfl hb147) (fun w hp => ?_) ⟨_, hp⟩ ?_
                                      · obtain ⟨_, hp⟩ := hp
                                        refine st_ldI hf (by decide) pl5 (wantY hf rfl rfl hb147) rfl (rl137.sl hp) hc149.1 hc149.2 ?_
                                        clear hf; intro a ha hf
                                        exact st_nil hf (th_n ⟨ha, rfl⟩)
                                      clear hf; intro a hf
                                      refine dr_take 23 (.int .u8 n1) rfl (by kernel_rfl) (by kernel_rfl) (by kernel_rfl) (by kernel_rfl) rfl rfl hf (by decide) (wantY hf rfl rfl hb147) (fun w hp => ?_) ⟨_, hp⟩ ?_
                                      · obtain ⟨_, hp⟩ := hp
                                        refine st_move hf (wantY hf rfl rfl hb147) rfl (by decide) ?_
                                        clear hf; intro a ha hf
                                        exact st_nil hf (th_n ⟨ha, rfl⟩)
                                      clear hf; intro a hf
                                      refine dr_take 24 (.int .u8 ((n1).tmod (4 : Int))) rfl (by kernel_rfl) (by kernel_rfl) (by kernel_rfl) (by kernel_rfl) rfl rfl hf (by decide) (wantY hf rfl rfl hb147) (fun w hp => ?_) ⟨_, hp⟩ ?_
                                      · obtain ⟨_, hp⟩ := hp
                                        refine st_irem hf (by decide) (wantY hf rfl rfl hb147) rfl rfl (by decide) ?_
                                        clear hf; intro a ha hf
                                        exact st_nil hf (th_n ⟨ha, rfl⟩)
                                      clear hf; intro a hf
                                      refine dr_take 25 (.int .u8 (IntKind.u8.wrap ((gt q1 (0 : Int)) + ((n1).tmod (4 : Int))))) rfl (by kernel_rfl) (by kernel_rfl) (by kernel_rfl) (by kernel_rfl) rfl rfl hf (by decide) (wantY hf rfl rfl hb147) (fun w hp => ?_) ⟨_, hp⟩ ?_
                                      · obtain ⟨_, hp⟩ := hp
                                        refine st_iadd hf (by decide) (wantY hf rfl rfl hb147) rfl rfl ?_
                                        clear hf; intro a ha hf
                                        exact st_nil hf (th_n ⟨ha, rfl⟩)
                                      clear hf; intro a hf
                                      refine dr_take 26 (.int .u8 (((IntKind.u8.wrap ((gt q1 (0 : Int)) + ((n1).tmod (4 : Int))))).tmod (4 : Int))) rfl (by kernel_rfl) (by kernel_rfl) (by kernel_rfl) (by kernel_rfl) rfl rfl hf (by decide) (wantY hf rfl rfl hb147) (fun w hp => ?_) ⟨_, hp⟩ ?_
                                      · obtain ⟨_, hp⟩ := hp
                                        refine st_irem hf (by decide) (wantY hf rfl rfl hb147) rfl rfl (by decide) ?_
                                        clear hf; intro a ha hf
                                        exact st_nil hf (th_n ⟨ha, rfl⟩)
                                      clear hf; intro a hf
                                      refine dr_take 27 (.bool ((gt q90.1 (0 : Int)) != (((IntKind.u8.wrap ((gt q1 (0 : Int)) + ((n1).tmod (4 : Int))))).tmod (4 : Int)))) rfl (by kernel_rfl) (by kernel_rfl) (by kernel_rfl) (by kernel_rfl) rfl rfl hf (by decide) (wantY hf rfl rfl hb147) (fun w hp => ?_) ⟨_, hp⟩ ?_
                                      · obtain ⟨_, hp⟩ := hp
                                        refine st_ineq hf (by decide) (wantY hf rfl rfl hb147) rfl rfl ?_
                                        clear hf; intro a ha hf
                                        exact st_nil hf (th_n ⟨ha, rfl⟩)
                                      clear hf; intro a hf
                                      refine dr_take 28 (.bool z150) rfl (by kernel_rfl) (by kernel_rfl) (by kernel_rfl) (by kernel_rfl) rfl rfl hf (by decide) (wantY hf rfl rfl hb145) (fun w hp => ?_) ⟨_, hp⟩ ?_
                                      · obtain ⟨_, hp⟩ := hp
                                        refine st_pick (v := .bool z150) hf (wantY hf rfl rfl hb145) rfl (fun _ => by rw [← hz146]; rfl) (fun hb' => absurd (hb147.symm.trans hb') (by decide)) (by decide) ?_
                                        clear hf; intro a ha hf
                                        exact st_nil hf (th_n ⟨ha, rfl⟩)
                                      clear hf; intro a hf
                                      refine dr_take 29 (.bool z151) rfl (by kernel_rfl) (by kernel_rfl) (by kernel_rfl) (by kernel_rfl) rfl rfl hf (by decide) rfl (fun w hp => ?_) ⟨_, hp⟩ ?_
                                      · obtain ⟨_, hp⟩ := hp
                                        refine st_pick (v := .bool z151) hf rfl rfl (fun hb' => absurd (hb145.symm.trans hb') (by decide)) (fun _ => by rw [← hz144]; rfl) (by decide) ?_
                                        clear hf; intro a ha hf
                                        exact st_nil hf (th_n ⟨ha, rfl⟩)
                                      clear hf; intro a hf
                                      refine dr_end (by kernel_rfl) ?_ _
                                      have hp := bk136 _ _ hp
                                      have hp := bk131 _ _ hp
                                      exact ⟨hf.sub ⟨rfl, rfl, rfl, rfl, rfl, trivial⟩, hp⟩
                                    · skip
                                      replace hz146 := ifF hz146 hb147
                                      replace hz146 := Option.some.inj hz146
                                      refine dr_begin' (fun a w => Fr 200 a [(1, .int .u8 n1), (5, v3), (16, v97), (20, .int .i64 k20), (161, .bool z151)] ∧ Hp S w0 w (Res.sl (Ek.int .u8) 5 v97 q90.1 :: Res.sl (Ek.int .u8) 5 v3 q1 :: ow)) (fun w' => ∃ l, Hp S132 w w' l) [] (by kernel_rfl) ?_
                                      refine dr_take 0 (.int .i64 k20) rfl (by kernel_rfl) (by kernel_rfl) (by kernel_rfl) (by kernel_rfl) rfl rfl hf (by decide) rfl (fun w hp => ?_) ⟨_, hp⟩ ?_
                                      · obtain ⟨_, hp⟩ := hp
                                        refine st_move hf rfl rfl (by decide) ?_
                                        clear hf; intro a ha hf
                                        exact st_nil hf (th_n ⟨ha, rfl⟩)
                                      clear hf; intro a hf
                                      refine dr_take 1 (.bool (decide ((0 : Int) < k20))) rfl (by kernel_rfl) (by kernel_rfl) (by kernel_rfl) (by kernel_rfl) rfl rfl hf (by decide) rfl (fun w hp => ?_) ⟨_, hp⟩ ?_
                                      · obtain ⟨_, hp⟩ := hp
                                        refine st_igtr hf (by decide) rfl rfl rfl ?_
                                        clear hf; intro a ha hf
                                        exact st_nil hf (th_n ⟨ha, rfl⟩)
                                      clear hf; intro a hf
                                      refine dr_take 2 (.bool (decide ((0 : Int) < k20))) rfl (by kernel_rfl) (by kernel_rfl) (by kernel_rfl) (by kernel_rfl) rfl rfl hf (by decide) rfl (fun w hp => ?_) ⟨_, hp⟩ ?_
                                      · obtain ⟨_, hp⟩ := hp
                                        refine st_move hf rfl rfl (by decide) ?_
                                        clear hf; intro a ha hf
                                        exact st_nil hf (th_n ⟨ha, rfl⟩)
                                      clear hf; intro a hf
                                      refine dr_take 3 (v97) rfl (by kernel_rfl) (by kernel_rfl) (by kernel_rfl) (by kernel_rfl) rfl rfl hf (by decide) (wantY hf rfl rfl hb140) (fun w hp => ?_) ⟨_, hp⟩ ?_
                                      · obtain ⟨_, hp⟩ := hp
                                        refine st_move hf (wantY hf rfl rfl hb140) rfl (by decide) ?_
                                        clear hf; intro a ha hf
                                        exact st_nil hf (th_n ⟨ha, rfl⟩)
                                      clear hf; intro a hf
                                      refine dr_take 4 (.int .i64 k20) rfl (by kernel_rfl) (by kernel_rfl) (by kernel_rfl) (by kernel_rfl) rfl rfl hf (by decide) (wantY hf rfl rfl hb140) (fun w hp => ?_) ⟨_, hp⟩ ?_
                                      · obtain ⟨_, hp⟩ := hp
                                        refine st_move hf (wantY hf rfl rfl hb140) rfl (by decide) ?_
                                        clear hf; intro a ha hf
                                        exact st_nil hf (th_n ⟨ha, rfl⟩)
                                      clear hf; intro a hf
                                      refine dr_take 5 (eptr v97 k20 1) rfl (by kernel_rfl) (by kernel_rfl) (by kernel_rfl) (by kernel_rfl) rfl rfl hf (by decide) (wantY hf rfl rfl hb140) (fun w hp => ?_) ⟨_, hp⟩ ?_
                                      · obtain ⟨_, hp⟩ := hp
                                        refine st_index (E := (Ek.int .u8)) hf (by decide) Try.underlying22 elt5 (wantY hf rfl rfl hb140) rfl rfl (rl138.sl hp) hc141.1 hc141.2 ?_
                                        clear hf; intro a ha hf
                                        exact st_nil hf (th_n ⟨ha, rfl⟩)
                                      clear hf; intro a hf
                                      refine dr_take 6 (.int .u8 (gt q90.1 k20)) rfl (by kernel_rfl) (by kernel_rfl) (by kernel_rfl) (by kernel_rfl) rfl rfl hf (by decide) (wantY hf rfl rfl hb140) (fun w hp => ?_) ⟨_, hp⟩ ?_
                                      · obtain ⟨_, hp⟩ := hp
                                        refine st_ldI hf (by decide) pl5 (wantY hf rfl rfl hb140) rfl (rl138.sl hp) hc141.1 hc141.2 ?_
                                        clear hf; intro a ha hf
                                        exact st_nil hf (th_n ⟨ha, rfl⟩)
                                      clear hf; intro a hf
                                      refine dr_take 7 (v3) rfl (by kernel_rfl) (by kernel_rfl) (by kernel_rfl) (by kernel_rfl) rfl rfl hf (by decide) (wantY hf rfl rfl hb140) (fun w hp => ?_) ⟨_, hp⟩ ?_
                                      · obtain ⟨_, hp⟩ := hp
                                        refine st_move hf (wantY hf rfl rfl hb140) rfl (by decide) ?_
                                        clear hf; intro a ha hf
                                        exact st_nil hf (th_n ⟨ha, rfl⟩)
                                      clear hf; intro a hf
                                      refine dr_take 8 (.int .i64 k20) rfl (by kernel_rfl) (by kernel_rfl) (by kernel_rfl) (by kernel_rfl) rfl rfl hf (by decide) (wantY hf rfl rfl hb140) (fun w hp => ?_) ⟨_, hp⟩ ?_
                                      · obtain ⟨_, hp⟩ := hp
                                        refine st_move hf (wantY hf rfl rfl hb140) rfl (by decide) ?_
                                        clear hf; intro a ha hf
                                        exact st_nil hf (th_n ⟨ha, rfl⟩)
                                      clear hf; intro a hf
                                      refine dr_take 9 (eptr v3 k20 1) rfl (by kernel_rfl) (by kernel_rfl) (by kernel_rfl) (by kernel_rfl) rfl rfl hf (by decide) (wantY hf rfl rfl hb140) (fun w hp => ?_) ⟨_, hp⟩ ?_
                                      · obtain ⟨_, hp⟩ := hp
                                        refine st_index (E := (Ek.int .u8)) hf (by decide) Try.underlying22 elt5 (wantY hf rfl rfl hb140) rfl rfl (rl137.sl hp) hc142.1 hc142.2 ?_
                                        clear hf; intro a ha hf
                                        exact st_nil hf (th_n ⟨ha, rfl⟩)
                                      clear hf; intro a hf
                                      refine dr_take 10 (.int .u8 (gt q1 k20)) rfl (by kernel_rfl) (by kernel_rfl) (by kernel_rfl) (by kernel_rfl) rfl rfl hf (by decide) (wantY hf rfl rfl hb140) (fun w hp => ?_) ⟨_, hp⟩ ?_
                                      · obtain ⟨_, hp⟩ := hp
                                        refine st_ldI hf (by decide) pl5 (wantY hf rfl rfl hb140) rfl (rl137.sl hp) hc142.1 hc142.2 ?_
                                        clear hf; intro a ha hf
                                        exact st_nil hf (th_n ⟨ha, rfl⟩)
                                      clear hf; intro a hf
                                      refine dr_take 11 (.bool ((gt q90.1 k20) != (gt q1 k20))) rfl (by kernel_rfl) (by kernel_rfl) (by kernel_rfl) (by kernel_rfl) rfl rfl hf (by decide) (wantY hf rfl rfl hb140) (fun w hp => ?_) ⟨_, hp⟩ ?_
                                      · obtain ⟨_, hp⟩ := hp
                                        refine st_ineq hf (by decide) (wantY hf rfl rfl hb140) rfl rfl ?_
                                        clear hf; intro a ha hf
                                        exact st_nil hf (th_n ⟨ha, rfl⟩)
                                      clear hf; intro a hf
                                      refine dr_take 12 (.bool z143) rfl (by kernel_rfl) (by kernel_rfl) (by kernel_rfl) (by kernel_rfl) rfl rfl hf (by decide) rfl (fun w hp => ?_) ⟨_, hp⟩ ?_
                                      · obtain ⟨_, hp⟩ := hp
                                        refine st_pick (v := .bool z143) hf rfl rfl (fun _ => by rw [← hz139]; rfl) (fun hb' => absurd (hb140.symm.trans hb') (by decide)) (by decide) ?_
                                        clear hf; intro a ha hf
                                        exact st_nil hf (th_n ⟨ha, rfl⟩)
                                      clear hf; intro a hf
                                      refine dr_take 13 (.bool z143) rfl (by kernel_rfl) (by kernel_rfl) (by kernel_rfl) (by kernel_rfl) rfl rfl hf (by decide) rfl (fun w hp => ?_) ⟨_, hp⟩ ?_
                                      · obtain ⟨_, hp⟩ := hp
                                        refine st_move hf rfl rfl (by decide) ?_
                                        clear hf; intro a ha hf
                                        exact st_nil hf (th_n ⟨ha, rfl⟩)
                                      clear hf; intro a hf
                                      refine dr_take 14 (.int .i64 k20) rfl (by kernel_rfl) (by kernel_rfl) (by kernel_rfl) (by kernel_rfl) rfl rfl hf (by decide) (wantY hf rfl rfl hb145) (fun w hp => ?_) ⟨_, hp⟩ ?_
                                      · obtain ⟨_, hp⟩ := hp
                                        refine st_move hf (wantY hf rfl rfl hb145) rfl (by decide) ?_
                                        clear hf; intro a ha hf
                                        exact st_nil hf (th_n ⟨ha, rfl⟩)
                                      clear hf; intro a hf
                                      refine dr_take 15 (.bool (k20 == (0 : Int))) rfl (by kernel_rfl) (by kernel_rfl) (by kernel_rfl) (by kernel_rfl) rfl rfl hf (by decide) (wantY hf rfl rfl hb145) (fun w hp => ?_) ⟨_, hp⟩ ?_
                                      · obtain ⟨_, hp⟩ := hp
                                        refine st_ieql hf (by decide) (wantY hf rfl rfl hb145) rfl rfl ?_
                                        clear hf; intro a ha hf
                                        exact st_nil hf (th_n ⟨ha, rfl⟩)
                                      clear hf; intro a hf
                                      refine dr_take 16 (.bool (k20 == (0 : Int))) rfl (by kernel_rfl) (by kernel_rfl) (by kernel_rfl) (by kernel_rfl) rfl rfl hf (by decide) (wantY hf rfl rfl hb145) (fun w hp => ?_) ⟨_, hp⟩ ?_
                                      · obtain ⟨_, hp⟩ := hp
                                        refine st_move hf (wantY hf rfl rfl hb145) rfl (by decide) ?_
                                        clear hf; intro a ha hf
                                        exact st_nil hf (th_n ⟨ha, rfl⟩)
                                      clear hf; intro a hf
                                      refine dr_out 17 rfl (by kernel_rfl) (by kernel_rfl) (by kernel_rfl) (by kernel_rfl) rfl hf (by decide) rfl (wantN hf rfl rfl hb147) ⟨_, hp⟩ ?_
                                      clear hf; intro a hf
                                      refine dr_out 18 rfl (by kernel_rfl) (by kernel_rfl) (by kernel_rfl) (by kernel_rfl) rfl hf (by decide) rfl (wantN hf rfl rfl hb147) ⟨_, hp⟩ ?_
                                      clear hf; intro a hf
                                      refine dr_out 19 rfl (by kernel_rfl) (by kernel_rfl) (by kernel_rfl) (by kernel_rfl) rfl hf (by decide) rfl (wantN hf rfl rfl hb147) ⟨_, hp⟩ ?_
                                      clear hf; intro a hf
                                      refine dr_out 20 rfl (by kernel_rfl) (by kernel_rfl) (by kernel_rfl) (by kernel_rfl) rfl hf (by decide) rfl (wantN hf rfl rfl hb147) ⟨_, hp⟩ ?_
                                      clear hf; intro a hf
                                      refine dr_out 21 rfl (by kernel_rfl) (by kernel_rfl) (by kernel_rfl) (by kernel_rfl) rfl hf (by decide) rfl (wantN hf rfl rfl hb147) ⟨_, hp⟩ ?_
                                      clear hf; intro a hf
                                      refine dr_out 22 rfl (by kernel_rfl) (by kernel_rfl) (by kernel_rfl) (by kernel_rfl) rfl hf (by decide) rfl (wantN hf rfl rfl hb147) ⟨_, hp⟩ ?_
                                      clear hf; intro a hf
                                      refine dr_out 23 rfl (by kernel_rfl) (by kernel_rfl) (by kernel_rfl) (by kernel_rfl) rfl hf (by decide) rfl (wantN hf rfl rfl hb147) ⟨_, hp⟩ ?_
                                      clear hf; intro a hf
                                      refine dr_out 24 rfl (by kernel_rfl) (by kernel_rfl) (by kernel_rfl) (by kernel_rfl) rfl hf (by decide) rfl (wantN hf rfl rfl hb147) ⟨_, hp⟩ ?_
                                      clear hf; intro a hf
                                      refine dr_out 25 rfl (by kernel_rfl) (by kernel_rfl) (by kernel_rfl) (by kernel_rfl) rfl hf (by decide) rfl (wantN hf rfl rfl hb147) ⟨_, hp⟩ ?_
                                      clear hf; intro a hf
                                      refine dr_out 26 rfl (by kernel_rfl) (by kernel_rfl) (by kernel_rfl) (by kernel_rfl) rfl hf (by decide) rfl (wantN hf rfl rfl hb147) ⟨_, hp⟩ ?_
                                      clear hf; intro a hf
                                      refine dr_out 27 rfl (by kernel_rfl) (by kernel_rfl) (by kernel_rfl) (by kernel_rfl) rfl hf (by decide) rfl (wantN hf rfl rfl hb147) ⟨_, hp⟩ ?_
                                      clear hf; intro a hf
                                      refine dr_take 28 (.bool z150) rfl (by kernel_rfl) (by kernel_rfl) (by kernel_rfl) (by kernel_rfl) rfl rfl hf (by decide) (wantY hf rfl rfl hb145) (fun w hp => ?_) ⟨_, hp⟩ ?_
                                      · obtain ⟨_, hp⟩ := hp
                                        refine st_pick (v := .bool z150) hf (wantY hf rfl rfl hb145) rfl (fun hb' => absurd (hb147.symm.trans hb') (by decide)) (fun _ => by rw [← hz146]; rfl) (by decide) ?_
                                        clear hf; intro a ha hf
                                        exact st_nil hf (th_n ⟨ha, rfl⟩)
                                      clear hf; intro a hf
                                      refine dr_take 29 (.bool z151) rfl (by kernel_rfl) (by kernel_rfl) (by kernel_rfl) (by kernel_rfl) rfl rfl hf (by decide) rfl (fun w hp => ?_) ⟨_, hp⟩ ?_
                                      · obtain ⟨_, hp⟩ := hp
                                        refine st_pick (v := .bool z151) hf rfl rfl (fun hb' => absurd (hb145.symm.trans hb') (by decide)) (fun _ => by rw [← hz144]; rfl) (by decide) ?_
                                        clear hf; intro a ha hf
                                        exact st_nil hf (th_n ⟨ha, rfl⟩)
                                      clear hf; intro a hf
                                      refine dr_end (by kernel_rfl) ?_ _
                                      have hp := bk136 _ _ hp
                                      have hp := bk131 _ _ hp
                                      exact ⟨hf.sub ⟨rfl, rfl, rfl, rfl, rfl, trivial⟩, hp⟩
                                · skip
                                  replace hz139 := ifF hz139 hb140
                                  replace hz139 := Option.some.inj hz139
                                  rcases Bool.eq_false_or_eq_true z143 with hb145 | hb145
                                  · skip
                                    replace hz144 := ifT hz144 hb145
                                    replace hz144 := Option.some.inj hz144
                                    refine dr_begin' (fun a w => Fr 200 a [(1, .int .u8 n1), (5, v3), (16, v97), (20, .int .i64 k20), (161, .bool z151)] ∧ Hp S w0 w (Res.sl (Ek.int .u8) 5 v97 q90.1 :: Res.sl (Ek.int .u8) 5 v3 q1 :: ow)) (fun w' => ∃ l, Hp S132 w w' l) [] (by kernel_rfl) ?_
                                    refine dr_take 0 (.int .i64 k20) rfl (by kernel_rfl) (by kernel_rfl) (by kernel_rfl) (by kernel_rfl) rfl rfl hf (by decide) rfl (fun w hp => ?_) ⟨_, hp⟩ ?_
                                    · obtain ⟨_, hp⟩ := hp
                                      refine st_move hf rfl rfl (by decide) ?_
                                      clear hf; intro a ha hf
                                      exact st_nil hf (th_n ⟨ha, rfl⟩)
                                    clear hf; intro a hf
                                    refine dr_take 1 (.bool (decide ((0 : Int) < k20))) rfl (by kernel_rfl) (by kernel_rfl) (by kernel_rfl) (by kernel_rfl) rfl rfl hf (by decide) rfl (fun w hp => ?_) ⟨_, hp⟩ ?_
                                    · obtain ⟨_, hp⟩ := hp
                                      refine st_igtr hf (by decide) rfl rfl rfl ?_
                                      clear hf; intro a ha hf
                                      exact st_nil hf (th_n ⟨ha, rfl⟩)
                                    clear hf; intro a hf
                                    refine dr_take 2 (.bool (decide ((0 : Int) < k20))) rfl (by kernel_rfl) (by kernel_rfl) (by kernel_rfl) (by kernel_rfl) rfl rfl hf (by decide) rfl (fun w hp => ?_) ⟨_, hp⟩ ?_
                                    · obtain ⟨_, hp⟩ := hp
                                      refine st_move hf rfl rfl (by decide) ?_
                                      clear hf; intro a ha hf
                                      exact st_nil hf (th_n ⟨ha, rfl⟩)
                                    clear hf; intro a hf
                                    refine dr_out 3 rfl (by kernel_rfl) (by kernel_rfl) (by kernel_rfl) (by kernel_rfl) rfl hf (by decide) rfl (wantN hf rfl rfl hb140) ⟨_, hp⟩ ?_
                                    clear hf; intro a hf
                                    refine dr_out 4 rfl (by kernel_rfl) (by kernel_rfl) (by kernel_rfl) (by kernel_rfl) rfl hf (by decide) rfl (wantN hf rfl rfl hb140) ⟨_, hp⟩ ?_
                                    clear hf; intro a hf
                                    refine dr_out 5 rfl (by kernel_rfl) (by kernel_rfl) (by kernel_rfl) (by kernel_rfl) rfl hf (by decide) rfl (wantN hf rfl rfl hb140) ⟨_, hp⟩ ?_
                                    clear hf; intro a hf
                                    refine dr_out 6 rfl (by kernel_rfl) (by kernel_rfl) (by kernel_rfl) (by kernel_rfl) rfl hf (by decide) rfl (wantN hf rfl rfl hb140) ⟨_, hp⟩ ?_
                                    clear hf; intro a hf
                                    refine dr_out 7 rfl (by kernel_rfl) (by kernel_rfl) (by kernel_rfl) (by kernel_rfl) rfl hf (by decide) rfl (wantN hf rfl rfl hb140) ⟨_, hp⟩ ?_
                                    clear hf; intro a hf
                                    refine dr_out 8 rfl (by kernel_rfl) (by kernel_rfl) (by kernel_rfl) (by kernel_rfl) rfl hf (by decide) rfl (wantN hf rfl rfl hb140) ⟨_, hp⟩ ?_
                                    clear hf; intro a hf
                                    refine dr_out 9 rfl (by kernel_rfl) (by kernel_rfl) (by kernel_rfl) (by kernel_rfl) rfl hf (by decide) rfl (wantN hf rfl rfl hb140) ⟨_, hp⟩ ?_
                                    clear hf; intro a hf
                                    refine dr_out 10 rfl (by kernel_rfl) (by kernel_rfl) (by kernel_rfl) (by kernel_rfl) rfl hf (by decide) rfl (wantN hf rfl rfl hb140) ⟨_, hp⟩ ?_
                                    clear hf; intro a hf
                                    refine dr_out 11 rfl (by kernel_rfl) (by kernel_rfl) (by kernel_rfl) (by kernel_rfl) rfl hf (by decide) rfl (wantN hf rfl rfl hb140) ⟨_, hp⟩ ?_
                                    clear hf; intro a hf
                                    refine dr_take 12 (.bool z143) rfl (by kernel_rfl) (by kernel_rfl) (by kernel_rfl) (by kernel_rfl) rfl rfl hf (by decide) rfl (fun w hp => ?_) ⟨_, hp⟩ ?_
                                    · obtain ⟨_, hp⟩ := hp
                                      refine st_pick (v := .bool z143) hf rfl rfl (fun hb' => absurd (hb140.symm.trans hb') (by decide)) (fun _ => by rw [← hz139]; rfl) (by decide) ?_
                                      clear hf; intro a ha hf
                                      exact st_nil hf (th_n ⟨ha, rfl⟩)
                                    clear hf; intro a hf
                                    refine dr_take 13 (.bool z143) rfl (by kernel_rfl) (by kernel_rfl) (by kernel_rfl) (by kernel_rfl) rfl rfl hf (by decide) rfl (fun w hp => ?_) ⟨_, hp⟩ ?_
                                    · obtain ⟨_, hp⟩ := hp
                                      refine st_move hf rfl rfl (by decide) ?_
                                      clear hf; intro a ha hf
                                      exact st_nil hf (th_n ⟨ha, rfl⟩)
                                    clear hf; intro a hf
                                    refine dr_out 14 rfl (by kernel_rfl) (by kernel_rfl) (by kernel_rfl) (by kernel_rfl) rfl hf (by decide) rfl (wantN hf rfl rfl hb145) ⟨_, hp⟩ ?_
                                    clear hf; intro a hf
                                    refine dr_out 15 rfl (by kernel_rfl) (by kernel_rfl) (by kernel_rfl) (by kernel_rfl) rfl hf (by decide) rfl (wantN hf rfl rfl hb145) ⟨_, hp⟩ ?_
                                    clear hf; intro a hf
                                    refine dr_outU 16 rfl (by kernel_rfl) (by kernel_rfl) (by kernel_rfl) (by kernel_rfl) rfl hf (by decide) (wantN hf rfl rfl hb145) ⟨_, hp⟩ ?_
                                    clear hf; intro a hf
                                    refine dr_out 17 rfl (by kernel_rfl) (by kernel_rfl) (by kernel_rfl) (by kernel_rfl) rfl hf (by decide) rfl (wantU hf rfl rfl) ⟨_, hp⟩ ?_
                                    clear hf; intro a hf
                                    refine dr_out 18 rfl (by kernel_rfl) (by kernel_rfl) (by kernel_rfl) (by kernel_rfl) rfl hf (by decide) rfl (wantU hf rfl rfl) ⟨_, hp⟩ ?_
                                    clear hf; intro a hf
                                    refine dr_out 19 rfl (by kernel_rfl) (by kernel_rfl) (by kernel_rfl) (by kernel_rfl) rfl hf (by decide) rfl (wantU hf rfl rfl) ⟨_, hp⟩ ?_
                                    clear hf; intro a hf
                                    refine dr_out 20 rfl (by kernel_rfl) (by kernel_rfl) (by kernel_rfl) (by kernel_rfl) rfl hf (by decide) rfl (wantU hf rfl rfl) ⟨_, hp⟩ ?_
                                    clear hf; intro a hf
                                    refine dr_out 21 rfl (by kernel_rfl) (by kernel_rfl) (by kernel_rfl) (by kernel_rfl) rfl hf (by decide) rfl (wantU hf rfl rfl) ⟨_, hp⟩ ?_
                                    clear hf; intro a hf
                                    refine dr_out 22 rfl (by kernel_rfl) (by kernel_rfl) (by kernel_rfl) (by kernel_rfl) rfl hf (by decide) rfl (wantU hf rfl rfl) ⟨_, hp⟩ ?_
                                    clear hf; intro a hf
                                    refine dr_out 23 rfl (by kernel_rfl) (by kernel_rfl) (by kernel_rfl) (by kernel_rfl) rfl hf (by decide) rfl (wantU hf rfl rfl) ⟨_, hp⟩ ?_
                                    clear hf; intro a hf
                                    refine dr_out 24 rfl (by kernel_rfl) (by kernel_rfl) (by kernel_rfl) (by kernel_rfl) rfl hf (by decide) rfl (wantU hf rfl rfl) ⟨_, hp⟩ ?_
                                    clear hf; intro a hf
                                    refine dr_out 25 rfl (by kernel_rfl) (by kernel_rfl) (by kernel_rfl) (by kernel_rfl) rfl hf (by decide) rfl (wantU hf rfl rfl) ⟨_, hp⟩ ?_
                                    clear hf; intro a hf
                                    refine dr_out 26 rfl (by kernel_rfl) (by kernel_rfl) (by kernel_rfl) (by kernel_rfl) rfl hf (by decide) rfl (wantU hf rfl rfl) ⟨_, hp⟩ ?_
                                    clear hf; intro a hf
                                    refine dr_out 27 rfl (by kernel_rfl) (by kernel_rfl) (by kernel_rfl) (by kernel_rfl) rfl hf (by decide) rfl (wantU hf rfl rfl) ⟨_, hp⟩ ?_
                                    clear hf; intro a hf
                                    refine dr_out 28 rfl (by kernel_rfl) (by kernel_rfl) (by kernel_rfl) (by kernel_rfl) rfl hf (by decide) rfl (wantN hf rfl rfl hb145) ⟨_, hp⟩ ?_
                                    clear hf; intro a hf
                                    refine dr_take 29 (.bool z151) rfl (by kernel_rfl) (by kernel_rfl) (by kernel_rfl) (by kernel_rfl) rfl rfl hf (by decide) rfl (fun w hp => ?_) ⟨_, hp⟩ ?_
                                    · obtain ⟨_, hp⟩ := hp
                                      refine st_pick (v := .bool z151) hf rfl rfl (fun _ => by rw [← hz144]; rfl) (fun hb' => absurd (hb145.symm.trans hb') (by decide)) (by decide) ?_
                                      clear hf; intro a ha hf
                                      exact st_nil hf (th_n ⟨ha, rfl⟩)
                                    clear hf; intro a hf
                                    refine dr_end (by kernel_rfl) ?_ _
                                    have hp := bk136 _ _ hp
                                    have hp := bk131 _ _ hp
                                    exact ⟨hf.sub ⟨rfl, rfl, rfl, rfl, rfl, trivial⟩, hp⟩
                                  · skip
                                    replace hz144 := ifF hz144 hb145
                                    obtain ⟨z150, hz146, hz144⟩ := bnd hz144
                                    replace hz144 := Option.some.inj hz144
                                    rcases Bool.eq_false_or_eq_true (k20 == (0 : Int)) with hb147 | hb147
                                    · skip
                                      replace hz146 := ifT hz146 hb147
                                      obtain ⟨hc148, hz146⟩ := chk hz146
                                      obtain ⟨hc149, hz146⟩ := chk hz146
                                      replace hz146 := Option.some.inj hz146
                                      refine dr_begin' (fun a w => Fr 200 a [(1, .int .u8 n1), (5, v3), (16, v97), (20, .int .i64 k20), (161, .bool z151)] ∧ Hp S w0 w (Res.sl (Ek.int .u8) 5 v97 q90.1 :: Res.sl (Ek.int .u8) 5 v3 q1 :: ow)) (fun w' => ∃ l, Hp S132 w w' l) [] (by kernel_rfl) ?_
                                      refine dr_take 0 (.int .i64 k20) rfl (by kernel_rfl) (by kernel_rfl) (by kernel_rfl) (by kernel_rfl) rfl rfl hf (by decide) rfl (fun w hp => ?_) ⟨_, hp⟩ ?_
                                      · obtain ⟨_, hp⟩ := hp
                                        refine st_move hf rfl rfl (by decide) ?_
                                        clear hf; intro a ha hf
                                        exact st_nil hf (th_n ⟨ha, rfl⟩)
                                      clear hf; intro a hf
                                      refine dr_take 1 (.bool (decide ((0 : Int) < k20))) rfl (by kernel_rfl) (by kernel_rfl) (by kernel_rfl) (by kernel_rfl) rfl rfl hf (by decide) rfl (fun w hp => ?_) ⟨_, hp⟩ ?_
                                      · obtain ⟨_, hp⟩ := hp
                                        refine st_igtr hf (by decide) rfl rfl rfl ?_
                                        clear hf; intro a ha hf
                                        exact st_nil hf (th_n ⟨ha, rfl⟩)
                                      clear hf; intro a hf
                                      refine dr_take 2 (.bool (decide ((0 : Int) < k20))) rfl (by kernel_rfl) (by kernel_rfl) (by kernel_rfl) (by kernel_rfl) rfl rfl hf (by decide) rfl (fun w hp => ?_) ⟨_, hp⟩ ?_
                                      · obtain ⟨_, hp⟩ := hp
                                        refine st_move hf rfl rfl (by decide) ?_
                                        clear hf; intro a ha hf
                                        exact st_nil hf (th_n ⟨ha, rfl⟩)
                                      clear hf; intro a hf
                                      refine dr_out 3 rfl (by kernel_rfl) (by kernel_rfl) (by kernel_rfl) (by kernel_rfl) rfl hf (by decide) rfl (wantN hf rfl rfl hb140) ⟨_, hp⟩ ?_
                                      clear hf; intro a hf
                                      refine dr_out 4 rfl (by kernel_rfl) (by kernel_rfl) (by kernel_rfl) (by kernel_rfl) rfl hf (by decide) rfl (wantN hf rfl rfl hb140) ⟨_, hp⟩ ?_
                                      clear hf; intro a hf
                                      refine dr_out 5 rfl (by kernel_rfl) (by kernel_rfl) (by kernel_rfl) (by kernel_rfl) rfl hf (by decide) rfl (wantN hf rfl rfl hb140) ⟨_, hp⟩ ?_
                                      clear hf; intro a hf
                                      refine dr_out 6 rfl (by kernel_rfl) (by kernel_rfl) (by kernel_rfl) (by kernel_rfl) rfl hf (by decide) rfl (wantN hf rfl rfl hb140) ⟨_, hp⟩ ?_
                                      clear hf; intro a hf
                                      refine dr_out 7 rfl (by kernel_rfl) (by kernel_rfl) (by kernel_rfl) (by kernel_rfl) rfl hf (by decide) rfl (wantN hf rfl rfl hb140) ⟨_, hp⟩ ?_
                                      clear hf; intro a hf
                                      refine dr_out 8 rfl (by kernel_rfl) (by kernel_rfl) (by kernel_rfl) (by kernel_rfl) rfl hf (by decide) rfl (wantN hf rfl rfl hb140) ⟨_, hp⟩ ?_
                                      clear hf; intro a hf
                                      refine dr_out 9 rfl (by kernel_rfl) (by kernel_rfl) (by kernel_rfl) (by kernel_rfl) rfl hf (by decide) rfl (wantN hf rfl rfl hb140) ⟨_, hp⟩ ?_
                                      clear hf; intro a hf
                                      refine dr_out 10 rfl (by kernel_rfl) (by kernel_rfl) (by kernel_rfl) (by kernel_rfl) rfl hf (by decide) rfl (wantN hf rfl rfl hb140) ⟨_, hp⟩ ?_
                                      clear hf; intro a hf
                                      refine dr_out 11 rfl (by kernel_rfl) (by kernel_rfl) (by kernel_rfl) (by kernel_rfl) rfl hf (by decide) rfl (wantN hf rfl rfl hb140) ⟨_, hp⟩ ?_
                                      clear hf; intro a hf
                                      refine dr_take 12 (.bool z143) rfl (by kernel_rfl) (by kernel_rfl) (by kernel_rfl) (by kernel_rfl) rfl rfl hf (by decide) rfl (fun w hp => ?_) ⟨_, hp⟩ ?_
                                      · obtain ⟨_, hp⟩ := hp
                                        refine st_pick (v := .bool z143) hf rfl rfl (fun hb' => absurd (hb140.symm.trans hb') (by decide)) (fun _ => by rw [← hz139]; rfl) (by decide) ?_
                                        clear hf; intro a ha hf
                                        exact st_nil hf (th_n ⟨ha, rfl⟩)
                                      clear hf; intro a hf
                                      refine dr_take 13 (.bool z143) rfl (by kernel_rfl) (by kernel_rfl) (by kernel_rfl) (by kernel_rfl) rfl rfl hf (by decide) rfl (fun w hp => ?_) ⟨_, hp⟩ ?_
                                      · obtain ⟨_, hp⟩ := hp
                                        refine st_move hf rfl rfl (by decide) ?_
                                        clear hf; intro a ha hf
                                        exact st_nil hf (th_n ⟨ha, rfl⟩)
                                      clear hf; intro a hf
                                      refine dr_take 14 (.int .i64 k20) rfl (by kernel_rfl) (by kernel_rfl) (by kernel_rfl) (by kernel_rfl) rfl rfl hf (by decide) (wantY hf rfl rfl hb145) (fun w hp => ?_) ⟨_, hp⟩ ?_
                                      · obtain ⟨_, hp⟩ := hp
                                        refine st_move hf (wantY hf rfl rfl hb145) rfl (by decide) ?_
                                        clear hf; intro a ha hf
                                        exact st_nil hf (th_n ⟨ha, rfl⟩)
                                      clear hf; intro a hf
                                      refine dr_take 15 (.bool (k20 == (0 : Int))) rfl (by kernel_rfl) (by kernel_rfl) (by kernel_rfl) (by kernel_rfl) rfl rfl hf (by decide) (wantY hf rfl rfl hb145) (fun w hp => ?_) ⟨_, hp⟩ ?_
                                      · obtain ⟨_, hp⟩ := hp
                                        refine st_ieql hf (by decide) (wantY hf rfl rfl hb145) rfl rfl ?_
                                        clear hf; intro a ha hf
                                        exact st_nil hf (th_n ⟨ha, rfl⟩)
                                      clear hf; intro a hf
                                      refine dr_take 16 (.bool (k20 == (0 : Int))) rfl (by kernel_rfl) (by kernel_rfl) (by kernel_rfl) (by kernel_rfl) rfl rfl hf (by decide) (wantY hf rfl rfl hb145) (fun w hp => ?_) ⟨_, hp⟩ ?_
                                      · obtain ⟨_, hp⟩ := hp
                                        refine st_move hf (wantY hf rfl rfl hb145) rfl (by decide) ?_
                                        clear hf; intro a ha hf
                                        exact st_nil hf (th_n ⟨ha, rfl⟩)
                                      clear hf; intro a hf
                                      refine dr_take 17 (v97) rfl (by kernel_rfl) (by kernel_rfl) (by kernel_rfl) (by kernel_rfl) rfl rfl hf (by decide) (wantY hf rfl rfl hb147) (fun w hp => ?_) ⟨_, hp⟩ ?_
                                      · obtain ⟨_, hp⟩ := hp
                                        refine st_move hf (wantY hf rfl rfl hb147) rfl (by decide) ?_
                                        clear hf; intro a ha hf
                                        exact st_nil hf (th_n ⟨ha, rfl⟩)
                                      clear hf; intro a hf
                                      refine dr_take 18 (eptr v97 (0 : Int) 1) rfl (by kernel_rfl) (by kernel_rfl) (by kernel_rfl) (by kernel_rfl) rfl rfl hf (by decide) (wantY hf rfl rfl hb147) (fun w hp => ?_) ⟨_, hp⟩ ?_
                                      · obtain ⟨_, hp⟩ := hp
                                        refine st_index (E := (Ek.int .u8)) hf (by decide) Try.underlying22 elt5 (wantY hf rfl rfl hb147) rfl rfl (rl138.sl hp) hc148.1 hc148.2 ?_
                                        clear hf; intro a ha hf
                                        exact st_nil hf (th_n ⟨ha, rfl⟩)
                                      clear hf; intro a hf
                                      refine dr_take 19 (.int .u8 (gt q90.1 (0 : Int))) rfl (by kernel_rfl) (by kernel_rfl) (by kernel_rfl) (by kernel_rfl) rfl rfl hf (by decide) (wantY hf rfl rfl hb147) (fun w hp => ?_) ⟨_, hp⟩ ?_
                                      · obtain ⟨_, hp⟩ := hp
                                        refine st_ldI hf (by decide) pl5 (wantY hf rfl rfl hb147) rfl (rl138.sl hp) hc148.1 hc148.2 ?_
                                        clear hf; intro a ha hf
                                        exact st_nil hf (th_n ⟨ha, rfl⟩)
                                      clear hf; intro a hf
                                      refine dr_take 20 (v3) rfl (by kernel_rfl) (by kernel_rfl) (by kernel_rfl) (by kernel_rfl) rfl rfl hf (by decide) (wantY hf rfl rfl hb147) (fun w hp => ?_) ⟨_, hp⟩ ?_
                                      · obtain ⟨_, hp⟩ := hp
                                        refine st_move hf (wantY hf rfl rfl hb147) rfl (by decide) ?_
                                        clear hf; intro a ha hf
                                        exact st_nil hf (th_n ⟨ha, rfl⟩)
                                      clear hf; intro a hf
                                      refine dr_take 21 (eptr v3 (0 : Int) 1) rfl (by kernel_rfl) (by kernel_rfl) (by kernel_rfl) (by kernel_rfl) rfl rfl hf (by decide) (wantY hf rfl rfl hb147) (fun w hp => ?_) ⟨_, hp⟩ ?_
                                      · obtain ⟨_, hp⟩ := hp
                                        refine st_index (E := (Ek.int .u8)) hf (by decide) Try.underlying22 elt5 (wantY hf rfl rfl hb147) rfl rfl (rl137.sl hp) hc149.1 hc149.2 ?_
                                        clear hf; intro a ha hf
                                        exact st_nil hf (th_n ⟨ha, rfl⟩)
                                      clear hf; intro a hf
                                      refine dr_take 22 (.int .u8 (gt q1 (0 : Int))) rfl (by kernel_rfl) (by kernel_rfl) (by kernel_rfl) (by kernel_rfl) rfl rfl hf (by decide) (wantY hf rfl rfl hb147) (fun w hp => ?_) ⟨_, hp⟩ ?_
                                      · obtain ⟨_, hp⟩ := hp
                                        refine st_ldI hf (by decide) pl5 (wantY hf rfl rfl hb147) rfl (rl137.sl hp) hc149.1 hc149.2 ?_
                                        clear hf; intro a ha hf
                                        exact st_nil hf (th_n ⟨ha, rfl⟩)
                                      clear hf; intro a hf
                                      refine dr_take 23 (.int .u8 n1) rfl (by kernel_rfl) (by kernel_rfl) (by kernel_rfl) (by kernel_rfl) rfl rfl hf (by decide) (wantY hf rfl rfl hb147) (fun w hp => ?_) ⟨_, hp⟩ ?_
                                      · obtain ⟨_, hp⟩ := hp
                                        refine st_move hf (wantY hf rfl rfl hb147) rfl (by decide) ?_
                                        clear hf; intro a ha hf
                                        exact st_nil hf (th_n ⟨ha, rfl⟩)
                                      clear hf; intro a hf
                                      refine dr_take 24 (.int .u8 ((n1).tmod (4 : Int))) rfl (by kernel_rfl) (by kernel_rfl) (by kernel_rfl) (by kernel_rfl) rfl rfl hf (by decide) (wantY hf rfl rfl hb147) (fun w hp => ?_) ⟨_, hp⟩ ?_
                                      · obtain ⟨_, hp⟩ := hp
                                        refine st_irem hf (by decide) (wantY hf rfl rfl hb147) rfl rfl (by decide) ?_
                                        clear hf; intro a ha hf
                                        exact st_nil hf (th_n ⟨ha, rfl⟩)
                                      clear hf; intro a hf
                                      refine dr_take 25 (.int .u8 (IntKind.u8.wrap ((gt q1 (0 : Int)) + ((n1).tmod (4 : Int))))) rfl (by kernel_rfl) (by kernel_rfl) (by kernel_rfl) (by kernel_rfl) rfl rfl hf (by decide) (wantY hf rfl rfl hb147) (fun w hp => ?_) ⟨_, hp⟩ ?_
                                      · obtain ⟨_, hp⟩ := hp
                                        refine st_iadd hf (by decide) (wantY hf rfl rfl hb147) rfl rfl ?_
                                        clear hf; intro a ha hf
                                        exact st_nil hf (th_n ⟨ha, rfl⟩)
                                      clear hf; intro a hf
                                      refine dr_take 26 (.int .u8 (((IntKind.u8.wrap ((gt q1 (0 : Int)) + ((n1).tmod (4 : Int))))).tmod (4 : Int))) rfl (by kernel_rfl) (by kernel_rfl) (by kernel_rfl) (by kernel_rfl) rfl rfl hf (by decide) (wantY hf rfl rfl hb147) (fun w hp => ?_) ⟨_, hp⟩ ?_
                                      · obtain ⟨_, hp⟩ := hp
                                        refine st_irem hf (by decide) (wantY hf rfl rfl hb147) rfl rfl (by decide) ?_
                                        clear hf; intro a ha hf
                                        exact st_nil hf (th_n ⟨ha, rfl⟩)
                                      clear hf; intro a hf
                                      refine dr_take 27 (.bool ((gt q90.1 (0 : Int)) != (((IntKind.u8.wrap ((gt q1 (0 : Int)) + ((n1).tmod (4 : Int))))).tmod (4 : Int)))) rfl (by kernel_rfl) (by kernel_rfl) (by kernel_rfl) (by kernel_rfl) rfl rfl hf (by decide) (wantY hf rfl rfl hb147) (fun w hp => ?_) ⟨_, hp⟩ ?_
                                      · obtain ⟨_, hp⟩ := hp
                                        refine st_ineq hf (by decide) (wantY hf rfl rfl hb147) rfl rfl ?_
                                        clear hf; intro a ha hf
                                        exact st_nil hf (th_n ⟨ha, rfl⟩)
                                      clear hf; intro a hf
                                      refine dr_take 28 (.bool z150) rfl (by kernel_rfl) (by kernel_rfl) (by kernel_rfl) (by kernel_rfl) rfl rfl hf (by decide) (wantY hf rfl rfl hb145) (fun w hp => ?_) ⟨_, hp⟩ ?_
                                      · obtain ⟨_, hp⟩ := hp
                                        refine st_pick (v := .bool z150) hf (wantY hf rfl rfl hb145) rfl (fun _ => by rw [← hz146]; rfl) (fun hb' => absurd (hb147.symm.trans hb') (by decide)) (by decide) ?_
                                        clear hf; intro a ha hf
                                        exact st_nil hf (th_n ⟨ha, rfl⟩)
                                      clear hf; intro a hf
                                      refine dr_take 29 (.bool z151) rfl (by kernel_rfl) (by kernel_rfl) (by kernel_rfl) (by kernel_rfl) rfl rfl hf (by decide) rfl (fun w hp => ?_) ⟨_, hp⟩ ?_
                                      · obtain ⟨_, hp⟩ := hp
                                        refine st_pick (v := .bool z151) hf rfl rfl (fun hb' => absurd (hb145.symm.trans hb') (by decide)) (fun _ => by rw [← hz144]; rfl) (by decide) ?_
                                        clear hf; intro a ha hf
                                        exact st_nil hf (th_n ⟨ha, rfl⟩)
                                      clear hf; intro a hf
                                      refine dr_end (by kernel_rfl) ?_ _
                                      have hp := bk136 _ _ hp
                                      have hp := bk131 _ _ hp
                                      exact ⟨hf.sub ⟨rfl, rfl, rfl, rfl, rfl, trivial⟩, hp⟩
                                    · skip
                                      replace hz146 := ifF hz146 hb147
                                      replace hz146 := Option.some.inj hz146
                                      refine dr_begin' (fun a w => Fr 200 a [(1, .int .u8 n1), (5, v3), (16, v97), (20, .int .i64 k20), (161, .bool z151)] ∧ Hp S w0 w (Res.sl (Ek.int .u8) 5 v97 q90.1 :: Res.sl (Ek.int .u8) 5 v3 q1 :: ow)) (fun w' => ∃ l, Hp S132 w w' l) [] (by kernel_rfl) ?_
                                      refine dr_take 0 (.int .i64 k20) rfl (by kernel_rfl) (by kernel_rfl) (by kernel_rfl) (by kernel_rfl) rfl rfl hf (by decide) rfl (fun w hp => ?_) ⟨_, hp⟩ ?_
                                      · obtain ⟨_, hp⟩ := hp
                                        refine st_move hf rfl rfl (by decide) ?_
                                        clear hf; intro a ha hf
                                        exact st_nil hf (th_n ⟨ha, rfl⟩)
                                      clear hf; intro a hf
                                      refine dr_take 1 (.bool (decide ((0 : Int) < k20))) rfl (by kernel_rfl) (by kernel_rfl) (by kernel_rfl) (by kernel_rfl) rfl rfl hf (by decide) rfl (fun w hp => ?_) ⟨_, hp⟩ ?_
                                      · obtain ⟨_, hp⟩ := hp
                                        refine st_igtr hf (by decide) rfl rfl rfl ?_
                                        clear hf; intro a ha hf
                                        exact st_nil hf (th_n ⟨ha, rfl⟩)
                                      clear hf; intro a hf
                                      refine dr_take 2 (.bool (decide ((0 : Int) < k20))) rfl (by kernel_rfl) (by kernel_rfl) (by kernel_rfl) (by kernel_rfl) rfl rfl hf (by decide) rfl (fun w hp => ?_) ⟨_, hp⟩ ?_
                                      · obtain ⟨_, hp⟩ := hp
                                        refine st_move hf rfl rfl (by decide) ?_
                                        clear hf; intro a ha hf
                                        exact st_nil hf (th_n ⟨ha, rfl⟩)
                                      clear hf; intro a hf
                                      refine dr_out 3 rfl (by kernel_rfl) (by kernel_rfl) (by kernel_rfl) (by kernel_rfl) rfl hf (by decide) rfl (wantN hf rfl rfl hb140) ⟨_, hp⟩ ?_
                                      clear hf; intro a hf
                                      refine dr_out 4 rfl (by kernel_rfl) (by kernel_rfl) (by kernel_rfl) (by kernel_rfl) rfl hf (by decide) rfl (wantN hf rfl rfl hb140) ⟨_, hp⟩ ?_
                                      clear hf; intro a hf
                                      refine dr_out 5 rfl (by kernel_rfl) (by kernel_rfl) (by kernel_rfl) (by kernel_rfl) rfl hf (by decide) rfl (wantN hf rfl rfl hb140) ⟨_, hp⟩ ?_
                                      clear hf; intro a hf
                                      refine dr_out 6 rfl (by kernel_rfl) (by kernel_rfl) (by kernel_rfl) (by kernel_rfl) rfl hf (by decide) rfl (wantN hf rfl rfl hb140) ⟨_, hp⟩ ?_
                                      clear hf; intro a hf
                                      refine dr_out 7 rfl (by kernel_rfl) (by kernel_rfl) (by kernel_rfl) (by kernel_rfl) rfl hf (by decide) rfl (wantN hf rfl rfl hb140) ⟨_, hp⟩ ?_
                                      clear hf; intro a hf
                                      refine dr_out 8 rfl (by kernel_rfl) (by kernel_rfl) (by kernel_rfl) (by kernel_rfl) rfl hf (by decide) rfl (wantN hf rfl rfl hb140) ⟨_, hp⟩ ?_
                                      clear hf; intro a hf
                                      refine dr_out 9 rfl (by kernel_rfl) (by kernel_rfl) (by kernel_rfl) (by kernel_rfl) rfl hf (by decide) rfl (wantN hf rfl rfl hb140) ⟨_, hp⟩ ?_
                                      clear hf; intro a hf
                                      refine dr_out 10 rfl (by kernel_rfl) (by kernel_rfl) (by kernel_rfl) (by kernel_rfl) rfl hf (by decide) rfl (wantN hf rfl rfl hb140) ⟨_, hp⟩ ?_
                                      clear hf; intro a hf
                                      refine dr_out 11 rfl (by kernel_rfl) (by kernel_rfl) (by kernel_rfl) (by kernel_rfl) rfl hf (by decide) rfl (wantN hf rfl rfl hb140) ⟨_, hp⟩ ?_
                                      clear hf; intro a hf
                                      refine dr_take 12 (.bool z143) rfl (by kernel_rfl) (by kernel_rfl) (by kernel_rfl) (by kernel_rfl) rfl rfl hf (by decide) rfl (fun w hp => ?_) ⟨_, hp⟩ ?_
                                      · obtain ⟨_, hp⟩ := hp
                                        refine st_pick (v := .bool z143) hf rfl rfl (fun hb' => absurd (hb140.symm.trans hb') (by decide)) (fun _ => by rw [← hz139]; rfl) (by decide) ?_
                                        clear hf; intro a ha hf
                                        exact st_nil hf (th_n ⟨ha, rfl⟩)
                                      clear hf; intro a hf
                                      refine dr_take 13 (.bool z143) rfl (by kernel_rfl) (by kernel_rfl) (by kernel_rfl) (by kernel_rfl) rfl rfl hf (by decide) rfl (fun w hp => ?_) ⟨_, hp⟩ ?_
                                      · obtain ⟨_, hp⟩ := hp
                                        refine st_move hf rfl rfl (by decide) ?_
                                        clear hf; intro a ha hf
                                        exact st_nil hf (th_n ⟨ha, rfl⟩)
                                      clear hf; intro a hf
                                      refine dr_take 14 (.int .i64 k20) rfl (by kernel_rfl) (by kernel_rfl) (by kernel_rfl) (by kernel_rfl) rfl rfl hf (by decide) (wantY hf rfl rfl hb145) (fun w hp => ?_) ⟨_, hp⟩ ?_
                                      · obtain ⟨_, hp⟩ := hp
                                        refine st_move hf (wantY hf rfl rfl hb145) rfl (by decide) ?_
                                        clear hf; intro a ha hf
                                        exact st_nil hf (th_n ⟨ha, rfl⟩)
                                      clear hf; intro a hf
                                      refine dr_take 15 (.bool (k20 == (0 : Int))) rfl (by kernel_rfl) (by kernel_rfl) (by kernel_rfl) (by kernel_rfl) rfl rfl hf (by decide) (wantY hf rfl rfl hb145) (fun w hp => ?_) ⟨_, hp⟩ ?_
                                      · obtain ⟨_, hp⟩ := hp
                                        refine st_ieql hf (by decide) (wantY hf rfl rfl hb145) rfl rfl ?_
                                        clear hf; intro a ha hf
                                        exact st_nil hf (th_n ⟨ha, rfl⟩)
                                      clear hf; intro a hf
                                      refine dr_take 16 (.bool (k20 == (0 : Int))) rfl (by kernel_rfl) (by kernel_rfl) (by kernel_rfl) (by kernel_rfl) rfl rfl hf (by decide) (wantY hf rfl rfl hb145) (fun w hp => ?_) ⟨_, hp⟩ ?_
                                      · obtain ⟨_, hp⟩ := hp
                                        refine st_move hf (wantY hf rfl rfl hb145) rfl (by decide) ?_
                                        clear hf; intro a ha hf
                                        exact st_nil hf (th_n ⟨ha, rfl⟩)
                                      clear hf; intro a hf
                                      refine dr_out 17 rfl (by kernel_rfl) (by kernel_rfl) (by kernel_rfl) (by kernel_rfl) rfl hf (by decide) rfl (wantN hf rfl rfl hb147) ⟨_, hp⟩ ?_
                                      clear hf; intro a hf
                                      refine dr_out 18 rfl (by kernel_rfl) (by kernel_rfl) (by kernel_rfl) (by kernel_rfl) rfl hf (by decide) rfl (wantN hf rfl rfl hb147) ⟨_, hp⟩ ?_
                                      clear hf; intro a hf
                                      refine dr_out 19 rfl (by kernel_rfl) (by kernel_rfl) (by kernel_rfl) (by kernel_rfl) rfl hf (by decide) rfl (wantN hf rfl rfl hb147) ⟨_, hp⟩ ?_
                                      clear hf; intro a hf
                                      refine dr_out 20 rfl (by kernel_rfl) (by kernel_rfl) (by kernel_rfl) (by kernel_rfl) rfl hf (by decide) rfl (wantN hf rfl rfl hb147) ⟨_, hp⟩ ?_
                                      clear hf; intro a hf
                                      refine dr_out 21 rfl (by kernel_rfl) (by kernel_rfl) (by kernel_rfl) (by kernel_rfl) rfl hf (by decide) rfl (wantN hf rfl rfl hb147) ⟨_, hp⟩ ?_
                                      clear hf; intro a hf
                                      refine dr_out 22 rfl (by kernel_rfl) (by kernel_rfl) (by kernel_rfl) (by kernel_rfl) rfl hf (by decide) rfl (wantN hf rfl rfl hb147) ⟨_, hp⟩ ?_
                                      clear hf; intro a hf
                                      refine dr_out 23 rfl (by kernel_rfl) (by kernel_rfl) (by kernel_rfl) (by kernel_rfl) rfl hf (by decide) rfl (wantN hf rfl rfl hb147) ⟨_, hp⟩ ?_
                                      clear hf; intro a hf
                                      refine dr_out 24 rfl (by kernel_rfl) (by kernel_rfl) (by kernel_rfl) (by kernel_rfl) rfl hf (by decide) rfl (wantN hf rfl rfl hb147) ⟨_, hp⟩ ?_
                                      clear hf; intro a hf
                                      refine dr_out 25 rfl (by kernel_rfl) (by kernel_rfl) (by kernel_rfl) (by kernel_rfl) rfl hf (by decide) rfl (wantN hf rfl rfl hb147) ⟨_, hp⟩ ?_
                                      clear hf; intro a hf
                                      refine dr_out 26 rfl (by kernel_rfl) (by kernel_rfl) (by kernel_rfl) (by kernel_rfl) rfl hf (by decide) rfl (wantN hf rfl rfl hb147) ⟨_, hp⟩ ?_
                                      clear hf; intro a hf
                                      refine dr_out 27 rfl (by kernel_rfl) (by kernel_rfl) (by kernel_rfl) (by kernel_rfl) rfl hf (by decide) rfl (wantN hf rfl rfl hb147) ⟨_, hp⟩ ?_
                                      clear hf; intro a hf
                                      refine dr_take 28 (.bool z150) rfl (by kernel_rfl) (by kernel_rfl) (by kernel_rfl) (by kernel_rfl) rfl rfl hf (by decide) (wantY hf rfl rfl hb145) (fun w hp => ?_) ⟨_, hp⟩ ?_
                                      · obtain ⟨_, hp⟩ := hp
                                        refine st_pick (v := .bool z150) hf (wantY hf rfl rfl hb145) rfl (fun hb' => absurd (hb147.symm.trans hb') (by decide)) (fun _ => by rw [← hz146]; rfl) (by decide) ?_
                                        clear hf; intro a ha hf
                                        exact st_nil hf (th_n ⟨ha, rfl⟩)
                                      clear hf; intro a hf
                                      refine dr_take 29 (.bool z151) rfl (by kernel_rfl) (by kernel_rfl) (by kernel_rfl) (by kernel_rfl) rfl rfl hf (by decide) rfl (fun w hp => ?_) ⟨_, hp⟩ ?_
                                      · obtain ⟨_, hp⟩ := hp
                                        refine st_pick (v := .bool z151) hf rfl rfl (fun hb' => absurd (hb145.symm.trans hb') (by decide)) (fun _ => by rw [← hz144]; rfl) (by decide) ?_
                                        clear hf; intro a ha hf
                                        exact st_nil hf (th_n ⟨ha, rfl⟩)
                                      clear hf; intro a hf
                                      refine dr_end (by kernel_rfl) ?_ _
                                      have hp := bk136 _ _ hp
                                      have hp := bk131 _ _ hp
                                      exact ⟨hf.sub ⟨rfl, rfl, rfl, rfl, rfl, trivial⟩, hp⟩
                              · rintro a w ⟨hf, hp⟩
                                refine th_n ?_
                                refine wp_if hf rfl (fun hb => ?_) (fun hb => ?_)
                                · replace h := ifT h hb
                                  refine wp_seq ?_
                                  refine wp_reg ?_
                                  refine st_assign hf rfl rfl (by decide) ?_
                                  clear hf; intro a ha hf; clear ha
                                  refine st_nil hf ?_
                                  refine th_n ?_
                                  refine wp_ret ?_
                                  refine ib_r ?_
                                  refine th_r ?_
                                  obtain rfl := Option.some.inj h
                                  have hp : Hp _ _ w (ow) := Hp.sel (pre := [Res.sl (Ek.int .u8) 5 v97 q90.1, Res.sl (Ek.int .u8) 5 v3 q1]) (tail := ow) (rs' := []) hp [] (by decide) (by simp) rfl
                                  exact rnd_r (by simp) ⟨rfl, ⟨hf.sub ⟨rfl, trivial⟩, hp⟩⟩
                                · replace h := ifF h hb
                                  refine wp_skip ?_
                                  refine ib_n ?_
                                  refine th_n ?_
                                  refine wp_reg ?_
                                  refine st_move hf rfl rfl (by decide) ?_
                                  clear hf; intro a ha hf; clear ha
                                  refine st_iadd hf (by decide) rfl rfl rfl ?_
                                  clear hf; intro a ha hf; clear ha
                                  refine st_assign hf rfl rfl (by decide) ?_
                                  clear hf; intro a ha hf; clear ha
                                  refine st_nil hf ?_
                                  obtain rfl := Option.some.inj h
                                  have hp : Hp _ _ w (Res.sl (Ek.int .u8) 5 v3 q1 :: Res.sl (Ek.int .u8) 5 v97 q90.1 :: ow) := Hp.sel (pre := [Res.sl (Ek.int .u8) 5 v97 q90.1, Res.sl (Ek.int .u8) 5 v3 q1]) (tail := ow) (rs' := [Res.sl (Ek.int .u8) 5 v3 q1, Res.sl (Ek.int .u8) 5 v97 q90.1]) hp [1, 0] (by decide) (by simp) rfl
                                  exact rnd_l ⟨hf.sub ⟨rfl, rfl, rfl, rfl, trivial⟩, hp⟩
                            · replace h := ifF h hb
                              refine wp_exit ?_
                              refine th_e ?_
                              obtain rfl := Option.some.inj h
                              have hp : Hp _ _ w (ow) := Hp.sel (pre := [Res.sl (Ek.int .u8) 5 v3 q1, Res.sl (Ek.int .u8) 5 v97 q90.1]) (tail := ow) (rs' := []) hp [] (by decide) (by simp) rfl
                              exact rnd_r (by simp) ⟨rfl, hf.sub trivial, hp⟩
                          · clear hl hf hp
                            intro e a w hne hO
                            cases q152 with
                            | inl q153 =>
                              replace h := smL h
                              obtain ⟨rfl, hf, hp⟩ := hO
                              refine ib_same ?_
                              refine th_n ?_
                              refine wp_seq ?_
                              refine wp_seq ?_
                              refine wp_reg ?_
                              refine st_assign hf rfl rfl (by decide) ?_
                              clear hf; intro a ha hf; clear ha
                              refine st_nil hf ?_
                              refine th_n ?_
                              refine wp_block ?_
                              obtain ⟨q181, hl, h⟩ := bnd h
                              refine wp_loop_pure (f := f_foghornlaw06_TurnsWhole.s3) (s := (0 : Int)) (fun s a w => Fr 200 a [(21, .int .u8 s)] ∧ Hp S w0 w (ow)) (fun q e a w => match q with | (Sum.inl q) => e = .exit 4 ∧ Fr 200 a [] ∧ Hp S w0 w (ow) | (Sum.inr q) => e = .ret ∧ Fr 200 a [(4, .bool q)] ∧ Hp S w0 w (ow)) ?_ hl ⟨hf.sub ⟨rfl, trivial⟩, hp⟩ ?_
                              · clear hl hf hp
                                intro s x a w h hI
                                obtain ⟨k21, hs⟩ : ∃ z, z = s := ⟨s, rfl⟩; subst hs
                                obtain ⟨hf, hp⟩ : Fr 200 a [(21, .int .u8 k21)] ∧ Hp S w0 w (ow) := hI
                                replace h : f_foghornlaw06_TurnsWhole.s3c k21 = some x := h
                                unfold f_foghornlaw06_TurnsWhole.s3c at h
                                refine wp_seq ?_
                                refine wp_seq ?_
                                refine wp_reg ?_
                                refine st_move hf rfl rfl (by decide) ?_
                                clear hf; intro a ha hf; clear ha
                                refine st_ilss hf (by decide) rfl rfl rfl ?_
                                clear hf; intro a ha hf; clear ha
                                refine st_nil hf ?_
                                refine th_n ?_
                                refine wp_if hf rfl (fun hb => ?_) (fun hb => ?_)
                                · replace h := ifT h hb
                                  refine wp_skip ?_
                                  refine th_n ?_
                                  refine wp_seq ?_
                                  refine wp_block ?_
                                  refine wp_seq ?_
                                  refine wp_reg ?_
                                  refine st_move hf rfl rfl (by decide) ?_
                                  clear hf; intro a ha hf; clear ha
                                  refine st_move hf rfl rfl (by decide) ?_
                                  clear hf; intro a ha hf; clear ha
                                  refine st_iadd hf (by decide) rfl rfl rfl ?_
                                  clear hf; intro a ha hf; clear ha
                                  refine st_irem hf (by decide) rfl rfl rfl (by decide) ?_
                                  clear hf; intro a ha hf; clear ha
                                  refine st_build (E := (Ek.int .u8)) (xs := [k21, (((IntKind.u8.wrap (k21 + (1 : Int)))).tmod (4 : Int))]) hf (by decide) elt5 Try.underlying22 hp (vals := #[(0, .int .u8 k21), (1, .int .u8 (((IntKind.u8.wrap (k21 + (1 : Int)))).tmod (4 : Int)))]) (cells := #[.int .u8 k21, .int .u8 (((IntKind.u8.wrap (k21 + (1 : Int)))).tmod (4 : Int))]) rfl (by simp [hf.ev (x := (Operand.tmp 167)) rfl, hf.ev (x := (Operand.tmp 170)) rfl]) (by decide) (by decide) (z := .int .u8 0) (by kernel_rfl) (by kernel_rfl) rfl (reps_cons (cs := [.int .u8 k21]) rfl (reps_cons (cs := [.int .u8 (((IntKind.u8.wrap (k21 + (1 : Int)))).tmod (4 : Int))]) rfl (reps_nil _))) ?_
                                  clear hf; intro a w v155 hf hp0; clear hp; have hp := hp0; clear hp0
                                  replace hp : Hp _ _ w (Res.sl (Ek.int .u8) 5 v155 ([k21, (((IntKind.u8.wrap (k21 + (1 : Int)))).tmod (4 : Int))]) :: ow) := hp
                                  obtain ⟨q157, hcall158, h⟩ := bnd h
                                  obtain ⟨S159, hp160, rd161, up162, bk163⟩ := Hp.lendS hp (i := 0) rfl
                                  refine st_call hf (by decide) Try.func11 rfl rfl rfl rfl rfl (f_turns_Bits_c hp160 _ _ rd161 hcall158) ?_
                                  rintro _ w ⟨v164, rfl, hp0⟩
                                  have hp0 := bk163 _ _ hp0
                                  clear hp; have hp := hp0; clear hp0
                                  replace hp : Hp _ _ w (Res.sl (Ek.int .u8) 5 v155 ([k21, (((IntKind.u8.wrap (k21 + (1 : Int)))).tmod (4 : Int))]) :: Res.sl Ek.bool 4 v164 q157.1 :: ow) := hp
                                  refine ⟨_, rfl, ?_⟩
                                  clear hf; intro a hf
                                  refine st_move hf rfl rfl (by decide) ?_
                                  clear hf; intro a ha hf; clear ha
                                  refine st_extract hf (by decide) rfl rfl rfl ?_
                                  clear hf; intro a ha hf; clear ha
                                  refine st_extract hf (by decide) rfl rfl rfl ?_
                                  clear hf; intro a ha hf; clear ha
                                  refine st_assign hf rfl rfl (by decide) ?_
                                  clear hf; intro a ha hf; clear ha
                                  refine st_assign hf rfl rfl (by decide) ?_
                                  clear hf; intro a ha hf; clear ha
                                  refine st_nil hf ?_
                                  refine th_n ?_
                                  refine wp_seq ?_
                                  obtain ⟨S166, hp167, rd168, up169, bk170⟩ := Hp.lendS hp (i := 1) rfl
                                  have rl171 := rd168
                                  obtain ⟨z180, hz174, h⟩ := bnd h
                                  refine wp_cutN (fun a w => Fr 200 a [(21, .int .u8 k21), (198, .bool z180)] ∧ Hp S w0 w (Res.sl Ek.bool 4 v164 q157.1 :: Res.sl (Ek.int .u8) 5 v155 ([k21, (((IntKind.u8.wrap (k21 + (1 : Int)))).tmod (4 : Int))]) :: ow)) ?_ ?_
                                  · have hp := hp167.same (Same.drew w)
                                    rcases Bool.eq_false_or_eq_true (q157.2 != (0 : Int)) with hb173 | hb173
                                    · skip
                                      rcases Bool.eq_false_or_eq_true ((q157.2 != (0 : Int)) || ((q157.1.length : Int) != (4 : Int))) with hb175 | hb175
                                      · skip
                                        replace hz174 := ifT hz174 hb175
                                        replace hz174 := Option.some.inj hz174
                                        refine dr_begin' (fun a w => Fr 200 a [(21, .int .u8 k21), (198, .bool z180)] ∧ Hp S w0 w (Res.sl Ek.bool 4 v164 q157.1 :: Res.sl (Ek.int .u8) 5 v155 ([k21, (((IntKind.u8.wrap (k21 + (1 : Int)))).tmod (4 : Int))]) :: ow)) (fun w' => ∃ l, Hp S166 w w' l) [] (by kernel_rfl) ?_
                                        refine dr_take 0 (.int .i64 q157.2) rfl (by kernel_rfl) (by kernel_rfl) (by kernel_rfl) (by kernel_rfl) rfl rfl hf (by decide) rfl (fun w hp => ?_) ⟨_, hp⟩ ?_
                                        · obtain ⟨_, hp⟩ := hp
                                          refine st_move hf rfl rfl (by decide) ?_
                                          clear hf; intro a ha hf
                                          exact st_nil hf (th_n ⟨ha, rfl⟩)
                                        clear hf; intro a hf
                                        refine dr_take 1 (.bool (q157.2 != (0 : Int))) rfl (by kernel_rfl) (by kernel_rfl) (by kernel_rfl) (by kernel_rfl) rfl rfl hf (by decide) rfl (fun w hp => ?_) ⟨_, hp⟩ ?_
                                        · obtain ⟨_, hp⟩ := hp
                                          refine st_ineq hf (by decide) rfl rfl rfl ?_
                                          clear hf; intro a ha hf
                                          exact st_nil hf (th_n ⟨ha, rfl⟩)
                                        clear hf; intro a hf
                                        refine dr_take 2 (.bool (q157.2 != (0 : Int))) rfl (by kernel_rfl) (by kernel_rfl) (by kernel_rfl) (by kernel_rfl) rfl rfl hf (by decide) rfl (fun w hp => ?_) ⟨_, hp⟩ ?_
                                        · obtain ⟨_, hp⟩ := hp
                                          refine st_move hf rfl rfl (by decide) ?_
                                          clear hf; intro a ha hf
                                          exact st_nil hf (th_n ⟨ha, rfl⟩)
                                        clear hf; intro a hf
                                        refine dr_out 3 rfl (by kernel_rfl) (by kernel_rfl) (by kernel_rfl) (by kernel_rfl) rfl hf (by decide) rfl (wantN hf rfl rfl hb173) ⟨_, hp⟩ ?_
                                        clear hf; intro a hf
                                        refine dr_out 4 rfl (by kernel_rfl) (by kernel_rfl) (by kernel_rfl) (by kernel_rfl) rfl hf (by decide) rfl (wantN hf rfl rfl hb173) ⟨_, hp⟩ ?_
                                        clear hf; intro a hf
                                        refine dr_out 5 rfl (by kernel_rfl) (by kernel_rfl) (by kernel_rfl) (by kernel_rfl) rfl hf (by decide) rfl (wantN hf rfl rfl hb173) ⟨_, hp⟩ ?_
                                        clear hf; intro a hf
                                        refine dr_take 6 (.bool ((q157.2 != (0 : Int)) || ((q157.1.length : Int) != (4 : Int)))) rfl (by kernel_rfl) (by kernel_rfl) (by kernel_rfl) (by kernel_rfl) rfl rfl hf (by decide) rfl (fun w hp => ?_) ⟨_, hp⟩ ?_
                                        · obtain ⟨_, hp⟩ := hp
                                          refine st_pick (v := .bool ((q157.2 != (0 : Int)) || ((q157.1.length : Int) != (4 : Int)))) hf rfl rfl (fun _ => by rw [show ((q157.2 != (0 : Int)) || ((q157.1.length : Int) != (4 : Int))) = true from by rw [hb173]; rfl]; rfl) (fun hb' => absurd (hb173.symm.trans hb') (by decide)) (by decide) ?_
                                          clear hf; intro a ha hf
                                          exact st_nil hf (th_n ⟨ha, rfl⟩)
                                        clear hf; intro a hf
                                        refine dr_take 7 (.bool ((q157.2 != (0 : Int)) || ((q157.1.length : Int) != (4 : Int)))) rfl (by kernel_rfl) (by kernel_rfl) (by kernel_rfl) (by kernel_rfl) rfl rfl hf (by decide) rfl (fun w hp => ?_) ⟨_, hp⟩ ?_
                                        · obtain ⟨_, hp⟩ := hp
                                          refine st_move hf rfl rfl (by decide) ?_
                                          clear hf; intro a ha hf
                                          exact st_nil hf (th_n ⟨ha, rfl⟩)
                                        clear hf; intro a hf
                                        refine dr_out 8 rfl (by kernel_rfl) (by kernel_rfl) (by kernel_rfl) (by kernel_rfl) rfl hf (by decide) rfl (wantN hf rfl rfl hb175) ⟨_, hp⟩ ?_
                                        clear hf; intro a hf
                                        refine dr_out 9 rfl (by kernel_rfl) (by kernel_rfl) (by kernel_rfl) (by kernel_rfl) rfl hf (by decide) rfl (wantN hf rfl rfl hb175) ⟨_, hp⟩ ?_
                                        clear hf; intro a hf
                                        refine dr_out 10 rfl (by kernel_rfl) (by kernel_rfl) (by kernel_rfl) (by kernel_rfl) rfl hf (by decide) rfl (wantN hf rfl rfl hb175) ⟨_, hp⟩ ?_
                                        clear hf; intro a hf
                                        refine dr_out 11 rfl (by kernel_rfl) (by kernel_rfl) (by kernel_rfl) (by kernel_rfl) rfl hf (by decide) rfl (wantN hf rfl rfl hb175) ⟨_, hp⟩ ?_
                                        clear hf; intro a hf
                                        refine dr_out 12 rfl (by kernel_rfl) (by kernel_rfl) (by kernel_rfl) (by kernel_rfl) rfl hf (by decide) rfl (wantN hf rfl rfl hb175) ⟨_, hp⟩ ?_
                                        clear hf; intro a hf
                                        refine dr_out 13 rfl (by kernel_rfl) (by kernel_rfl) (by kernel_rfl) (by kernel_rfl) rfl hf (by decide) rfl (wantN hf rfl rfl hb175) ⟨_, hp⟩ ?_
                                        clear hf; intro a hf
                                        refine dr_out 14 rfl (by kernel_rfl) (by kernel_rfl) (by kernel_rfl) (by kernel_rfl) rfl hf (by decide) rfl (wantN hf rfl rfl hb175) ⟨_, hp⟩ ?_
                                        clear hf; intro a hf
                                        refine dr_out 15 rfl (by kernel_rfl) (by kernel_rfl) (by kernel_rfl) (by kernel_rfl) rfl hf (by decide) rfl (wantN hf rfl rfl hb175) ⟨_, hp⟩ ?_
                                        clear hf; intro a hf
                                        refine dr_out 16 rfl (by kernel_rfl) (by kernel_rfl) (by kernel_rfl) (by kernel_rfl) rfl hf (by decide) rfl (wantN hf rfl rfl hb175) ⟨_, hp⟩ ?_
                                        clear hf; intro a hf
                                        refine dr_out 17 rfl (by kernel_rfl) (by kernel_rfl) (by kernel_rfl) (by kernel_rfl) rfl hf (by decide) rfl (wantN hf rfl rfl hb175) ⟨_, hp⟩ ?_
                                        clear hf; intro a hf
                                        refine dr_out 18 rfl (by kernel_rfl) (by kernel_rfl) (by kernel_rfl) (by kernel_rfl) rfl hf (by decide) rfl (wantN hf rfl rfl hb175) ⟨_, hp⟩ ?_
                                        clear hf; intro a hf
                                        refine dr_out 19 rfl (by kernel_rfl) (by kernel_rfl) (by kernel_rfl) (by kernel_rfl) rfl hf (by decide) rfl (wantN hf rfl rfl hb175) ⟨_, hp⟩ ?_
                                        clear hf; intro a hf
                                        refine dr_out 20 rfl (by kernel_rfl) (by kernel_rfl) (by kernel_rfl) (by kernel_rfl) rfl hf (by decide) rfl (wantN hf rfl rfl hb175) ⟨_, hp⟩ ?_
                                        clear hf; intro a hf
                                        refine dr_out 21 rfl (by kernel_rfl) (by kernel_rfl) (by kernel_rfl) (by kernel_rfl) rfl hf (by decide) rfl (wantN hf rfl rfl hb175) ⟨_, hp⟩ ?_
                                        clear hf; intro a hf
                                        refine dr_out 22 rfl (by kernel_rfl) (by kernel_rfl) (by kernel_rfl) (by kernel_rfl) rfl hf (by decide) rfl (wantN hf rfl rfl hb175) ⟨_, hp⟩ ?_
                                        clear hf; intro a hf
                                        refine dr_take 23 (.bool z180) rfl (by kernel_rfl) (by kernel_rfl) (by kernel_rfl) (by kernel_rfl) rfl rfl hf (by decide) rfl (fun w hp => ?_) ⟨_, hp⟩ ?_
                                        · obtain ⟨_, hp⟩ := hp
                                          refine st_pick (v := .bool z180) hf rfl rfl (fun _ => by rw [← hz174]; rfl) (fun hb' => absurd (hb175.symm.trans hb') (by decide)) (by decide) ?_
                                          clear hf; intro a ha hf
                                          exact st_nil hf (th_n ⟨ha, rfl⟩)
                                        clear hf; intro a hf
                                        refine dr_end (by kernel_rfl) ?_ _
                                        have hp := bk170 _ _ hp
                                        exact ⟨hf.sub ⟨rfl, rfl, trivial⟩, hp⟩
                                      · skip
                                        replace hz174 := ifF hz174 hb175
                                        obtain ⟨hc176, hz174⟩ := chk hz174
                                        obtain ⟨hc177, hz174⟩ := chk hz174
                                        obtain ⟨hc178, hz174⟩ := chk hz174
                                        obtain ⟨hc179, hz174⟩ := chk hz174
                                        replace hz174 := Option.some.inj hz174
                                        refine dr_begin' (fun a w => Fr 200 a [(21, .int .u8 k21), (198, .bool z180)] ∧ Hp S w0 w (Res.sl Ek.bool 4 v164 q157.1 :: Res.sl (Ek.int .u8) 5 v155 ([k21, (((IntKind.u8.wrap (k21 + (1 : Int)))).tmod (4 : Int))]) :: ow)) (fun w' => ∃ l, Hp S166 w w' l) [] (by kernel_rfl) ?_
                                        refine dr_take 0 (.int .i64 q157.2) rfl (by kernel_rfl) (by kernel_rfl) (by kernel_rfl) (by kernel_rfl) rfl rfl hf (by decide) rfl (fun w hp => ?_) ⟨_, hp⟩ ?_
                                        · obtain ⟨_, hp⟩ := hp
                                          refine st_move hf rfl rfl (by decide) ?_
                                          clear hf; intro a ha hf
                                          exact st_nil hf (th_n ⟨ha, rfl⟩)
                                        clear hf; intro a hf
                                        refine dr_take 1 (.bool (q157.2 != (0 : Int))) rfl (by kernel_rfl) (by kernel_rfl) (by kernel_rfl) (by kernel_rfl) rfl rfl hf (by decide) rfl (fun w hp => ?_) ⟨_, hp⟩ ?_
                                        · obtain ⟨_, hp⟩ := hp
                                          refine st_ineq hf (by decide) rfl rfl rfl ?_
                                          clear hf; intro a ha hf
                                          exact st_nil hf (th_n ⟨ha, rfl⟩)
                                        clear hf; intro a hf
                                        refine dr_take 2 (.bool (q157.2 != (0 : Int))) rfl (by kernel_rfl) (by kernel_rfl) (by kernel_rfl) (by kernel_rfl) rfl rfl hf (by decide) rfl (fun w hp => ?_) ⟨_, hp⟩ ?_
                                        · obtain ⟨_, hp⟩ := hp
                                          refine st_move hf rfl rfl (by decide) ?_
                                          clear hf; intro a ha hf
                                          exact st_nil hf (th_n ⟨ha, rfl⟩)
                                        clear hf; intro a hf
                                        refine dr_out 3 rfl (by kernel_rfl) (by kernel_rfl) (by kernel_rfl) (by kernel_rfl) rfl hf (by decide) rfl (wantN hf rfl rfl hb173) ⟨_, hp⟩ ?_
                                        clear hf; intro a hf
                                        refine dr_out 4 rfl (by kernel_rfl) (by kernel_rfl) (by kernel_rfl) (by kernel_rfl) rfl hf (by decide) rfl (wantN hf rfl rfl hb173) ⟨_, hp⟩ ?_
                                        clear hf; intro a hf
                                        refine dr_out 5 rfl (by kernel_rfl) (by kernel_rfl) (by kernel_rfl) (by kernel_rfl) rfl hf (by decide) rfl (wantN hf rfl rfl hb173) ⟨_, hp⟩ ?_
                                        clear hf; intro a hf
                                        refine dr_take 6 (.bool ((q157.2 != (0 : Int)) || ((q157.1.length : Int) != (4 : Int)))) rfl (by kernel_rfl) (by kernel_rfl) (by kernel_rfl) (by kernel_rfl) rfl rfl hf (by decide) rfl (fun w hp => ?_) ⟨_, hp⟩ ?_
                                        · obtain ⟨_, hp⟩ := hp
                                          refine st_pick (v := .bool ((q157.2 != (0 : Int)) || ((q157.1.length : Int) != (4 : Int)))) hf rfl rfl (fun _ => by rw [show ((q157.2 != (0 : Int)) || ((q157.1.length : Int) != (4 : Int))) = true from by rw [hb173]; rfl]; rfl) (fun hb' => absurd (hb173.symm.trans hb') (by decide)) (by decide) ?_
                                          clear hf; intro a ha hf
                                          exact st_nil hf (th_n ⟨ha, rfl⟩)
                                        clear hf; intro a hf
                                        refine dr_take 7 (.bool ((q157.2 != (0 : Int)) || ((q157.1.length : Int) != (4 : Int)))) rfl (by kernel_rfl) (by kernel_rfl) (by kernel_rfl) (by kernel_rfl) rfl rfl hf (by decide) rfl (fun w hp => ?_) ⟨_, hp⟩ ?_
                                        · obtain ⟨_, hp⟩ := hp
                                          refine st_move hf rfl rfl (by decide) ?_
                                          clear hf; intro a ha hf
                                          exact st_nil hf (th_n ⟨ha, rfl⟩)
                                        clear hf; intro a hf
                                        refine dr_take 8 (v164) rfl (by kernel_rfl) (by kernel_rfl) (by kernel_rfl) (by kernel_rfl) rfl rfl hf (by decide) (wantY hf rfl rfl hb175) (fun w hp => ?_) ⟨_, hp⟩ ?_
                                        · obtain ⟨_, hp⟩ := hp
                                          refine st_move hf (wantY hf rfl rfl hb175) rfl (by decide) ?_
                                          clear hf; intro a ha hf
                                          exact st_nil hf (th_n ⟨ha, rfl⟩)
                                        clear hf; intro a hf
                                        refine dr_take 9 (eptr v164 (0 : Int) 1) rfl (by kernel_rfl) (by kernel_rfl) (by kernel_rfl) (by kernel_rfl) rfl rfl hf (by decide) (wantY hf rfl rfl hb175) (fun w hp => ?_) ⟨_, hp⟩ ?_
                                        · obtain ⟨_, hp⟩ := hp
                                          refine st_index (E := Ek.bool) hf (by decide) Try.underlying27 elt4 (wantY hf rfl rfl hb175) rfl rfl (rl171.sl hp) hc176.1 hc176.2 ?_
                                          clear hf; intro a ha hf
                                          exact st_nil hf (th_n ⟨ha, rfl⟩)
                                        clear hf; intro a hf
                                        refine dr_take 10 (.bool (gt q157.1 (0 : Int))) rfl (by kernel_rfl) (by kernel_rfl) (by kernel_rfl) (by kernel_rfl) rfl rfl hf (by decide) (wantY hf rfl rfl hb175) (fun w hp => ?_) ⟨_, hp⟩ ?_
                                        · obtain ⟨_, hp⟩ := hp
                                          refine st_ldB hf (by decide) pl4 (wantY hf rfl rfl hb175) rfl (rl171.sl hp) hc176.1 hc176.2 ?_
                                          clear hf; intro a ha hf
                                          exact st_nil hf (th_n ⟨ha, rfl⟩)
                                        clear hf; intro a hf
                                        refine dr_take 11 (v164) rfl (by kernel_rfl) (by kernel_rfl) (by kernel_rfl) (by kernel_rfl) rfl rfl hf (by decide) (wantY hf rfl rfl hb175) (fun w hp => ?_) ⟨_, hp⟩ ?_
                                        · obtain ⟨_, hp⟩ := hp
                                          refine st_move hf (wantY hf rfl rfl hb175) rfl (by decide) ?_
                                          clear hf; intro a ha hf
                                          exact st_nil hf (th_n ⟨ha, rfl⟩)
                                        clear hf; intro a hf
                                        refine dr_take 12 (eptr v164 (2 : Int) 1) rfl (by kernel_rfl) (by kernel_rfl) (by kernel_rfl) (by kernel_rfl) rfl rfl hf (by decide) (wantY hf rfl rfl hb175) (fun w hp => ?_) ⟨_, hp⟩ ?_
                                        · obtain ⟨_, hp⟩ := hp
                                          refine st_index (E := Ek.bool) hf (by decide) Try.underlying27 elt4 (wantY hf rfl rfl hb175) rfl rfl (rl171.sl hp) hc177.1 hc177.2 ?_
                                          clear hf; intro a ha hf
                                          exact st_nil hf (th_n ⟨ha, rfl⟩)
                                        clear hf; intro a hf
                                        refine dr_take 13 (.bool (gt q157.1 (2 : Int))) rfl (by kernel_rfl) (by kernel_rfl) (by kernel_rfl) (by kernel_rfl) rfl rfl hf (by decide) (wantY hf rfl rfl hb175) (fun w hp => ?_) ⟨_, hp⟩ ?_
                                        · obtain ⟨_, hp⟩ := hp
                                          refine st_ldB hf (by decide) pl4 (wantY hf rfl rfl hb175) rfl (rl171.sl hp) hc177.1 hc177.2 ?_
                                          clear hf; intro a ha hf
                                          exact st_nil hf (th_n ⟨ha, rfl⟩)
                                        clear hf; intro a hf
                                        refine dr_take 14 (.bool ((gt q157.1 (0 : Int)) == (gt q157.1 (2 : Int)))) rfl (by kernel_rfl) (by kernel_rfl) (by kernel_rfl) (by kernel_rfl) rfl rfl hf (by decide) (wantY hf rfl rfl hb175) (fun w hp => ?_) ⟨_, hp⟩ ?_
                                        · obtain ⟨_, hp⟩ := hp
                                          refine st_beql hf (by decide) Try.underlying4 (wantY hf rfl rfl hb175) rfl rfl ?_
                                          clear hf; intro a ha hf
                                          exact st_nil hf (th_n ⟨ha, rfl⟩)
                                        clear hf; intro a hf
                                        refine dr_take 15 (v164) rfl (by kernel_rfl) (by kernel_rfl) (by kernel_rfl) (by kernel_rfl) rfl rfl hf (by decide) (wantY hf rfl rfl hb175) (fun w hp => ?_) ⟨_, hp⟩ ?_
                                        · obtain ⟨_, hp⟩ := hp
                                          refine st_move hf (wantY hf rfl rfl hb175) rfl (by decide) ?_
                                          clear hf; intro a ha hf
                                          exact st_nil hf (th_n ⟨ha, rfl⟩)
                                        clear hf; intro a hf
                                        refine dr_take 16 (eptr v164 (1 : Int) 1) rfl (by kernel_rfl) (by kernel_rfl) (by kernel_rfl) (by kernel_rfl) rfl rfl hf (by decide) (wantY hf rfl rfl hb175) (fun w hp => ?_) ⟨_, hp⟩ ?_
                                        · obtain ⟨_, hp⟩ := hp
                                          refine st_index (E := Ek.bool) hf (by decide) Try.underlying27 elt4 (wantY hf rfl rfl hb175) rfl rfl (rl171.sl hp) hc178.1 hc178.2 ?_
                                          clear hf; intro a ha hf
                                          exact st_nil hf (th_n ⟨ha, rfl⟩)
                                        clear hf; intro a hf
                                        refine dr_take 17 (.bool (gt q157.1 (1 : Int))) rfl (by kernel_rfl) (by kernel_rfl) (by kernel_rfl) (by kernel_rfl) rfl rfl hf (by decide) (wantY hf rfl rfl hb175) (fun w hp => ?_) ⟨_, hp⟩ ?_
                                        · obtain ⟨_, hp⟩ := hp
                                          refine st_ldB hf (by decide) pl4 (wantY hf rfl rfl hb175) rfl (rl171.sl hp) hc178.1 hc178.2 ?_
                                          clear hf; intro a ha hf
                                          exact st_nil hf (th_n ⟨ha, rfl⟩)
                                        clear hf; intro a hf
                                        refine dr_take 18 (v164) rfl (by kernel_rfl) (by kernel_rfl) (by kernel_rfl) (by kernel_rfl) rfl rfl hf (by decide) (wantY hf rfl rfl hb175) (fun w hp => ?_) ⟨_, hp⟩ ?_
                                        · obtain ⟨_, hp⟩ := hp
                                          refine st_move hf (wantY hf rfl rfl hb175) rfl (by decide) ?_
                                          clear hf; intro a ha hf
                                          exact st_nil hf (th_n ⟨ha, rfl⟩)
                                        clear hf; intro a hf
                                        refine dr_take 19 (eptr v164 (3 : Int) 1) rfl (by kernel_rfl) (by kernel_rfl) (by kernel_rfl) (by kernel_rfl) rfl rfl hf (by decide) (wantY hf rfl rfl hb175) (fun w hp => ?_) ⟨_, hp⟩ ?_
                                        · obtain ⟨_, hp⟩ := hp
                                          refine st_index (E := Ek.bool) hf (by decide) Try.underlying27 elt4 (wantY hf rfl rfl hb175) rfl rfl (rl171.sl hp) hc179.1 hc179.2 ?_
                                          clear hf; intro a ha hf
                                          exact st_nil hf (th_n ⟨ha, rfl⟩)
                                        clear hf; intro a hf
                                        refine dr_take 20 (.bool (gt q157.1 (3 : Int))) rfl (by kernel_rfl) (by kernel_rfl) (by kernel_rfl) (by kernel_rfl) rfl rfl hf (by decide) (wantY hf rfl rfl hb175) (fun w hp => ?_) ⟨_, hp⟩ ?_
                                        · obtain ⟨_, hp⟩ := hp
                                          refine st_ldB hf (by decide) pl4 (wantY hf rfl rfl hb175) rfl (rl171.sl hp) hc179.1 hc179.2 ?_
                                          clear hf; intro a ha hf
                                          exact st_nil hf (th_n ⟨ha, rfl⟩)
                                        clear hf; intro a hf
                                        refine dr_take 21 (.bool ((gt q157.1 (1 : Int)) == (gt q157.1 (3 : Int)))) rfl (by kernel_rfl) (by kernel_rfl) (by kernel_rfl) (by kernel_rfl) rfl rfl hf (by decide) (wantY hf rfl rfl hb175) (fun w hp => ?_) ⟨_, hp⟩ ?_
                                        · obtain ⟨_, hp⟩ := hp
                                          refine st_beql hf (by decide) Try.underlying4 (wantY hf rfl rfl hb175) rfl rfl ?_
                                          clear hf; intro a ha hf
                                          exact st_nil hf (th_n ⟨ha, rfl⟩)
                                        clear hf; intro a hf
                                        refine dr_take 22 (.bool (((gt q157.1 (0 : Int)) == (gt q157.1 (2 : Int))) == ((gt q157.1 (1 : Int)) == (gt q157.1 (3 : Int))))) rfl (by kernel_rfl) (by kernel_rfl) (by kernel_rfl) (by kernel_rfl) rfl rfl hf (by decide) (wantY hf rfl rfl hb175) (fun w hp => ?_) ⟨_, hp⟩ ?_
                                        · obtain ⟨_, hp⟩ := hp
                                          refine st_beql hf (by decide) Try.underlying4 (wantY hf rfl rfl hb175) rfl rfl ?_
                                          clear hf; intro a ha hf
                                          exact st_nil hf (th_n ⟨ha, rfl⟩)
                                        clear hf; intro a hf
                                        refine dr_take 23 (.bool z180) rfl (by kernel_rfl) (by kernel_rfl) (by kernel_rfl) (by kernel_rfl) rfl rfl hf (by decide) rfl (fun w hp => ?_) ⟨_, hp⟩ ?_
                                        · obtain ⟨_, hp⟩ := hp
                                          refine st_pick (v := .bool z180) hf rfl rfl (fun hb' => absurd (hb175.symm.trans hb') (by decide)) (fun _ => by rw [← hz174]; rfl) (by decide) ?_
                                          clear hf; intro a ha hf
                                          exact st_nil hf (th_n ⟨ha, rfl⟩)
                                        clear hf; intro a hf
                                        refine dr_end (by kernel_rfl) ?_ _
                                        have hp := bk170 _ _ hp
                                        exact ⟨hf.sub ⟨rfl, rfl, trivial⟩, hp⟩
                                    · skip
                                      rcases Bool.eq_false_or_eq_true ((q157.2 != (0 : Int)) || ((q157.1.length : Int) != (4 : Int))) with hb175 | hb175
                                      · skip
                                        replace hz174 := ifT hz174 hb175
                                        replace hz174 := Option.some.inj hz174
                                        refine dr_begin' (fun a w => Fr 200 a [(21, .int .u8 k21), (198, .bool z180)] ∧ Hp S w0 w (Res.sl Ek.bool 4 v164 q157.1 :: Res.sl (Ek.int .u8) 5 v155 ([k21, (((IntKind.u8.wrap (k21 + (1 : Int)))).tmod (4 : Int))]) :: ow)) (fun w' => ∃ l, Hp S166 w w' l) [] (by kernel_rfl) ?_
                                        refine dr_take 0 (.int .i64 q157.2) rfl (by kernel_rfl) (by kernel_rfl) (by kernel_rfl) (by kernel_rfl) rfl rfl hf (by decide) rfl (fun w hp => ?_) ⟨_, hp⟩ ?_
                                        · obtain ⟨_, hp⟩ := hp
                                          refine st_move hf rfl rfl (by decide) ?_
                                          clear hf; intro a ha hf
                                          exact st_nil hf (th_n ⟨ha, rfl⟩)
                                        clear hf; intro a hf
                                        refine dr_take 1 (.bool (q157.2 != (0 : Int))) rfl (by kernel_rfl) (by kernel_rfl) (by kernel_rfl) (by kernel_rfl) rfl rfl hf (by decide) rfl (fun w hp => ?_) ⟨_, hp⟩ ?_
                                        · obtain ⟨_, hp⟩ := hp
                                          refine st_ineq hf (by decide) rfl rfl rfl ?_
                                          clear hf; intro a ha hf
                                          exact st_nil hf (th_n ⟨ha, rfl⟩)
                                        clear hf; intro a hf
                                        refine dr_take 2 (.bool (q157.2 != (0 : Int))) rfl (by kernel_rfl) (by kernel_rfl) (by kernel_rfl) (by kernel_rfl) rfl rfl hf (by decide) rfl (fun w hp => ?_) ⟨_, hp⟩ ?_
                                        · obtain ⟨_, hp⟩ := hp
                                          refine st_move hf rfl rfl (by decide) ?_
                                          clear hf; intro a ha hf
                                          exact st_nil hf (th_n ⟨ha, rfl⟩)
                                        clear hf; intro a hf
                                        refine dr_take 3 (v164) rfl (by kernel_rfl) (by kernel_rfl) (by kernel_rfl) (by kernel_rfl) rfl rfl hf (by decide) (wantY hf rfl rfl hb173) (fun w hp => ?_) ⟨_, hp⟩ ?_
                                        · obtain ⟨_, hp⟩ := hp
                                          refine st_move hf (wantY hf rfl rfl hb173) rfl (by decide) ?_
                                          clear hf; intro a ha hf
                                          exact st_nil hf (th_n ⟨ha, rfl⟩)
                                        clear hf; intro a hf
                                        refine dr_take 4 (.int .i64 (q157.1.length : Int)) rfl (by kernel_rfl) (by kernel_rfl) (by kernel_rfl) (by kernel_rfl) rfl rfl hf (by decide) (wantY hf rfl rfl hb173) (fun w hp => ?_) ⟨_, hp⟩ ?_
                                        · obtain ⟨_, hp⟩ := hp
                                          refine st_len (E := Ek.bool) hf (by decide) Try.underlying27 (wantY hf rfl rfl hb173) rfl (rl171.sl hp) ?_
                                          clear hf; intro a ha hf
                                          exact st_nil hf (th_n ⟨ha, rfl⟩)
                                        clear hf; intro a hf
                                        refine dr_take 5 (.bool ((q157.1.length : Int) != (4 : Int))) rfl (by kernel_rfl) (by kernel_rfl) (by kernel_rfl) (by kernel_rfl) rfl rfl hf (by decide) (wantY hf rfl rfl hb173) (fun w hp => ?_) ⟨_, hp⟩ ?_
                                        · obtain ⟨_, hp⟩ := hp
                                          refine st_ineq hf (by decide) (wantY hf rfl rfl hb173) rfl rfl ?_
                                          clear hf; intro a ha hf
                                          exact st_nil hf (th_n ⟨ha, rfl⟩)
                                        clear hf; intro a hf
                                        refine dr_take 6 (.bool ((q157.2 != (0 : Int)) || ((q157.1.length : Int) != (4 : Int)))) rfl (by kernel_rfl) (by kernel_rfl) (by kernel_rfl) (by kernel_rfl) rfl rfl hf (by decide) rfl (fun w hp => ?_) ⟨_, hp⟩ ?_
                                        · obtain ⟨_, hp⟩ := hp
                                          refine st_pick (v := .bool ((q157.2 != (0 : Int)) || ((q157.1.length : Int) != (4 : Int)))) hf rfl rfl (fun hb' => absurd (hb173.symm.trans hb') (by decide)) (fun _ => by rw [show ((q157.2 != (0 : Int)) || ((q157.1.length : Int) != (4 : Int))) = ((q157.1.length : Int) != (4 : Int)) from by rw [hb173]; rfl]; rfl) (by decide) ?_
                                          clear hf; intro a ha hf
                                          exact st_nil hf (th_n ⟨ha, rfl⟩)
                                        clear hf; intro a hf
                                        refine dr_take 7 (.bool ((q157.2 != (0 : Int)) || ((q157.1.length : Int) != (4 : Int)))) rfl (by kernel_rfl) (by kernel_rfl) (by kernel_rfl) (by kernel_rfl) rfl rfl hf (by decide) rfl (fun w hp => ?_) ⟨_, hp⟩ ?_
                                        · obtain ⟨_, hp⟩ := hp
                                          refine st_move hf rfl rfl (by decide) ?_
                                          clear hf; intro a ha hf
                                          exact st_nil hf (th_n ⟨ha, rfl⟩)
                                        clear hf; intro a hf
                                        refine dr_out 8 rfl (by kernel_rfl) (by kernel_rfl) (by kernel_rfl) (by kernel_rfl) rfl hf (by decide) rfl (wantN hf rfl rfl hb175) ⟨_, hp⟩ ?_
                                        clear hf; intro a hf
                                        refine dr_out 9 rfl (by kernel_rfl) (by kernel_rfl) (by kernel_rfl) (by kernel_rfl) rfl hf (by decide) rfl (wantN hf rfl rfl hb175) ⟨_, hp⟩ ?_
                                        clear hf; intro a hf
                                        refine dr_out 10 rfl (by kernel_rfl) (by kernel_rfl) (by kernel_rfl) (by kernel_rfl) rfl hf (by decide) rfl (wantN hf rfl rfl hb175) ⟨_, hp⟩ ?_
                                        clear hf; intro a hf
                                        refine dr_out 11 rfl (by kernel_rfl) (by kernel_rfl) (by kernel_rfl) (by kernel_rfl) rfl hf (by decide) rfl (wantN hf rfl rfl hb175) ⟨_, hp⟩ ?_
                                        clear hf; intro a hf
                                        refine dr_out 12 rfl (by kernel_rfl) (by kernel_rfl) (by kernel_rfl) (by kernel_rfl) rfl hf (by decide) rfl (wantN hf rfl rfl hb175) ⟨_, hp⟩ ?_
                                        clear hf; intro a hf
                                        refine dr_out 13 rfl (by kernel_rfl) (by kernel_rfl) (by kernel_rfl) (by kernel_rfl) rfl hf (by decide) rfl (wantN hf rfl rfl hb175) ⟨_, hp⟩ ?_
                                        clear hf; intro a hf
                                        refine dr_out 14 rfl (by kernel_rfl) (by kernel_rfl) (by kernel_rfl) (by kernel_rfl) rfl hf (by decide) rfl (wantN hf rfl rfl hb175) ⟨_, hp⟩ ?_
                                        clear hf; intro a hf
                                        refine dr_out 15 rfl (by kernel_rfl) (by kernel_rfl) (by kernel_rfl) (by kernel_rfl) rfl hf (by decide) rfl (wantN hf rfl rfl hb175) ⟨_, hp⟩ ?_
                                        clear hf; intro a hf
                                        refine dr_out 16 rfl (by kernel_rfl) (by kernel_rfl) (by kernel_rfl) (by kernel_rfl) rfl hf (by decide) rfl (wantN hf rfl rfl hb175) ⟨_, hp⟩ ?_
                                        clear hf; intro a hf
                                        refine dr_out 17 rfl (by kernel_rfl) (by kernel_rfl) (by kernel_rfl) (by kernel_rfl) rfl hf (by decide) rfl (wantN hf rfl rfl hb175) ⟨_, hp⟩ ?_
                                        clear hf; intro a hf
                                        refine dr_out 18 rfl (by kernel_rfl) (by kernel_rfl) (by kernel_rfl) (by kernel_rfl) rfl hf (by decide) rfl (wantN hf rfl rfl hb175) ⟨_, hp⟩ ?_
                                        clear hf; intro a hf
                                        refine dr_out 19 rfl (by kernel_rfl) (by kernel_rfl) (by kernel_rfl) (by kernel_rfl) rfl hf (by decide) rfl (wantN hf rfl rfl hb175) ⟨_, hp⟩ ?_
                                        clear hf; intro a hf
                                        refine dr_out 20 rfl (by kernel_rfl) (by kernel_rfl) (by kernel_rfl) (by kernel_rfl) rfl hf (by decide) rfl (wantN hf rfl rfl hb175) ⟨_, hp⟩ ?_
                                        clear hf; intro a hf
                                        refine dr_out 21 rfl (by kernel_rfl) (by kernel_rfl) (by kernel_rfl) (by kernel_rfl) rfl hf (by decide) rfl (wantN hf rfl rfl hb175) ⟨_, hp⟩ ?_
                                        clear hf; intro a hf
                                        refine dr_out 22 rfl (by kernel_rfl) (by kernel_rfl) (by kernel_rfl) (by kernel_rfl) rfl hf (by decide) rfl (wantN hf rfl rfl hb175) ⟨_, hp⟩ ?_
                                        clear hf; intro a hf
                                        refine dr_take 23 (.bool z180) rfl (by kernel_rfl) (by kernel_rfl) (by kernel_rfl) (by kernel_rfl) rfl rfl hf (by decide) rfl (fun w hp => ?_) ⟨_, hp⟩ ?_
                                        · obtain ⟨_, hp⟩ := hp
                                          refine st_pick (v := .bool z180) hf rfl rfl (fun _ => by rw [← hz174]; rfl) (fun hb' => absurd (hb175.symm.trans hb') (by decide)) (by decide) ?_
                                          clear hf; intro a ha hf
                                          exact st_nil hf (th_n ⟨ha, rfl⟩)
                                        clear hf; intro a hf
                                        refine dr_end (by kernel_rfl) ?_ _
                                        have hp := bk170 _ _ hp
                                        exact ⟨hf.sub ⟨rfl, rfl, trivial⟩, hp⟩
                                      · skip
                                        replace hz174 := ifF hz174 hb175
                                        obtain ⟨hc176, hz174⟩ := chk hz174
                                        obtain ⟨hc177, hz174⟩ := chk hz174
                                        obtain ⟨hc178, hz174⟩ := chk hz174
                                        obtain ⟨hc179, hz174⟩ := chk hz174
                                        replace hz174 := Option.some.inj hz174
                                        refine dr_begin' (fun a w => Fr 200 a [(21, .int .u8 k21), (198, .bool z180)] ∧ Hp S w0 w (Res.sl Ek.bool 4 v164 q157.1 :: Res.sl (Ek.int .u8) 5 v155 ([k21, (((IntKind.u8.wrap (k21 + (1 : Int)))).tmod (4 : Int))]) :: ow)) (fun w' => ∃ l, Hp S166 w w' l) [] (by kernel_rfl) ?_
                                        refine dr_take 0 (.int .i64 q157.2) rfl (by kernel_rfl) (by kernel_rfl) (by kernel_rfl) (by kernel_rfl) rfl rfl hf (by decide) rfl (fun w hp => ?_) ⟨_, hp⟩ ?_
                                        · obtain ⟨_, hp⟩ := hp
                                          refine st_move hf rfl rfl (by decide) ?_
                                          clear hf; intro a ha hf
                                          exact st_nil hf (th_n ⟨ha, rfl⟩)
                                        clear hf; intro a hf
                                        refine dr_take 1 (.bool (q157.2 != (0 : Int))) rfl (by kernel_rfl) (by kernel_rfl) (by kernel_rfl) (by kernel_rfl) rfl rfl hf (by decide) rfl (fun w hp => ?_) ⟨_, hp⟩ ?_
                                        · obtain ⟨_, hp⟩ := hp
                                          refine st_ineq hf (by decide) rfl rfl rfl ?_
                                          clear hf; intro a ha hf
                                          exact st_nil hf (th_n ⟨ha, rfl⟩)
                                        clear hf; intro a hf
                                        refine dr_take 2 (.bool (q157.2 != (0 : Int))) rfl (by kernel_rfl) (by kernel_rfl) (by kernel_rfl) (by kernel_rfl) rfl rfl hf (by decide) rfl (fun w hp => ?_) ⟨_, hp⟩ ?_
                                        · obtain ⟨_, hp⟩ := hp
                                          refine st_move hf rfl rfl (by decide) ?_
                                          clear hf; intro a ha hf
                                          exact st_nil hf (th_n ⟨ha, rfl⟩)
                                        clear hf; intro a hf
                                        refine dr_take 3 (v164) rfl (by kernel_rfl) (by kernel_rfl) (by kernel_rfl) (by kernel_rfl) rfl rfl hf (by decide) (wantY hf rfl rfl hb173) (fun w hp => ?_) ⟨_, hp⟩ ?_
                                        · obtain ⟨_, hp⟩ := hp
                                          refine st_move hf (wantY hf rfl rfl hb173) rfl (by decide) ?_
                                          clear hf; intro a ha hf
                                          exact st_nil hf (th_n ⟨ha, rfl⟩)
                                        clear hf; intro a hf
                                        refine dr_take 4 (.int .i64 (q157.1.length : Int)) rfl (by kernel_rfl) (by kernel_rfl) (by kernel_rfl) (by kernel_rfl) rfl rfl hf (by decide) (wantY hf rfl rfl hb173) (fun w hp => ?_) ⟨_, hp⟩ ?_
                                        · obtain ⟨_, hp⟩ := hp
                                          refine st_len (E := Ek.bool) hf (by decide) Try.underlying27 (wantY hf rfl rfl hb173) rfl (rl171.sl hp) ?_
                                          clear hf; intro a ha hf
                                          exact st_nil hf (th_n ⟨ha, rfl⟩)
                                        clear hf; intro a hf
                                        refine dr_take 5 (.bool ((q157.1.length : Int) != (4 : Int))) rfl (by kernel_rfl) (by kernel_rfl) (by kernel_rfl) (by kernel_rfl) rfl rfl hf (by decide) (wantY hf rfl rfl hb173) (fun w hp => ?_) ⟨_, hp⟩ ?_
                                        · obtain ⟨_, hp⟩ := hp
                                          refine st_ineq hf (by decide) (wantY hf rfl rfl hb173) rfl rfl ?_
                                          clear hf; intro a ha hf
                                          exact st_nil hf (th_n ⟨ha, rfl⟩)
                                        clear hf; intro a hf
                                        refine dr_take 6 (.bool ((q157.2 != (0 : Int)) || ((q157.1.length : Int) != (4 : Int)))) rfl (by kernel_rfl) (by kernel_rfl) (by kernel_rfl) (by kernel_rfl) rfl rfl hf (by decide) rfl (fun w hp => ?_) ⟨_, hp⟩ ?_
                                        · obtain ⟨_, hp⟩ := hp
                                          refine st_pick (v := .bool ((q157.2 != (0 : Int)) || ((q157.1.length : Int) != (4 : Int)))) hf rfl rfl (fun hb' => absurd (hb173.symm.trans hb') (by decide)) (fun _ => by rw [show ((q157.2 != (0 : Int)) || ((q157.1.length : Int) != (4 : Int))) = ((q157.1.length : Int) != (4 : Int)) from by rw [hb173]; rfl]; rfl) (by decide) ?_
                                          clear hf; intro a ha hf
                                          exact st_nil hf (th_n ⟨ha, rfl⟩)
                                        clear hf; intro a hf
                                        refine dr_take 7 (.bool ((q157.2 != (0 : Int)) || ((q157.1.length : Int) != (4 : Int)))) rfl (by kernel_rfl) (by kernel_rfl) (by kernel_rfl) (by kernel_rfl) rfl rfl hf (by decide) rfl (fun w hp => ?_) ⟨_, hp⟩ ?_
                                        · obtain ⟨_, hp⟩ := hp
                                          refine st_move hf rfl rfl (by decide) ?_
                                          clear hf; intro a ha hf
                                          exact st_nil hf (th_n ⟨ha, rfl⟩)
                                        clear hf; intro a hf
                                        refine dr_take 8 (v164) rfl (by kernel_rfl) (by kernel_rfl) (by kernel_rfl) (by kernel_rfl) rfl rfl hf (by decide) (wantY hf rfl rfl hb175) (fun w hp => ?_) ⟨_, hp⟩ ?_
                                        · obtain ⟨_, hp⟩ := hp
                                          refine st_move hf (wantY hf rfl rfl hb175) rfl (by decide) ?_
                                          clear hf; intro a ha hf
                                          exact st_nil hf (th_n ⟨ha, rfl⟩)
                                        clear hf; intro a hf
                                        refine dr_take 9 (eptr v164 (0 : Int) 1) rfl (by kernel_rfl) (by kernel_rfl) (by kernel_rfl) (by kernel_rfl) rfl rfl hf (by decide) (wantY hf rfl rfl hb175) (fun w hp => ?_) ⟨_, hp⟩ ?_
                                        · obtain ⟨_, hp⟩ := hp
                                          refine st_index (E := Ek.bool) hf (by decide) Try.underlying27 elt4 (wantY hf rfl rfl hb175) rfl rfl (rl171.sl hp) hc176.1 hc176.2 ?_
                                          clear hf; intro a ha hf
                                          exact st_nil hf (th_n ⟨ha, rfl⟩)
                                        clear hf; intro a hf
                                        refine dr_take 10 (.bool (gt q157.1 (0 : Int))) rfl (by kernel_rfl) (by kernel_rfl) (by kernel_rfl) (by kernel_rfl) rfl rfl hf (by decide) (wantY hf rfl rfl hb175) (fun w hp => ?_) ⟨_, hp⟩ ?_
                                        · obtain ⟨_, hp⟩ := hp
                                          refine st_ldB hf (by decide) pl4 (wantY hf rfl rfl hb175) rfl (rl171.sl hp) hc176.1 hc176.2 ?_
                                          clear hf; intro a ha hf
                                          exact st_nil hf (th_n ⟨ha, rfl⟩)
                                        clear hf; intro a hf
                                        refine dr_take 11 (v164) rfl (by kernel_rfl) (by kernel_rfl) (by kernel_rfl) (by kernel_rfl) rfl rfl hf (by decide) (wantY hf rfl rfl hb175) (fun w hp => ?_) ⟨_, hp⟩ ?_
                                        · obtain ⟨_, hp⟩ := hp
                                          refine st_move hf (wantY hf rfl rfl hb175) rfl (by decide) ?_
                                          clear hf; intro a ha hf
                                          exact st_nil hf (th_n ⟨ha, rfl⟩)
                                        clear hf; intro a hf
                                        refine dr_take 12 (eptr v164 (2 : Int) 1) rfl (by kernel_rfl) (by kernel_rfl) (by kernel_rfl) (by kernel_rfl) rfl rfl hf (by decide) (wantY hf rfl rfl hb175) (fun w hp => ?_) ⟨_, hp⟩ ?_
                                        · obtain ⟨_, hp⟩ := hp
                                          refine st_index (E := Ek.bool) hf (by decide) Try.underlying27 elt4 (wantY hf rfl rfl hb175) rfl rfl (rl171.sl hp) hc177.1 hc177.2 ?_
                                          clear hf; intro a ha hf
                                          exact st_nil hf (th_n ⟨ha, rfl⟩)
                                        clear hf; intro a hf
                                        refine dr_take 13 (.bool (gt q157.1 (2 : Int))) rfl (by kernel_rfl) (by kernel_rfl) (by kernel_rfl) (by kernel_rfl) rfl rfl hf (by decide) (wantY hf rfl rfl hb175) (fun w hp => ?_) ⟨_, hp⟩ ?_
                                        · obtain ⟨_, hp⟩ := hp
                                          refine st_ldB hf (by decide) pl4 (wantY hf rfl rfl hb175) rfl (rl171.sl hp) hc177.1 hc177.2 ?_
                                          clear hf; intro a ha hf
                                          exact st_nil hf (th_n ⟨ha, rfl⟩)
                                        clear hf; intro a hf
                                        refine dr_take 14 (.bool ((gt q157.1 (0 : Int)) == (gt q157.1 (2 : Int)))) rfl (by kernel_rfl) (by kernel_rfl) (by kernel_rfl) (by kernel_rfl) rfl rfl hf (by decide) (wantY hf rfl rfl hb175) (fun w hp => ?_) ⟨_, hp⟩ ?_
                                        · obtain ⟨_, hp⟩ := hp
                                          refine st_beql hf (by decide) Try.underlying4 (wantY hf rfl rfl hb175) rfl rfl ?_
                                          clear hf; intro a ha hf
                                          exact st_nil hf (th_n ⟨ha, rfl⟩)
                                        clear hf; intro a hf
                                        refine dr_take 15 (v164) rfl (by kernel_rfl) (by kernel_rfl) (by kernel_rfl) (by kernel_rfl) rfl rfl hf (by decide) (wantY hf rfl rfl hb175) (fun w hp => ?_) ⟨_, hp⟩ ?_
                                        · obtain ⟨_, hp⟩ := hp
                                          refine st_move hf (wantY hf rfl rfl hb175) rfl (by decide) ?_
                                          clear hf; intro a ha hf
                                          exact st_nil hf (th_n ⟨ha, rfl⟩)
                                        clear hf; intro a hf
                                        refine dr_take 16 (eptr v164 (1 : Int) 1) rfl (by kernel_rfl) (by kernel_rfl) (by kernel_rfl) (by kernel_rfl) rfl rfl hf (by decide) (wantY hf rfl rfl hb175) (fun w hp => ?_) ⟨_, hp⟩ ?_
                                        · obtain ⟨_, hp⟩ := hp
                                          refine st_index (E := Ek.bool) hf (by decide) Try.underlying27 elt4 (wantY hf rfl rfl hb175) rfl rfl (rl171.sl hp) hc178.1 hc178.2 ?_
                                          clear hf; intro a ha hf
                                          exact st_nil hf (th_n ⟨ha, rfl⟩)
                                        clear hf; intro a hf
                                        refine dr_take 17 (.bool (gt q157.1 (1 : Int))) rfl (by kernel_rfl) (by kernel_rfl) (by kernel_rfl) (by kernel_rfl) rfl rfl hf (by decide) (wantY hf rfl rfl hb175) (fun w hp => ?_) ⟨_, hp⟩ ?_
                                        · obtain ⟨_, hp⟩ := hp
                                          refine st_ldB hf (by decide) pl4 (wantY hf rfl rfl hb175) rfl (rl171.sl hp) hc178.1 hc178.2 ?_
                                          clear hf; intro a ha hf
                                          exact st_nil hf (th_n ⟨ha, rfl⟩)
                                        clear hf; intro a hf
                                        refine dr_take 18 (v164) rfl (by kernel_rfl) (by kernel_rfl) (by kernel_rfl) (by kernel_rfl) rfl rfl hf (by decide) (wantY hf rfl rfl hb175) (fun w hp => ?_) ⟨_, hp⟩ ?_
                                        · obtain ⟨_, hp⟩ := hp
                                          refine st_move hf (wantY hf rfl rfl hb175) rfl (by decide) ?_
                                          clear hf; intro a ha hf
                                          exact st_nil hf (th_n ⟨ha, rfl⟩)
                                        clear hf; intro a hf
                                        refine dr_take 19 (eptr v164 (3 : Int) 1) rfl (by kernel_rfl) (by kernel_rfl) (by kernel_rfl) (by kernel_rfl) rfl rfl hf (by decide) (wantY hf rfl rfl hb175) (fun w hp => ?_) ⟨_, hp⟩ ?_
                                        · obtain ⟨_, hp⟩ := hp
                                          refine st_index (E := Ek.bool) hf (by decide) Try.underlying27 elt4 (wantY hf rfl rfl hb175) rfl rfl (rl171.sl hp) hc179.1 hc179.2 ?_
                                          clear hf; intro a ha hf
                                          exact st_nil hf (th_n ⟨ha, rfl⟩)
                                        clear hf; intro a hf
                                        refine dr_take 20 (.bool (gt q157.1 (3 : Int))) rfl (by kernel_rfl) (by kernel_rfl) (by kernel_rfl) (by kernel_rfl) rfl rfl hf (by decide) (wantY hf rfl rfl hb175) (fun w hp => ?_) ⟨_, hp⟩ ?_
                                        · obtain ⟨_, hp⟩ := hp
                                          refine st_ldB hf (by decide) pl4 (wantY hf rfl rfl hb175) rfl (rl171.sl hp) hc179.1 hc179.2 ?_
                                          clear hf; intro a ha hf
                                          exact st_nil hf (th_n ⟨ha, rfl⟩)
                                        clear hf; intro a hf
                                        refine dr_take 21 (.bool ((gt q157.1 (1 : Int)) == (gt q157.1 (3 : Int)))) rfl (by kernel_rfl) (by kernel_rfl) (by kernel_rfl) (by kernel_rfl) rfl rfl hf (by decide) (wantY hf rfl rfl hb175) (fun w hp => ?_) ⟨_, hp⟩ ?_
                                        · obtain ⟨_, hp⟩ := hp
                                          refine st_beql hf (by decide) Try.underlying4 (wantY hf rfl rfl hb175) rfl rfl ?_
                                          clear hf; intro a ha hf
                                          exact st_nil hf (th_n ⟨ha, rfl⟩)
                                        clear hf; intro a hf
                                        refine dr_take 22 (.bool (((gt q157.1 (0 : Int)) == (gt q157.1 (2 : Int))) == ((gt q157.1 (1 : Int)) == (gt q157.1 (3 : Int))))) rfl (by kernel_rfl) (by kernel_rfl) (by kernel_rfl) (by kernel_rfl) rfl rfl hf (by decide) (wantY hf rfl rfl hb175) (fun w hp => ?_) ⟨_, hp⟩ ?_
                                        · obtain ⟨_, hp⟩ := hp
                                          refine st_beql hf (by decide) Try.underlying4 (wantY hf rfl rfl hb175) rfl rfl ?_
                                          clear hf; intro a ha hf
                                          exact st_nil hf (th_n ⟨ha, rfl⟩)
                                        clear hf; intro a hf
                                        refine dr_take 23 (.bool z180) rfl (by kernel_rfl) (by kernel_rfl) (by kernel_rfl) (by kernel_rfl) rfl rfl hf (by decide) rfl (fun w hp => ?_) ⟨_, hp⟩ ?_
                                        · obtain ⟨_, hp⟩ := hp
                                          refine st_pick (v := .bool z180) hf rfl rfl (fun hb' => absurd (hb175.symm.trans hb') (by decide)) (fun _ => by rw [← hz174]; rfl) (by decide) ?_
                                          clear hf; intro a ha hf
                                          exact st_nil hf (th_n ⟨ha, rfl⟩)
                                        clear hf; intro a hf
                                        refine dr_end (by kernel_rfl) ?_ _
                                        have hp := bk170 _ _ hp
                                        exact ⟨hf.sub ⟨rfl, rfl, trivial⟩, hp⟩
                                  · rintro a w ⟨hf, hp⟩
                                    refine th_n ?_
                                    refine wp_if hf rfl (fun hb => ?_) (fun hb => ?_)
                                    · replace h := ifT h hb
                                      refine wp_seq ?_
                                      refine wp_reg ?_
                                      refine st_assign hf rfl rfl (by decide) ?_
                                      clear hf; intro a ha hf; clear ha
                                      refine st_nil hf ?_
                                      refine th_n ?_
                                      refine wp_ret ?_
                                      refine ib_r ?_
                                      refine th_r ?_
                                      obtain rfl := Option.some.inj h
                                      have hp : Hp _ _ w (ow) := Hp.sel (pre := [Res.sl Ek.bool 4 v164 q157.1, Res.sl (Ek.int .u8) 5 v155 ([k21, (((IntKind.u8.wrap (k21 + (1 : Int)))).tmod (4 : Int))])]) (tail := ow) (rs' := []) hp [] (by decide) (by simp) rfl
                                      exact rnd_r (by simp) ⟨rfl, ⟨hf.sub ⟨rfl, trivial⟩, hp⟩⟩
                                    · replace h := ifF h hb
                                      refine wp_skip ?_
                                      refine ib_n ?_
                                      refine th_n ?_
                                      refine wp_reg ?_
                                      refine st_move hf rfl rfl (by decide) ?_
                                      clear hf; intro a ha hf; clear ha
                                      refine st_iadd hf (by decide) rfl rfl rfl ?_
                                      clear hf; intro a ha hf; clear ha
                                      refine st_assign hf rfl rfl (by decide) ?_
                                      clear hf; intro a ha hf; clear ha
                                      refine st_nil hf ?_
                                      obtain rfl := Option.some.inj h
                                      have hp : Hp _ _ w (ow) := Hp.sel (pre := [Res.sl Ek.bool 4 v164 q157.1, Res.sl (Ek.int .u8) 5 v155 ([k21, (((IntKind.u8.wrap (k21 + (1 : Int)))).tmod (4 : Int))])]) (tail := ow) (rs' := []) hp [] (by decide) (by simp) rfl
                                      exact rnd_l ⟨hf.sub ⟨rfl, trivial⟩, hp⟩
                                · replace h := ifF h hb
                                  refine wp_exit ?_
                                  refine th_e ?_
                                  obtain rfl := Option.some.inj h
                                  exact rnd_r (by simp) ⟨rfl, hf.sub trivial, hp⟩
                              · clear hl hf hp
                                intro e a w hne hO
                                cases q181 with
                                | inl q182 =>
                                  replace h := smL h
                                  obtain ⟨rfl, hf, hp⟩ := hO
                                  refine ib_same ?_
                                  refine th_n ?_
                                  refine wp_seq ?_
                                  refine wp_reg ?_
                                  obtain ⟨q184, hcall185, h⟩ := bnd h
                                  refine st_call hf (by decide) Try.func14 rfl rfl rfl rfl rfl (f_foghornlaw06_awake_c hp  hcall185) ?_
                                  rintro _ w ⟨rfl, hp0⟩
                                  clear hp; have hp := hp0; clear hp0
                                  replace hp : Hp _ _ w (ow) := hp
                                  refine ⟨_, rfl, ?_⟩
                                  clear hf; intro a hf
                                  refine st_assign hf rfl rfl (by decide) ?_
                                  clear hf; intro a ha hf; clear ha
                                  refine st_nil hf ?_
                                  refine th_n ?_
                                  refine wp_ret ?_
                                  obtain rfl := Option.some.inj h
                                  exact ⟨rfl, ⟨hf.sub ⟨rfl, trivial⟩, hp⟩⟩
                                | inr q183 =>
                                  replace h := smR h
                                  obtain ⟨rfl, hf, hp⟩ := hO
                                  refine ib_r ?_
                                  refine th_r ?_
                                  obtain rfl := Option.some.inj h
                                  exact ⟨rfl, ⟨hf.sub ⟨rfl, trivial⟩, hp⟩⟩
                            | inr q154 =>
                              replace h := smR h
                              obtain ⟨rfl, hf, hp⟩ := hO
                              refine ib_r ?_
                              refine th_r ?_
                              obtain rfl := Option.some.inj h
                              exact ⟨rfl, ⟨hf.sub ⟨rfl, trivial⟩, hp⟩⟩

end Go.Proofs.Ytienojgmpjpcjaa
