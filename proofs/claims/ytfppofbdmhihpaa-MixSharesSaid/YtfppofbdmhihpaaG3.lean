/- The functions foghorn foghornlaw08.MixShares: what each answers, as a plain function, and that its call answers it; printed by gen.py. -/
import Derived.Test.YtfppofbdmhihpaaProg
import Derived.Test.YtfppofbdmhihpaaGlP
import Derived.KernelRfl
import Derived.Test.YtfppofbdmhihpaaG3p1
set_option linter.unusedVariables false
set_option maxRecDepth 100000
set_option maxHeartbeats 4000000
namespace Go.Proofs.Ytfppofbdmhihpaa
open GL
noncomputable def f_foghornlaw08_MixShares.s1c (rows3 : (List (List Int))) (in16 : (List ((List (Fl × Fl)) × (List (Fl × Fl))))) (i17 : Int) : Option (((List ((List (Fl × Fl)) × (List (Fl × Fl)))) × Int) ⊕ (List ((List (Fl × Fl)) × (List (Fl × Fl))))) := (if (decide (i17 < (rows3.length : Int))) = true then (if 0 ≤ i17 ∧ i17 < (rows3.length : Int) then ((f_foghornlaw08_numbers (gt rows3 i17)).bind fun q65 => (if (in16.length + 1) * 24 ≤ 140737488355328 then (some (Sum.inl ((in16 ++ [(q65.1, q65.2)]), (IntKind.i64.wrap (i17 + (1 : Int)))))) else none)) else none) else (some (Sum.inr in16)))
noncomputable def f_foghornlaw08_MixShares.s1 (rows3 : (List (List Int))) (s : ((List ((List (Fl × Fl)) × (List (Fl × Fl)))) × Int)) : Option (((List ((List (Fl × Fl)) × (List (Fl × Fl)))) × Int) ⊕ (List ((List (Fl × Fl)) × (List (Fl × Fl))))) := f_foghornlaw08_MixShares.s1c rows3 s.1 s.2
noncomputable def f_foghornlaw08_MixShares.s2c (rows3 : (List (List Int))) (q73 : (List ((List (Fl × Fl)) × (List (Fl × Fl))))) (i24 : Int) : Option (Int ⊕ (Unit ⊕ Bool)) := (if (decide (i24 < (rows3.length : Int))) = true then (if 0 ≤ i24 ∧ i24 < (q73.length : Int) then (if 0 ≤ i24 ∧ i24 < (rows3.length : Int) then ((f_foghornlaw08_kept ((gt q73 i24).1) ((gt q73 i24).2) (gt rows3 i24)).bind fun q127 => (if (!q127) = true then (some (Sum.inr (Sum.inr false))) else (some (Sum.inl (IntKind.i64.wrap (i24 + (1 : Int))))))) else none) else none) else (some (Sum.inr (Sum.inl ()))))
noncomputable def f_foghornlaw08_MixShares.s2 (rows3 : (List (List Int))) (q73 : (List ((List (Fl × Fl)) × (List (Fl × Fl))))) (s : Int) : Option (Int ⊕ (Unit ⊕ Bool)) := f_foghornlaw08_MixShares.s2c rows3 q73 s
noncomputable def f_foghornlaw08_MixShares (l0 : (List Int)) (from1 : Int) (step2 : Int) (rows3 : (List (List Int))) : Option Bool := ((f_foghornlaw08_numbers l0).bind fun q1 => ((f_foghornref08_Share q1.1 from1 step2).bind fun q5 => ((f_mix_Share q1.1 from1 step2).bind fun q14 => ((f_mix_Share q1.1 from1 step2).bind fun q23 => ((if (q14.2 != q5.2) = true then (some true) else ((f_foghornlaw08_fresh q14.1 q23.1 q5.1).bind fun q35 => (some (!q35)))).bind fun z34 => ((if z34 = true then (some true) else ((f_foghornlaw08_kept q1.1 q1.2 l0).bind fun q51 => (some (!q51)))).bind fun z50 => (if z50 = true then (some false) else ((loop (f_foghornlaw08_MixShares.s1 rows3) ([], (0 : Int))).bind (fun q73 => ((f_foghornref08_Merge (q73.map Prod.fst)).bind fun q75 => ((f_mix_Merge (q73.map Prod.fst)).bind fun q84 => ((f_mix_Merge (q73.map Prod.fst)).bind fun q93 => ((if (q84.2 != q75.2) = true then (some true) else ((f_foghornlaw08_fresh q84.1 q93.1 q75.1).bind fun q105 => (some (!q105)))).bind fun z104 => (if z104 = true then (some false) else ((loop (f_foghornlaw08_MixShares.s2 rows3 q73) (0 : Int)).bind (fun q129 => sm q129 (fun q130 => (some true)) (fun q131 => (some q131))))))))))))))))))
theorem f_foghornlaw08_MixShares_c {S : Nat → Prop} {w0 w : World} {ow : List Res} (hp : Hp S w0 w ow) (vl0 : Value) (l0 : (List Int)) (hl0 : RdS (Ek.int .u64) S w0 vl0 l0) (from1 : Int) (step2 : Int) (vrows3 : Value) (srows3 : List Value) (rows3 : (List (List Int))) (hrows3 : RdR (RowK.sl (Ek.int .u64) 42) S w0 vrows3 srows3 (rows3.map some)) {r : Bool} (h : f_foghornlaw08_MixShares l0 from1 step2 rows3 = some r) :
    Calls Try.prog 3 #[vl0, .int .i64 from1, .int .i64 step2, vrows3] w (fun e w' => e = .returned (.bool r) ∧ Hp S w0 w' (ow)) := by
  unfold f_foghornlaw08_MixShares at h
  refine enter (n := 119) (args := [vl0, .int .i64 from1, .int .i64 step2, vrows3]) Try.func3 rfl rfl (Nat.le_of_ble_eq_true rfl) fun a hf => ?_
  replace hf : Fr 119 a [(0, vl0), (1, .int .i64 from1), (2, .int .i64 step2), (3, vrows3)] := hf
  refine wp_mono (Q := fun e a w => e = .ret ∧ Fr 119 a [(8, .bool r)] ∧ Hp S w0 w (ow)) ?_ ?_
  rotate_left
  · rintro e a w ⟨rfl, hf, hp⟩
    exact ret1 hf rfl rfl ⟨rfl, hp⟩
  refine wp_seq ?_
  refine wp_reg ?_
  refine st_assign hf rfl rfl (by decide) ?_
  clear hf; intro a ha hf; clear ha
  refine st_nil hf ?_
  refine th_n ?_
  refine wp_seq ?_
  refine wp_reg ?_
  refine st_move hf rfl rfl (by decide) ?_
  clear hf; intro a ha hf; clear ha
  obtain ⟨q1, hcall2, h⟩ := bnd h
  refine st_call hf (by decide) Try.func9 rfl rfl rfl rfl rfl (f_foghornlaw08_numbers_c hp _ _ hl0 hcall2) ?_
  rintro _ w ⟨v3, rfl, hp0⟩
  clear hp; have hp := hp0; clear hp0
  replace hp : Hp _ _ w (Res.slx Ek.c128 36 v3 q1.1 q1.2 :: ow) := hp
  refine ⟨_, rfl, ?_⟩
  clear hf; intro a hf
  refine st_assign hf rfl rfl (by decide) ?_
  clear hf; intro a ha hf; clear ha
  refine st_nil hf ?_
  refine th_n ?_
  refine wp_seq ?_
  refine wp_reg ?_
  refine st_move hf rfl rfl (by decide) ?_
  clear hf; intro a ha hf; clear ha
  refine st_move hf rfl rfl (by decide) ?_
  clear hf; intro a ha hf; clear ha
  refine st_move hf rfl rfl (by decide) ?_
  clear hf; intro a ha hf; clear ha
  obtain ⟨q5, hcall6, h⟩ := bnd h
  obtain ⟨S7, hp8, rd9, up10, bk11⟩ := Hp.lendS hp (i := 0) rfl
  refine st_call hf (by decide) Try.func10 rfl rfl rfl rfl rfl (f_foghornref08_Share_c hp8 _ _ rd9 _ _ hcall6) ?_
  rintro _ w ⟨v12, rfl, hp0⟩
  have hp0 := bk11 _ _ hp0
  clear hp; have hp := hp0; clear hp0
  replace hp : Hp _ _ w (Res.slx Ek.c128 36 v3 q1.1 q1.2 :: Res.sl Ek.c128 36 v12 q5.1 :: ow) := hp
  refine ⟨_, rfl, ?_⟩
  clear hf; intro a hf
  refine st_move hf rfl rfl (by decide) ?_
  clear hf; intro a ha hf; clear ha
  refine st_extract hf (by decide) rfl rfl rfl ?_
  clear hf; intro a ha hf; clear ha
  refine st_extract hf (by decide) rfl rfl rfl ?_
  clear hf; intro a ha hf; clear ha
  refine st_assign hf rfl rfl (by decide) ?_
  clear hf; intro a ha hf; clear ha
  refine st_assign hf rfl rfl (by decide) ?_
  clear hf; intro a ha hf; clear ha
  refine st_nil hf ?_
  refine th_n ?_
  refine wp_seq ?_
  refine wp_reg ?_
  refine st_move hf rfl rfl (by decide) ?_
  clear hf; intro a ha hf; clear ha
  refine st_move hf rfl rfl (by decide) ?_
  clear hf; intro a ha hf; clear ha
  refine st_move hf rfl rfl (by decide) ?_
  clear hf; intro a ha hf; clear ha
  obtain ⟨q14, hcall15, h⟩ := bnd h
  obtain ⟨S16, hp17, rd18, up19, bk20⟩ := Hp.lendS hp (i := 0) rfl
  refine st_call hf (by decide) Try.func11 rfl rfl rfl rfl rfl (f_mix_Share_c hp17 _ _ rd18 _ _ hcall15) ?_
  rintro _ w ⟨v21, rfl, hp0⟩
  have hp0 := bk20 _ _ hp0
  clear hp; have hp := hp0; clear hp0
  replace hp : Hp _ _ w (Res.slx Ek.c128 36 v3 q1.1 q1.2 :: Res.sl Ek.c128 36 v21 q14.1 :: Res.sl Ek.c128 36 v12 q5.1 :: ow) := hp
  refine ⟨_, rfl, ?_⟩
  clear hf; intro a hf
  refine st_move hf rfl rfl (by decide) ?_
  clear hf; intro a ha hf; clear ha
  refine st_extract hf (by decide) rfl rfl rfl ?_
  clear hf; intro a ha hf; clear ha
  refine st_extract hf (by decide) rfl rfl rfl ?_
  clear hf; intro a ha hf; clear ha
  refine st_assign hf rfl rfl (by decide) ?_
  clear hf; intro a ha hf; clear ha
  refine st_assign hf rfl rfl (by decide) ?_
  clear hf; intro a ha hf; clear ha
  refine st_nil hf ?_
  refine th_n ?_
  refine wp_seq ?_
  refine wp_reg ?_
  refine st_move hf rfl rfl (by decide) ?_
  clear hf; intro a ha hf; clear ha
  refine st_move hf rfl rfl (by decide) ?_
  clear hf; intro a ha hf; clear ha
  refine st_move hf rfl rfl (by decide) ?_
  clear hf; intro a ha hf; clear ha
  obtain ⟨q23, hcall24, h⟩ := bnd h
  obtain ⟨S25, hp26, rd27, up28, bk29⟩ := Hp.lendS hp (i := 0) rfl
  refine st_call hf (by decide) Try.func11 rfl rfl rfl rfl rfl (f_mix_Share_c hp26 _ _ rd27 _ _ hcall24) ?_
  rintro _ w ⟨v30, rfl, hp0⟩
  have hp0 := bk29 _ _ hp0
  clear hp; have hp := hp0; clear hp0
  replace hp : Hp _ _ w (Res.slx Ek.c128 36 v3 q1.1 q1.2 :: Res.sl Ek.c128 36 v30 q23.1 :: Res.sl Ek.c128 36 v21 q14.1 :: Res.sl Ek.c128 36 v12 q5.1 :: ow) := hp
  refine ⟨_, rfl, ?_⟩
  clear hf; intro a hf
  refine st_move hf rfl rfl (by decide) ?_
  clear hf; intro a ha hf; clear ha
  refine st_extract hf (by decide) rfl rfl rfl ?_
  clear hf; intro a ha hf; clear ha
  refine st_extract hf (by decide) rfl rfl rfl ?_
  clear hf; intro a ha hf; clear ha
  refine st_assign hf rfl rfl (by decide) ?_
  clear hf; intro a ha hf; clear ha
  refine st_assign hf rfl rfl (by decide) ?_
  clear hf; intro a ha hf; clear ha
  refine st_nil hf ?_
  refine th_n ?_
  refine wp_seq ?_
  refine wp_seq ?_
  refine wp_reg ?_
  refine st_move hf rfl rfl (by decide) ?_
  clear hf; intro a ha hf; clear ha
  refine st_move hf rfl rfl (by decide) ?_
  clear hf; intro a ha hf; clear ha
  refine st_ineq hf (by decide) rfl rfl rfl ?_
  clear hf; intro a ha hf; clear ha
  refine st_move hf rfl rfl (by decide) ?_
  clear hf; intro a ha hf; clear ha
  obtain ⟨z34, hz32, h⟩ := bnd h
  refine wpList_cut 6 (fun a w => Fr 119 a [(0, vl0), (3, vrows3), (9, v3), (57, .bool z34)] ∧ Hp S w0 w (Res.slx Ek.c128 36 v3 q1.1 q1.2 :: Res.sl Ek.c128 36 v30 q23.1 :: Res.sl Ek.c128 36 v12 q5.1 :: ow)) ?_ ?_
  · rcases Bool.eq_false_or_eq_true (q14.2 != q5.2) with hb33 | hb33
    · skip
      replace hz32 := ifT hz32 hb33
      refine st_skip hf (wantN hf rfl rfl hb33) rfl (by decide) ?_ rfl
      clear hf; intro a hf
      refine st_skip hf (wantN hf rfl rfl hb33) rfl (by decide) ?_ rfl
      clear hf; intro a hf
      refine st_skip hf (wantN hf rfl rfl hb33) rfl (by decide) ?_ rfl
      clear hf; intro a hf
      refine st_skip hf (wantN hf rfl rfl hb33) rfl (by decide) ?_ rfl
      clear hf; intro a hf
      refine st_skip hf (wantN hf rfl rfl hb33) rfl (by decide) ?_ rfl
      clear hf; intro a hf
      obtain rfl := Option.some.inj hz32
      refine st_pick (v := .bool true) hf rfl rfl (fun hb' => ?_) (fun hb' => ?_) (by decide) ?_
      · rfl
      · exact absurd (hb33.symm.trans hb') (by decide)
      clear hf; intro a ha hf; clear ha
      refine st_nil hf (th_n ?_)
      have hp : Hp _ _ w (Res.slx Ek.c128 36 v3 q1.1 q1.2 :: Res.sl Ek.c128 36 v30 q23.1 :: Res.sl Ek.c128 36 v12 q5.1 :: ow) := Hp.sel (pre := [Res.slx Ek.c128 36 v3 q1.1 q1.2, Res.sl Ek.c128 36 v30 q23.1, Res.sl Ek.c128 36 v21 q14.1, Res.sl Ek.c128 36 v12 q5.1]) (tail := ow) (rs' := [Res.slx Ek.c128 36 v3 q1.1 q1.2, Res.sl Ek.c128 36 v30 q23.1, Res.sl Ek.c128 36 v12 q5.1]) hp [0, 1, 3] (by decide) (by simp) rfl
      exact ⟨hf.sub ⟨rfl, rfl, rfl, rfl, trivial⟩, hp⟩
    · skip
      replace hz32 := ifF hz32 hb33
      refine st_move hf (wantY hf rfl rfl hb33) rfl (by decide) ?_
      clear hf; intro a ha hf; clear ha
      refine st_move hf (wantY hf rfl rfl hb33) rfl (by decide) ?_
      clear hf; intro a ha hf; clear ha
      refine st_move hf (wantY hf rfl rfl hb33) rfl (by decide) ?_
      clear hf; intro a ha hf; clear ha
      obtain ⟨q35, hcall36, hz32⟩ := bnd hz32
      obtain ⟨S37, hp38, rd39, up40, bk41⟩ := Hp.lendS hp (i := 1) rfl
      obtain ⟨S42, hp43, rd44, up45, bk46⟩ := Hp.lendS hp38 (i := 2) rfl
      have hp47 : Hp _ _ w (Res.sl Ek.c128 36 v21 q14.1 :: Res.slx Ek.c128 36 v3 q1.1 q1.2 :: ow) := Hp.sel (pre := [Res.slx Ek.c128 36 v3 q1.1 q1.2, Res.sl Ek.c128 36 v21 q14.1]) (tail := ow) (rs' := [Res.sl Ek.c128 36 v21 q14.1, Res.slx Ek.c128 36 v3 q1.1 q1.2]) hp43 [1, 0] (by decide) (by simp) rfl
      refine st_call hf (by decide) Try.func12 rfl rfl (wantY hf rfl rfl hb33) rfl rfl (f_foghornlaw08_fresh_c _ _ _ _ ((rd39.now hp38).mono up45) _ _ rd44 hp47 hcall36) ?_
      rintro _ w ⟨rfl, hp0⟩
      have hp0 := bk46 _ _ hp0
      have hp0 := bk41 _ _ hp0
      clear hp; have hp := hp0; clear hp0
      replace hp : Hp _ _ w (Res.sl Ek.c128 36 v30 q23.1 :: Res.sl Ek.c128 36 v12 q5.1 :: Res.slx Ek.c128 36 v3 q1.1 q1.2 :: ow) := hp
      refine ⟨_, rfl, ?_⟩
      clear hf; intro a hf
      refine st_not hf (by decide) (wantY hf rfl rfl hb33) rfl ?_
      clear hf; intro a ha hf; clear ha
      obtain rfl := Option.some.inj hz32
      refine st_pick (v := .bool (!q35)) hf rfl rfl (fun hb' => ?_) (fun hb' => ?_) (by decide) ?_
      · exact absurd (hb33.symm.trans hb') (by decide)
      · rfl
      clear hf; intro a ha hf; clear ha
      refine st_nil hf (th_n ?_)
      have hp : Hp _ _ w (Res.slx Ek.c128 36 v3 q1.1 q1.2 :: Res.sl Ek.c128 36 v30 q23.1 :: Res.sl Ek.c128 36 v12 q5.1 :: ow) := Hp.sel (pre := [Res.sl Ek.c128 36 v30 q23.1, Res.sl Ek.c128 36 v12 q5.1, Res.slx Ek.c128 36 v3 q1.1 q1.2]) (tail := ow) (rs' := [Res.slx Ek.c128 36 v3 q1.1 q1.2, Res.sl Ek.c128 36 v30 q23.1, Res.sl Ek.c128 36 v12 q5.1]) hp [2, 0, 1] (by decide) (by simp) rfl
      exact ⟨hf.sub ⟨rfl, rfl, rfl, rfl, trivial⟩, hp⟩
  · rintro a w ⟨hf, hp⟩
    refine st_move hf rfl rfl (by decide) ?_
    clear hf; intro a ha hf; clear ha
    obtain ⟨z50, hz48, h⟩ := bnd h
    refine wpList_cut 5 (fun a w => Fr 119 a [(3, vrows3), (63, .bool z50)] ∧ Hp S w0 w (Res.slx Ek.c128 36 v3 q1.1 q1.2 :: Res.sl Ek.c128 36 v30 q23.1 :: Res.sl Ek.c128 36 v12 q5.1 :: ow)) ?_ ?_
    · rcases Bool.eq_false_or_eq_true z34 with hb49 | hb49
      · skip
        replace hz48 := ifT hz48 hb49
        refine st_skip hf (wantN hf rfl rfl hb49) rfl (by decide) ?_ rfl
        clear hf; intro a hf
        refine st_skip hf (wantN hf rfl rfl hb49) rfl (by decide) ?_ rfl
        clear hf; intro a hf
        refine st_skip hf (wantN hf rfl rfl hb49) rfl (by decide) ?_ rfl
        clear hf; intro a hf
        refine st_skip hf (wantN hf rfl rfl hb49) rfl (by decide) ?_ rfl
        clear hf; intro a hf
        obtain rfl := Option.some.inj hz48
        refine st_pick (v := .bool true) hf rfl rfl (fun hb' => ?_) (fun hb' => ?_) (by decide) ?_
        · rfl
        · exact absurd (hb49.symm.trans hb') (by decide)
        clear hf; intro a ha hf; clear ha
        refine st_nil hf (th_n ?_)
        exact ⟨hf.sub ⟨rfl, rfl, trivial⟩, hp⟩
      · skip
        replace hz48 := ifF hz48 hb49
        refine st_move hf (wantY hf rfl rfl hb49) rfl (by decide) ?_
        clear hf; intro a ha hf; clear ha
        refine st_move hf (wantY hf rfl rfl hb49) rfl (by decide) ?_
        clear hf; intro a ha hf; clear ha
        obtain ⟨q51, hcall52, hz48⟩ := bnd hz48
        obtain ⟨S53, hp54, rd55, up56, bk57⟩ := Hp.lendX hp (i := 0) rfl
        refine st_call hf (by decide) Try.func13 rfl rfl (wantY hf rfl rfl hb49) rfl rfl (f_foghornlaw08_kept_c hp54 _ _ _ rd55 _ _ ((hl0.now hp).mono up56) hcall52) ?_
        rintro _ w ⟨rfl, hp0⟩
        have hp0 := bk57 _ _ hp0
        clear hp; have hp := hp0; clear hp0
        replace hp : Hp _ _ w (Res.slx Ek.c128 36 v3 q1.1 q1.2 :: Res.sl Ek.c128 36 v30 q23.1 :: Res.sl Ek.c128 36 v12 q5.1 :: ow) := hp
        refine ⟨_, rfl, ?_⟩
        clear hf; intro a hf
        refine st_not hf (by decide) (wantY hf rfl rfl hb49) rfl ?_
        clear hf; intro a ha hf; clear ha
        obtain rfl := Option.some.inj hz48
        refine st_pick (v := .bool (!q51)) hf rfl rfl (fun hb' => ?_) (fun hb' => ?_) (by decide) ?_
        · exact absurd (hb49.symm.trans hb') (by decide)
        · rfl
        clear hf; intro a ha hf; clear ha
        refine st_nil hf (th_n ?_)
        exact ⟨hf.sub ⟨rfl, rfl, trivial⟩, hp⟩
    · rintro a w ⟨hf, hp⟩
      refine st_nil hf ?_
      refine th_n ?_
      refine wp_if hf rfl (fun hb => ?_) (fun hb => ?_)
      · replace h := ifT h hb
        refine wp_seq ?_
        refine wp_reg ?_
        refine st_assign hf rfl rfl (by decide) ?_
        clear hf; intro a ha hf; clear ha
        refine st_nil hf ?_
        refine th_n ?_
        refine wp_ret ?_
        refine th_r ?_
        obtain rfl := Option.some.inj h
        have hp : Hp _ _ w (ow) := Hp.sel (pre := [Res.slx Ek.c128 36 v3 q1.1 q1.2, Res.sl Ek.c128 36 v30 q23.1, Res.sl Ek.c128 36 v12 q5.1]) (tail := ow) (rs' := []) hp [] (by decide) (by simp) rfl
        exact ⟨rfl, ⟨hf.sub ⟨rfl, trivial⟩, hp⟩⟩
      · replace h := ifF h hb
        refine wp_skip ?_
        refine th_n ?_
        refine wp_seq ?_
        refine wp_reg ?_
        refine st_assign hf rfl rfl (by decide) ?_
        clear hf; intro a ha hf; clear ha
        refine st_nil hf ?_
        refine th_n ?_
        refine wp_seq ?_
        refine wp_seq ?_
        refine wp_reg ?_
        refine st_assign hf rfl rfl (by decide) ?_
        clear hf; intro a ha hf; clear ha
        refine st_nil hf ?_
        refine th_n ?_
        refine wp_block ?_
        obtain ⟨q73, hl, h⟩ := bnd h
        have hp := hp.rowsNil (RowK.slx Ek.c128 36) 24
        have hp : Hp _ _ w (Res.rows (RowK.slx Ek.c128 36) 24 (.slice none 0 0) ([]) ([]) :: ow) := Hp.sel (pre := [Res.rows (RowK.slx Ek.c128 36) 24 (.slice none 0 0) ([]) ([]), Res.slx Ek.c128 36 v3 q1.1 q1.2, Res.sl Ek.c128 36 v30 q23.1, Res.sl Ek.c128 36 v12 q5.1]) (tail := ow) (rs' := [Res.rows (RowK.slx Ek.c128 36) 24 (.slice none 0 0) ([]) ([])]) hp [0] (by decide) (by simp) rfl
        refine wp_loop_pure (f := (f_foghornlaw08_MixShares.s1 rows3)) (s := ([], (0 : Int))) (fun s a w => ∃ (v58 : Value) (vs59 : List Value), Fr 119 a [(3, vrows3), (16, v58), (17, .int .i64 s.2)] ∧ Hp S w0 w (Res.rows (RowK.slx Ek.c128 36) 24 v58 vs59 s.1 :: ow)) (fun q e a w => e = .exit 0 ∧ ∃ (v61 : Value) (vs62 : List Value), Fr 119 a [(3, vrows3), (16, v61)] ∧ Hp S w0 w (Res.rows (RowK.slx Ek.c128 36) 24 v61 vs62 q :: ow)) ?_ hl ⟨_, _, hf.sub ⟨rfl, rfl, rfl, trivial⟩, hp⟩ ?_
        · clear hl hf hp
          intro s x a w h hI
          obtain ⟨in16, i17⟩ := s
          obtain ⟨v58, vs59, hf, hp⟩ : ∃ (v58 : Value) (vs59 : List Value), Fr 119 a [(3, vrows3), (16, v58), (17, .int .i64 i17)] ∧ Hp S w0 w (Res.rows (RowK.slx Ek.c128 36) 24 v58 vs59 in16 :: ow) := hI
          replace h : f_foghornlaw08_MixShares.s1c rows3 in16 i17 = some x := h
          unfold f_foghornlaw08_MixShares.s1c at h
          refine wp_seq ?_
          refine wp_seq ?_
          refine wp_reg ?_
          refine st_move hf rfl rfl (by decide) ?_
          clear hf; intro a ha hf; clear ha
          refine st_move hf rfl rfl (by decide) ?_
          clear hf; intro a ha hf; clear ha
          refine st_lenV hf (by decide) Try.underlying23 rfl rfl (hrows3.ob hp).shapeVY ?_
          clear hf; intro a ha hf; clear ha
          refine st_ilss hf (by decide) rfl rfl rfl ?_
          clear hf; intro a ha hf; clear ha
          refine st_nil hf ?_
          refine th_n ?_
          refine wp_if hf rfl (fun hb => ?_) (fun hb => ?_)
          · replace h := ifT h hb
            refine wp_skip ?_
            refine th_n ?_
            refine wp_seq ?_
            refine wp_block ?_
            refine wp_reg ?_
            refine st_move hf rfl rfl (by decide) ?_
            clear hf; intro a ha hf; clear ha
            refine st_move hf rfl rfl (by decide) ?_
            clear hf; intro a ha hf; clear ha
            refine st_move hf rfl rfl (by decide) ?_
            clear hf; intro a ha hf; clear ha
            obtain ⟨hc64, h⟩ := chk h
            refine st_indexV (E := Ek.val) (m := rows3.length) hf (by decide) Try.underlying23 eltv22 rfl rfl rfl (hrows3.ob hp).shapeNY hc64.1 hc64.2 ?_
            clear hf; intro a ha hf; clear ha
            refine st_ldRY hf (by decide) pl22 rfl rfl (hrows3.ob hp) hc64.1 hc64.2 ?_
            clear hf; intro a ha hf; clear ha
            obtain ⟨q65, hcall66, h⟩ := bnd h
            refine st_call hf (by decide) Try.func9 rfl rfl rfl rfl rfl (f_foghornlaw08_numbers_c hp _ _ (RdR.rowS hrows3 hc64.1 hc64.2) hcall66) ?_
            rintro _ w ⟨v67, rfl, hp0⟩
            clear hp; have hp := hp0; clear hp0
            replace hp : Hp _ _ w (Res.slx Ek.c128 36 v67 q65.1 q65.2 :: Res.rows (RowK.slx Ek.c128 36) 24 v58 vs59 in16 :: ow) := hp
            refine ⟨_, rfl, ?_⟩
            clear hf; intro a hf
            refine st_build (E := Ek.val) (xs := [v67]) hf (by decide) eltv24 Try.underlying31 hp (vals := #[(0, v67)]) (cells := #[v67]) rfl (by simp [hf.ev (x := (Operand.tmp 75)) rfl]) (by decide) (by decide) (z := .slice none 0 0) (by kernel_rfl) (fillv1 (hp.sl (i := 0) rfl).shapeV) rfl (reps_cons (E := Ek.val) (cs := [v67]) ⟨rfl, (one_of (hp.sl (i := 0) rfl).shapeV)⟩ (reps_nil _)) ?_
            clear hf; intro a w v69 hf hp0; clear hp; have hp := hp0; clear hp0
            replace hp : Hp _ _ w (Res.sl Ek.val 24 v69 [v67] :: Res.slx Ek.c128 36 v67 q65.1 q65.2 :: Res.rows (RowK.slx Ek.c128 36) 24 v58 vs59 in16 :: ow) := hp
            have hp : Hp _ _ w (Res.rows (RowK.slx Ek.c128 36) 24 v58 vs59 in16 :: Res.slx Ek.c128 36 v67 q65.1 q65.2 :: Res.sl Ek.val 24 v69 [v67] :: ow) := Hp.sel (pre := [Res.sl Ek.val 24 v69 [v67], Res.slx Ek.c128 36 v67 q65.1 q65.2, Res.rows (RowK.slx Ek.c128 36) 24 v58 vs59 in16]) (tail := ow) (rs' := [Res.rows (RowK.slx Ek.c128 36) 24 v58 vs59 in16, Res.slx Ek.c128 36 v67 q65.1 q65.2, Res.sl Ek.val 24 v69 [v67]]) hp [2, 1, 0] (by decide) (by simp) rfl
            obtain ⟨hc71, h⟩ := chk h
            refine st_appendR (K := (RowK.slx Ek.c128 36)) (b := (q65.1, q65.2)) hf (by decide) eltv24 Try.underlying31 (by decide) hp rfl rfl rfl (hp.sl (i := 2) rfl) (by rw [List.length_map]; exact hc71) ?_
            clear hf; intro a w v72 hf hp0; clear hp; have hp := hp0; clear hp0
            rw [fill3] at hp
            replace hp : Hp _ _ w (Res.rows (RowK.slx Ek.c128 36) 24 v72 (vs59 ++ [v67]) (in16 ++ [(q65.1, q65.2)]) :: Res.sl Ek.val 24 v69 [v67] :: ow) := hp
            refine st_assign hf rfl rfl (by decide) ?_
            clear hf; intro a ha hf; clear ha
            refine st_nil hf ?_
            refine ib_n ?_
            refine th_n ?_
            refine wp_reg ?_
            refine st_move hf rfl rfl (by decide) ?_
            clear hf; intro a ha hf; clear ha
            refine st_iadd hf (by decide) rfl rfl rfl ?_
            clear hf; intro a ha hf; clear ha
            refine st_assign hf rfl rfl (by decide) ?_
            clear hf; intro a ha hf; clear ha
            refine st_nil hf ?_
            obtain rfl := Option.some.inj h
            have hp : Hp _ _ w (Res.rows (RowK.slx Ek.c128 36) 24 v72 (vs59 ++ [v67]) (in16 ++ [(q65.1, q65.2)]) :: ow) := Hp.sel (pre := [Res.rows (RowK.slx Ek.c128 36) 24 v72 (vs59 ++ [v67]) (in16 ++ [(q65.1, q65.2)]), Res.sl Ek.val 24 v69 [v67]]) (tail := ow) (rs' := [Res.rows (RowK.slx Ek.c128 36) 24 v72 (vs59 ++ [v67]) (in16 ++ [(q65.1, q65.2)])]) hp [0] (by decide) (by simp) rfl
            exact rnd_l ⟨_, _, hf.sub ⟨rfl, rfl, rfl, trivial⟩, hp⟩
          · replace h := ifF h hb
            refine wp_exit ?_
            refine th_e ?_
            obtain rfl := Option.some.inj h
            exact rnd_r (by simp) ⟨rfl, _, _, hf.sub ⟨rfl, rfl, trivial⟩, hp⟩
        · clear hl hf hp
          intro e a w hne hO
          obtain ⟨rfl, v61, vs62, hf, hp⟩ := hO
          refine ib_same ?_
          refine th_n ?_
          refine wp_seq ?_
          refine wp_reg ?_
          refine st_move hf rfl rfl (by decide) ?_
          clear hf; intro a ha hf; clear ha
          obtain ⟨q75, hcall76, h⟩ := bnd h
          obtain ⟨S77, hp78, rd79, up80, bk81⟩ := Hp.lendR hp (i := 0) rfl
          refine st_call hf (by decide) Try.func14 rfl rfl rfl rfl rfl (f_foghornref08_Merge_c hp78 _ _ _ (RdR.plain rd79) hcall76) ?_
          rintro _ w ⟨v82, rfl, hp0⟩
          have hp0 := bk81 _ _ hp0
          clear hp; have hp := hp0; clear hp0
          replace hp : Hp _ _ w (Res.rows (RowK.slx Ek.c128 36) 24 v61 vs62 q73 :: Res.sl Ek.c128 36 v82 q75.1 :: ow) := hp
          refine ⟨_, rfl, ?_⟩
          clear hf; intro a hf
          refine st_move hf rfl rfl (by decide) ?_
          clear hf; intro a ha hf; clear ha
          refine st_extract hf (by decide) rfl rfl rfl ?_
          clear hf; intro a ha hf; clear ha
          refine st_extract hf (by decide) rfl rfl rfl ?_
          clear hf; intro a ha hf; clear ha
          refine st_assign hf rfl rfl (by decide) ?_
          clear hf; intro a ha hf; clear ha
          refine st_assign hf rfl rfl (by decide) ?_
          clear hf; intro a ha hf; clear ha
          refine st_nil hf ?_
          refine th_n ?_
          refine wp_seq ?_
          refine wp_reg ?_
          refine st_move hf rfl rfl (by decide) ?_
          clear hf; intro a ha hf; clear ha
          obtain ⟨q84, hcall85, h⟩ := bnd h
          obtain ⟨S86, hp87, rd88, up89, bk90⟩ := Hp.lendR hp (i := 0) rfl
          refine st_call hf (by decide) Try.func15 rfl rfl rfl rfl rfl (f_mix_Merge_c hp87 _ _ _ (RdR.plain rd88) hcall85) ?_
          rintro _ w ⟨v91, rfl, hp0⟩
          have hp0 := bk90 _ _ hp0
          clear hp; have hp := hp0; clear hp0
          replace hp : Hp _ _ w (Res.rows (RowK.slx Ek.c128 36) 24 v61 vs62 q73 :: Res.sl Ek.c128 36 v91 q84.1 :: Res.sl Ek.c128 36 v82 q75.1 :: ow) := hp
          refine ⟨_, rfl, ?_⟩
          clear hf; intro a hf
          refine st_move hf rfl rfl (by decide) ?_
          clear hf; intro a ha hf; clear ha
          refine st_extract hf (by decide) rfl rfl rfl ?_
          clear hf; intro a ha hf; clear ha
          refine st_extract hf (by decide) rfl rfl rfl ?_
          clear hf; intro a ha hf; clear ha
          refine st_assign hf rfl rfl (by decide) ?_
          clear hf; intro a ha hf; clear ha
          refine st_assign hf rfl rfl (by decide) ?_
          clear hf; intro a ha hf; clear ha
          refine st_nil hf ?_
          refine th_n ?_
          refine wp_seq ?_
          refine wp_reg ?_
          refine st_move hf rfl rfl (by decide) ?_
          clear hf; intro a ha hf; clear ha
          obtain ⟨q93, hcall94, h⟩ := bnd h
          obtain ⟨S95, hp96, rd97, up98, bk99⟩ := Hp.lendR hp (i := 0) rfl
          refine st_call hf (by decide) Try.func15 rfl rfl rfl rfl rfl (f_mix_Merge_c hp96 _ _ _ (RdR.plain rd97) hcall94) ?_
          rintro _ w ⟨v100, rfl, hp0⟩
          have hp0 := bk99 _ _ hp0
          clear hp; have hp := hp0; clear hp0
          replace hp : Hp _ _ w (Res.rows (RowK.slx Ek.c128 36) 24 v61 vs62 q73 :: Res.sl Ek.c128 36 v100 q93.1 :: Res.sl Ek.c128 36 v91 q84.1 :: Res.sl Ek.c128 36 v82 q75.1 :: ow) := hp
          refine ⟨_, rfl, ?_⟩
          clear hf; intro a hf
          refine st_move hf rfl rfl (by decide) ?_
          clear hf; intro a ha hf; clear ha
          refine st_extract hf (by decide) rfl rfl rfl ?_
          clear hf; intro a ha hf; clear ha
          refine st_extract hf (by decide) rfl rfl rfl ?_
          clear hf; intro a ha hf; clear ha
          refine st_assign hf rfl rfl (by decide) ?_
          clear hf; intro a ha hf; clear ha
          refine st_assign hf rfl rfl (by decide) ?_
          clear hf; intro a ha hf; clear ha
          refine st_nil hf ?_
          refine th_n ?_
          refine wp_seq ?_
          refine wp_seq ?_
          refine wp_reg ?_
          refine st_move hf rfl rfl (by decide) ?_
          clear hf; intro a ha hf; clear ha
          refine st_move hf rfl rfl (by decide) ?_
          clear hf; intro a ha hf; clear ha
          refine st_ineq hf (by decide) rfl rfl rfl ?_
          clear hf; intro a ha hf; clear ha
          refine st_move hf rfl rfl (by decide) ?_
          clear hf; intro a ha hf; clear ha
          obtain ⟨z104, hz102, h⟩ := bnd h
          refine wpList_cut 6 (fun a w => Fr 119 a [(3, vrows3), (16, v61), (102, .bool z104)] ∧ Hp S w0 w (Res.rows (RowK.slx Ek.c128 36) 24 v61 vs62 q73 :: Res.sl Ek.c128 36 v100 q93.1 :: Res.sl Ek.c128 36 v82 q75.1 :: ow)) ?_ ?_
          · rcases Bool.eq_false_or_eq_true (q84.2 != q75.2) with hb103 | hb103
            · skip
              replace hz102 := ifT hz102 hb103
              refine st_skip hf (wantN hf rfl rfl hb103) rfl (by decide) ?_ rfl
              clear hf; intro a hf
              refine st_skip hf (wantN hf rfl rfl hb103) rfl (by decide) ?_ rfl
              clear hf; intro a hf
              refine st_skip hf (wantN hf rfl rfl hb103) rfl (by decide) ?_ rfl
              clear hf; intro a hf
              refine st_skip hf (wantN hf rfl rfl hb103) rfl (by decide) ?_ rfl
              clear hf; intro a hf
              refine st_skip hf (wantN hf rfl rfl hb103) rfl (by decide) ?_ rfl
              clear hf; intro a hf
              obtain rfl := Option.some.inj hz102
              refine st_pick (v := .bool true) hf rfl rfl (fun hb' => ?_) (fun hb' => ?_) (by decide) ?_
              · rfl
              · exact absurd (hb103.symm.trans hb') (by decide)
              clear hf; intro a ha hf; clear ha
              refine st_nil hf (th_n ?_)
              have hp : Hp _ _ w (Res.rows (RowK.slx Ek.c128 36) 24 v61 vs62 q73 :: Res.sl Ek.c128 36 v100 q93.1 :: Res.sl Ek.c128 36 v82 q75.1 :: ow) := Hp.sel (pre := [Res.rows (RowK.slx Ek.c128 36) 24 v61 vs62 q73, Res.sl Ek.c128 36 v100 q93.1, Res.sl Ek.c128 36 v91 q84.1, Res.sl Ek.c128 36 v82 q75.1]) (tail := ow) (rs' := [Res.rows (RowK.slx Ek.c128 36) 24 v61 vs62 q73, Res.sl Ek.c128 36 v100 q93.1, Res.sl Ek.c128 36 v82 q75.1]) hp [0, 1, 3] (by decide) (by simp) rfl
              exact ⟨hf.sub ⟨rfl, rfl, rfl, trivial⟩, hp⟩
            · skip
              replace hz102 := ifF hz102 hb103
              refine st_move hf (wantY hf rfl rfl hb103) rfl (by decide) ?_
              clear hf; intro a ha hf; clear ha
              refine st_move hf (wantY hf rfl rfl hb103) rfl (by decide) ?_
              clear hf; intro a ha hf; clear ha
              refine st_move hf (wantY hf rfl rfl hb103) rfl (by decide) ?_
              clear hf; intro a ha hf; clear ha
              obtain ⟨q105, hcall106, hz102⟩ := bnd hz102
              obtain ⟨S107, hp108, rd109, up110, bk111⟩ := Hp.lendS hp (i := 1) rfl
              obtain ⟨S112, hp113, rd114, up115, bk116⟩ := Hp.lendS hp108 (i := 2) rfl
              have hp117 : Hp _ _ w (Res.sl Ek.c128 36 v91 q84.1 :: Res.rows (RowK.slx Ek.c128 36) 24 v61 vs62 q73 :: ow) := Hp.sel (pre := [Res.rows (RowK.slx Ek.c128 36) 24 v61 vs62 q73, Res.sl Ek.c128 36 v91 q84.1]) (tail := ow) (rs' := [Res.sl Ek.c128 36 v91 q84.1, Res.rows (RowK.slx Ek.c128 36) 24 v61 vs62 q73]) hp113 [1, 0] (by decide) (by simp) rfl
              refine st_call hf (by decide) Try.func12 rfl rfl (wantY hf rfl rfl hb103) rfl rfl (f_foghornlaw08_fresh_c _ _ _ _ ((rd109.now hp108).mono up115) _ _ rd114 hp117 hcall106) ?_
              rintro _ w ⟨rfl, hp0⟩
              have hp0 := bk116 _ _ hp0
              have hp0 := bk111 _ _ hp0
              clear hp; have hp := hp0; clear hp0
              replace hp : Hp _ _ w (Res.sl Ek.c128 36 v100 q93.1 :: Res.sl Ek.c128 36 v82 q75.1 :: Res.rows (RowK.slx Ek.c128 36) 24 v61 vs62 q73 :: ow) := hp
              refine ⟨_, rfl, ?_⟩
              clear hf; intro a hf
              refine st_not hf (by decide) (wantY hf rfl rfl hb103) rfl ?_
              clear hf; intro a ha hf; clear ha
              obtain rfl := Option.some.inj hz102
              refine st_pick (v := .bool (!q105)) hf rfl rfl (fun hb' => ?_) (fun hb' => ?_) (by decide) ?_
              · exact absurd (hb103.symm.trans hb') (by decide)
              · rfl
              clear hf; intro a ha hf; clear ha
              refine st_nil hf (th_n ?_)
              have hp : Hp _ _ w (Res.rows (RowK.slx Ek.c128 36) 24 v61 vs62 q73 :: Res.sl Ek.c128 36 v100 q93.1 :: Res.sl Ek.c128 36 v82 q75.1 :: ow) := Hp.sel (pre := [Res.sl Ek.c128 36 v100 q93.1, Res.sl Ek.c128 36 v82 q75.1, Res.rows (RowK.slx Ek.c128 36) 24 v61 vs62 q73]) (tail := ow) (rs' := [Res.rows (RowK.slx Ek.c128 36) 24 v61 vs62 q73, Res.sl Ek.c128 36 v100 q93.1, Res.sl Ek.c128 36 v82 q75.1]) hp [2, 0, 1] (by decide) (by simp) rfl
              exact ⟨hf.sub ⟨rfl, rfl, rfl, trivial⟩, hp⟩
          · rintro a w ⟨hf, hp⟩
            refine st_nil hf ?_
            refine th_n ?_
            refine wp_if hf rfl (fun hb => ?_) (fun hb => ?_)
            · replace h := ifT h hb
              refine wp_seq ?_
              refine wp_reg ?_
              refine st_assign hf rfl rfl (by decide) ?_
              clear hf; intro a ha hf; clear ha
              refine st_nil hf ?_
              refine th_n ?_
              refine wp_ret ?_
              refine th_r ?_
              obtain rfl := Option.some.inj h
              have hp : Hp _ _ w (ow) := Hp.sel (pre := [Res.rows (RowK.slx Ek.c128 36) 24 v61 vs62 q73, Res.sl Ek.c128 36 v100 q93.1, Res.sl Ek.c128 36 v82 q75.1]) (tail := ow) (rs' := []) hp [] (by decide) (by simp) rfl
              exact ⟨rfl, ⟨hf.sub ⟨rfl, trivial⟩, hp⟩⟩
            · replace h := ifF h hb
              refine wp_skip ?_
              refine th_n ?_
              refine wp_seq ?_
              refine wp_seq ?_
              refine wp_reg ?_
              refine st_assign hf rfl rfl (by decide) ?_
              clear hf; intro a ha hf; clear ha
              refine st_nil hf ?_
              refine th_n ?_
              refine wp_block ?_
              obtain ⟨q129, hl, h⟩ := bnd h
              have hp : Hp _ _ w (Res.rows (RowK.slx Ek.c128 36) 24 v61 vs62 q73 :: ow) := Hp.sel (pre := [Res.rows (RowK.slx Ek.c128 36) 24 v61 vs62 q73, Res.sl Ek.c128 36 v100 q93.1, Res.sl Ek.c128 36 v82 q75.1]) (tail := ow) (rs' := [Res.rows (RowK.slx Ek.c128 36) 24 v61 vs62 q73]) hp [0] (by decide) (by simp) rfl
              refine wp_loop_pure (f := (f_foghornlaw08_MixShares.s2 rows3 q73)) (s := (0 : Int)) (fun s a w => Fr 119 a [(3, vrows3), (16, v61), (24, .int .i64 s)] ∧ Hp S w0 w (Res.rows (RowK.slx Ek.c128 36) 24 v61 vs62 q73 :: ow)) (fun q e a w => match q with | (Sum.inl q) => e = .exit 2 ∧ Fr 119 a [] ∧ Hp S w0 w (ow) | (Sum.inr q) => e = .ret ∧ Fr 119 a [(8, .bool q)] ∧ Hp S w0 w (ow)) ?_ hl ⟨hf.sub ⟨rfl, rfl, rfl, trivial⟩, hp⟩ ?_
              · clear hl hf hp
                intro s x a w h hI
                obtain ⟨i24, hs⟩ : ∃ z, z = s := ⟨s, rfl⟩; subst hs
                obtain ⟨hf, hp⟩ : Fr 119 a [(3, vrows3), (16, v61), (24, .int .i64 i24)] ∧ Hp S w0 w (Res.rows (RowK.slx Ek.c128 36) 24 v61 vs62 q73 :: ow) := hI
                replace h : f_foghornlaw08_MixShares.s2c rows3 q73 i24 = some x := h
                unfold f_foghornlaw08_MixShares.s2c at h
                refine wp_seq ?_
                refine wp_seq ?_
                refine wp_reg ?_
                refine st_move hf rfl rfl (by decide) ?_
                clear hf; intro a ha hf; clear ha
                refine st_move hf rfl rfl (by decide) ?_
                clear hf; intro a ha hf; clear ha
                refine st_lenV hf (by decide) Try.underlying23 rfl rfl (hrows3.ob hp).shapeVY ?_
                clear hf; intro a ha hf; clear ha
                refine st_ilss hf (by decide) rfl rfl rfl ?_
                clear hf; intro a ha hf; clear ha
                refine st_nil hf ?_
                refine th_n ?_
                refine wp_if hf rfl (fun hb => ?_) (fun hb => ?_)
                · replace h := ifT h hb
                  refine wp_skip ?_
                  refine th_n ?_
                  refine wp_seq ?_
                  refine wp_block ?_
                  refine wp_seq ?_
                  obtain ⟨S118, hp119, rd120, up121, bk122⟩ := Hp.lendR hp (i := 0) rfl
                  have rl123 := ((hrows3.now hp).mono up121)
                  have rl124 := rd120
                  obtain ⟨hc125, h⟩ := chk h
                  obtain ⟨hc126, h⟩ := chk h
                  obtain ⟨q127, hcall128, h⟩ := bnd h
                  refine wp_cutN (fun a w => Fr 119 a [(3, vrows3), (16, v61), (24, .int .i64 i24), (118, .bool (!q127))] ∧ Hp S w0 w (Res.rows (RowK.slx Ek.c128 36) 24 v61 vs62 q73 :: ow)) ?_ ?_
                  · have hp := hp119.same (Same.drew w)
                    refine dr_begin' (fun a w => Fr 119 a [(3, vrows3), (16, v61), (24, .int .i64 i24), (118, .bool (!q127))] ∧ Hp S w0 w (Res.rows (RowK.slx Ek.c128 36) 24 v61 vs62 q73 :: ow)) (fun w' => ∃ l, Hp S118 w w' l) [] (by kernel_rfl) ?_
                    refine dr_take 0 (v61) rfl (by kernel_rfl) (by kernel_rfl) (by kernel_rfl) (by kernel_rfl) rfl rfl hf (by decide) rfl (fun w hp => ?_) ⟨_, hp⟩ ?_
                    · obtain ⟨_, hp⟩ := hp
                      refine st_move hf rfl rfl (by decide) ?_
                      clear hf; intro a ha hf
                      exact st_nil hf (th_n ⟨ha, rfl⟩)
                    clear hf; intro a hf
                    refine dr_take 1 (.int .i64 i24) rfl (by kernel_rfl) (by kernel_rfl) (by kernel_rfl) (by kernel_rfl) rfl rfl hf (by decide) rfl (fun w hp => ?_) ⟨_, hp⟩ ?_
                    · obtain ⟨_, hp⟩ := hp
                      refine st_move hf rfl rfl (by decide) ?_
                      clear hf; intro a ha hf
                      exact st_nil hf (th_n ⟨ha, rfl⟩)
                    clear hf; intro a hf
                    refine dr_take 2 (eptr v61 i24 1) rfl (by kernel_rfl) (by kernel_rfl) (by kernel_rfl) (by kernel_rfl) rfl rfl hf (by decide) rfl (fun w hp => ?_) ⟨_, hp⟩ ?_
                    · obtain ⟨_, hp⟩ := hp
                      refine st_indexV (E := Ek.val) (m := q73.length) hf (by decide) Try.underlying31 eltv24 rfl rfl rfl (rl124.ob hp).shapeNY hc125.1 hc125.2 ?_
                      clear hf; intro a ha hf
                      exact st_nil hf (th_n ⟨ha, rfl⟩)
                    clear hf; intro a hf
                    refine dr_take 3 ((gtv vs62 i24)) rfl (by kernel_rfl) (by kernel_rfl) (by kernel_rfl) (by kernel_rfl) rfl rfl hf (by decide) rfl (fun w hp => ?_) ⟨_, hp⟩ ?_
                    · obtain ⟨_, hp⟩ := hp
                      refine st_ldRY hf (by decide) pl24 rfl rfl (rl124.ob hp) hc125.1 hc125.2 ?_
                      clear hf; intro a ha hf
                      exact st_nil hf (th_n ⟨ha, rfl⟩)
                    clear hf; intro a hf
                    refine dr_take 4 (vrows3) rfl (by kernel_rfl) (by kernel_rfl) (by kernel_rfl) (by kernel_rfl) rfl rfl hf (by decide) rfl (fun w hp => ?_) ⟨_, hp⟩ ?_
                    · obtain ⟨_, hp⟩ := hp
                      refine st_move hf rfl rfl (by decide) ?_
                      clear hf; intro a ha hf
                      exact st_nil hf (th_n ⟨ha, rfl⟩)
                    clear hf; intro a hf
                    refine dr_take 5 (.int .i64 i24) rfl (by kernel_rfl) (by kernel_rfl) (by kernel_rfl) (by kernel_rfl) rfl rfl hf (by decide) rfl (fun w hp => ?_) ⟨_, hp⟩ ?_
                    · obtain ⟨_, hp⟩ := hp
                      refine st_move hf rfl rfl (by decide) ?_
                      clear hf; intro a ha hf
                      exact st_nil hf (th_n ⟨ha, rfl⟩)
                    clear hf; intro a hf
                    refine dr_take 6 (eptr vrows3 i24 1) rfl (by kernel_rfl) (by kernel_rfl) (by kernel_rfl) (by kernel_rfl) rfl rfl hf (by decide) rfl (fun w hp => ?_) ⟨_, hp⟩ ?_
                    · obtain ⟨_, hp⟩ := hp
                      refine st_indexV (E := Ek.val) (m := rows3.length) hf (by decide) Try.underlying23 eltv22 rfl rfl rfl (rl123.ob hp).shapeNY hc126.1 hc126.2 ?_
                      clear hf; intro a ha hf
                      exact st_nil hf (th_n ⟨ha, rfl⟩)
                    clear hf; intro a hf
                    refine dr_take 7 ((gtv srows3 i24)) rfl (by kernel_rfl) (by kernel_rfl) (by kernel_rfl) (by kernel_rfl) rfl rfl hf (by decide) rfl (fun w hp => ?_) ⟨_, hp⟩ ?_
                    · obtain ⟨_, hp⟩ := hp
                      refine st_ldRY hf (by decide) pl22 rfl rfl (rl123.ob hp) hc126.1 hc126.2 ?_
                      clear hf; intro a ha hf
                      exact st_nil hf (th_n ⟨ha, rfl⟩)
                    clear hf; intro a hf
                    refine dr_one 8 rfl (by kernel_rfl) ?_
                    refine st_call hf (by decide) Try.func13 rfl rfl rfl rfl rfl (f_foghornlaw08_kept_c hp _ _ _ (RdR.rowX rl124 hc125.1 hc125.2) _ _ (RdR.rowS rl123 hc126.1 hc126.2) hcall128) ?_
                    rintro _ w ⟨rfl, hp0⟩
                    clear hp; have hp := hp0; clear hp0
                    replace hp : Hp _ _ w (ow) := hp
                    refine ⟨_, rfl, ?_⟩
                    clear hf; intro a hf
                    refine st_nil hf (th_n ⟨fun _ _ => ⟨_, hp⟩, ?_⟩)
                    refine dr_take 9 (.bool (!q127)) rfl (by kernel_rfl) (by kernel_rfl) (by kernel_rfl) (by kernel_rfl) rfl rfl hf (by decide) rfl (fun w hp => ?_) ⟨_, hp⟩ ?_
                    · obtain ⟨_, hp⟩ := hp
                      refine st_not hf (by decide) rfl rfl ?_
                      clear hf; intro a ha hf
                      exact st_nil hf (th_n ⟨ha, rfl⟩)
                    clear hf; intro a hf
                    refine dr_end (by kernel_rfl) ?_ _
                    have hp := bk122 _ _ hp
                    exact ⟨hf.sub ⟨rfl, rfl, rfl, rfl, trivial⟩, hp⟩
                  · rintro a w ⟨hf, hp⟩
                    refine th_n ?_
                    refine wp_if hf rfl (fun hb => ?_) (fun hb => ?_)
                    · replace h := ifT h hb
                      refine wp_seq ?_
                      refine wp_reg ?_
                      refine st_assign hf rfl rfl (by decide) ?_
                      clear hf; intro a ha hf; clear ha
                      refine st_nil hf ?_
                      refine th_n ?_
                      refine wp_ret ?_
                      refine ib_r ?_
                      refine th_r ?_
                      obtain rfl := Option.some.inj h
                      have hp : Hp _ _ w (ow) := Hp.sel (pre := [Res.rows (RowK.slx Ek.c128 36) 24 v61 vs62 q73]) (tail := ow) (rs' := []) hp [] (by decide) (by simp) rfl
                      exact rnd_r (by simp) ⟨rfl, ⟨hf.sub ⟨rfl, trivial⟩, hp⟩⟩
                    · replace h := ifF h hb
                      refine wp_skip ?_
                      refine ib_n ?_
                      refine th_n ?_
                      refine wp_reg ?_
                      refine st_move hf rfl rfl (by decide) ?_
                      clear hf; intro a ha hf; clear ha
                      refine st_iadd hf (by decide) rfl rfl rfl ?_
                      clear hf; intro a ha hf; clear ha
                      refine st_assign hf rfl rfl (by decide) ?_
                      clear hf; intro a ha hf; clear ha
                      refine st_nil hf ?_
                      obtain rfl := Option.some.inj h
                      exact rnd_l ⟨hf.sub ⟨rfl, rfl, rfl, trivial⟩, hp⟩
                · replace h := ifF h hb
                  refine wp_exit ?_
                  refine th_e ?_
                  obtain rfl := Option.some.inj h
                  have hp : Hp _ _ w (ow) := Hp.sel (pre := [Res.rows (RowK.slx Ek.c128 36) 24 v61 vs62 q73]) (tail := ow) (rs' := []) hp [] (by decide) (by simp) rfl
                  exact rnd_r (by simp) ⟨rfl, hf.sub trivial, hp⟩
              · clear hl hf hp
                intro e a w hne hO
                cases q129 with
                | inl q130 =>
                  replace h := smL h
                  obtain ⟨rfl, hf, hp⟩ := hO
                  refine ib_same ?_
                  refine th_n ?_
                  refine wp_seq ?_
                  refine wp_reg ?_
                  refine st_assign hf rfl rfl (by decide) ?_
                  clear hf; intro a ha hf; clear ha
                  refine st_nil hf ?_
                  refine th_n ?_
                  refine wp_ret ?_
                  obtain rfl := Option.some.inj h
                  exact ⟨rfl, ⟨hf.sub ⟨rfl, trivial⟩, hp⟩⟩
                | inr q131 =>
                  replace h := smR h
                  obtain ⟨rfl, hf, hp⟩ := hO
                  refine ib_r ?_
                  refine th_r ?_
                  obtain rfl := Option.some.inj h
                  exact ⟨rfl, ⟨hf.sub ⟨rfl, trivial⟩, hp⟩⟩

end Go.Proofs.Ytfppofbdmhihpaa
