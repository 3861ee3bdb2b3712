/- The functions foghorn foghornlaw03.PlaneNone: what each answers, as a plain function, and that its call answers it; printed by gen.py. -/
import Derived.Test.YteifkccomfdciaaProg
import Derived.Test.YteifkccomfdciaaGlU
import Derived.KernelRfl
import Derived.Test.YteifkccomfdciaaG7p1
set_option linter.unusedVariables false
set_option linter.unusedSimpArgs false
set_option maxRecDepth 100000
set_option maxHeartbeats 4000000
namespace Go.Proofs.Yteifkccomfdciaa
open GL
noncomputable def f_foghornlaw03_PlaneNone  : Option Bool := ((f_plane_Filter ([]) ([])).bind fun q1 => (if 0 ≤ (65 : Int) ∧ (65 : Int) ≤ (65 : Int) ∧ (65 : Int) * 16 ≤ 281474976710656 then ((f_plane_Filter (mk0 (65 : Int) (Fl.bits 0, Fl.bits 0)) ([])).bind fun q8 => (if 0 ≤ (64 : Int) ∧ (64 : Int) ≤ (64 : Int) ∧ (64 : Int) * 16 ≤ 281474976710656 then (if 0 ≤ (3 : Int) ∧ (3 : Int) ≤ (3 : Int) ∧ (3 : Int) * 16 ≤ 281474976710656 then ((f_plane_Filter (List.replicate ((64 : Int)).toNat (Fl.bits 0, Fl.bits 0)) (List.replicate ((3 : Int)).toNat (Fl.bits 0, Fl.bits 0))).bind fun q23 => (if 0 ≤ (1 : Int) ∧ (1 : Int) ≤ (1 : Int) ∧ (1 : Int) * 16 ≤ 281474976710656 then (if 0 ≤ (65537 : Int) ∧ (65537 : Int) ≤ (65537 : Int) ∧ (65537 : Int) * 16 ≤ 281474976710656 then ((f_plane_Filter (List.replicate ((1 : Int)).toNat (Fl.bits 0, Fl.bits 0)) (mk0 (65537 : Int) (Fl.bits 0, Fl.bits 0))).bind fun q43 => ((f_plane_Gauss_Norm (1073741824 : Int) (-1073741824 : Int)).bind fun q61 => ((f_plane_Gauss_Norm (1073741825 : Int) (0 : Int)).bind fun q63 => ((f_plane_Gcd (1073741825 : Int) (0 : Int) (1073741824 : Int) (-1073741824 : Int)).bind fun q65 => ((f_plane_Gauss_Class (1073741824 : Int) (-1073741824 : Int) (31 : Int)).bind fun q69 => ((f_plane_Gauss_Class (1073741824 : Int) (-1073741824 : Int) (-1 : Int)).bind fun q71 => ((f_plane_First (1 : Int) (0 : Int)).bind fun q73 => ((f_plane_First (1073741824 : Int) (30 : Int)).bind fun q77 => ((f_plane_Gauss_Depth (1073741824 : Int) (0 : Int)).bind fun q81 => ((f_plane_Whole (Fl.bits 4742290407621132288, Fl.bits 13965662444475908096)).bind fun q83 => ((f_plane_Whole (Fl.bits 4742290407625326592, Fl.bits 0)).bind fun q87 => ((if ((((((((((((((((((q1.2 == (1 : Int)) && (q8.2 == (1 : Int))) && (q23.2 == (0 : Int))) && ((q23.1.length : Int) == (3 : Int))) && (q43.2 == (1 : Int))) && (q61.2 == (0 : Int))) && (q61.1 == (2305843009213693952 : Int))) && (q63.2 == (1 : Int))) && (q65.2 == (1 : Int))) && (q69.2 == (1 : Int))) && (q71.2 == (1 : Int))) && (q73.2 == (1 : Int))) && (q77.2 == (1 : Int))) && (q81.2 == (0 : Int))) && (q81.1 == (60 : Int))) && (q83.2 == (0 : Int))) && ((q83.1.1 == (1073741824 : Int)) && ((q83.1.2 == (-1073741824 : Int)) && true))) && (q87.2 == (1 : Int))) = true then ((f_plane_Sum ([])).bind fun q128 => (some (ceq q128 (Fl.bits 0, Fl.bits 0)))) else (some false)).bind fun z127 => ((if z127 = true then ((f_foghornlaw03_awake).bind fun q137 => (some q137)) else (some false)).bind fun z136 => (some z136)))))))))))))) else none) else none)) else none) else none)) else none))
theorem f_foghornlaw03_PlaneNone_c {S : Nat → Prop} {w0 w : World} {ow : List Res} (hp : Hp S w0 w ow) {r : Bool} (h : f_foghornlaw03_PlaneNone = some r) :
    Calls Try.prog 9 #[] w (fun e w' => e = .returned (.bool r) ∧ Hp S w0 w' (ow)) := by
  unfold f_foghornlaw03_PlaneNone at h
  refine enter (n := 180) (args := []) Try.func9 rfl rfl (Nat.le_of_ble_eq_true rfl) fun a hf => ?_
  replace hf : Fr 180 a [] := hf
  refine wp_mono (Q := fun e a w => e = .ret ∧ Fr 180 a [(0, .bool r)] ∧ Hp S w0 w (ow)) ?_ ?_
  rotate_left
  · rintro e a w ⟨rfl, hf, hp⟩
    exact ret1 hf rfl rfl ⟨rfl, hp⟩
  refine wp_seq ?_
  refine wp_reg ?_
  refine st_assign hf rfl rfl (by decide) ?_
  clear hf; intro a ha hf; clear ha
  refine st_nil hf ?_
  refine th_n ?_
  refine wp_seq ?_
  refine wp_reg ?_
  obtain ⟨q1, hcall2, h⟩ := bnd h
  refine st_call hf (by decide) Try.func28 rfl rfl rfl rfl rfl (f_plane_Filter_c hp _ _ (RdS.nil _ _ _) _ _ (RdS.nil _ _ _) hcall2) ?_
  rintro _ w ⟨v3, rfl, hp0⟩
  clear hp; have hp := hp0; clear hp0
  replace hp : Hp _ _ _ (Res.sl Ek.c128 24 v3 q1.1 :: ow) := hp
  refine ⟨_, rfl, ?_⟩
  clear hf; intro a hf
  refine st_move hf rfl rfl (by decide) ?_
  clear hf; intro a ha hf; clear ha
  refine st_extract hf (by decide) rfl rfl rfl ?_
  clear hf; intro a ha hf; clear ha
  refine st_extract hf (by decide) rfl rfl rfl ?_
  clear hf; intro a ha hf; clear ha
  refine st_assign hf rfl rfl (by decide) ?_
  clear hf; intro a ha hf; clear ha
  refine st_assign hf rfl rfl (by decide) ?_
  clear hf; intro a ha hf; clear ha
  refine st_nil hf ?_
  refine th_n ?_
  refine wp_seq ?_
  refine wp_reg ?_
  obtain ⟨hc5, h⟩ := chk h
  refine st_make (E := Ek.c128) hf (by decide) elt24 Try.underlying41 (by decide) hp rfl rfl rfl hc5.1 hc5.2.1 hc5.2.2 ?_
  clear hf; intro a w v6 hf hp0; clear hp; have hp := hp0; clear hp0
  rw [← mk0_eq] at hp
  replace hp : Hp _ _ _ (Res.sl Ek.c128 24 v6 (mk0 (65 : Int) (Fl.bits 0, Fl.bits 0)) :: Res.sl Ek.c128 24 v3 q1.1 :: ow) := hp
  obtain ⟨q8, hcall9, h⟩ := bnd h
  obtain ⟨S10, hp11, rd12, up13, bk14⟩ := Hp.lendS hp (i := 0) rfl
  refine st_call hf (by decide) Try.func28 rfl rfl rfl rfl rfl (f_plane_Filter_c hp11 _ _ rd12 _ _ (RdS.nil _ _ _) hcall9) ?_
  rintro _ w ⟨v15, rfl, hp0⟩
  have hp0 := bk14 _ _ hp0
  clear hp; have hp := hp0; clear hp0
  replace hp : Hp _ _ _ (Res.sl Ek.c128 24 v6 (mk0 (65 : Int) (Fl.bits 0, Fl.bits 0)) :: Res.sl Ek.c128 24 v15 q8.1 :: Res.sl Ek.c128 24 v3 q1.1 :: ow) := hp
  refine ⟨_, rfl, ?_⟩
  clear hf; intro a hf
  refine st_move hf rfl rfl (by decide) ?_
  clear hf; intro a ha hf; clear ha
  refine st_extract hf (by decide) rfl rfl rfl ?_
  clear hf; intro a ha hf; clear ha
  refine st_extract hf (by decide) rfl rfl rfl ?_
  clear hf; intro a ha hf; clear ha
  refine st_assign hf rfl rfl (by decide) ?_
  clear hf; intro a ha hf; clear ha
  refine st_assign hf rfl rfl (by decide) ?_
  clear hf; intro a ha hf; clear ha
  refine st_nil hf ?_
  refine th_n ?_
  refine wp_seq ?_
  obtain ⟨hc17, h⟩ := chk h
  obtain ⟨hc20, h⟩ := chk h
  obtain ⟨q23, hcall24, h⟩ := bnd h
  refine wp_cutN (fun a w => ∃ (v18 : Value) (v21 : Value) (v35 : Value), Fr 180 a [(2, .int .i64 q1.2), (4, .int .i64 q8.2), (5, v35), (6, .int .i64 q23.2)] ∧ Hp S w0 w (Res.sl Ek.c128 24 v18 (List.replicate ((64 : Int)).toNat (Fl.bits 0, Fl.bits 0)) :: Res.sl Ek.c128 24 v21 (List.replicate ((3 : Int)).toNat (Fl.bits 0, Fl.bits 0)) :: Res.sl Ek.c128 24 v35 q23.1 :: Res.sl Ek.c128 24 v6 (mk0 (65 : Int) (Fl.bits 0, Fl.bits 0)) :: Res.sl Ek.c128 24 v15 q8.1 :: Res.sl Ek.c128 24 v3 q1.1 :: ow)) ?_ ?_
  · have hp := hp.same (Same.drew w)
    refine dr_begin' (fun a w => ∃ (v18 : Value) (v21 : Value) (v35 : Value), Fr 180 a [(2, .int .i64 q1.2), (4, .int .i64 q8.2), (5, v35), (6, .int .i64 q23.2)] ∧ Hp S w0 w (Res.sl Ek.c128 24 v18 (List.replicate ((64 : Int)).toNat (Fl.bits 0, Fl.bits 0)) :: Res.sl Ek.c128 24 v21 (List.replicate ((3 : Int)).toNat (Fl.bits 0, Fl.bits 0)) :: Res.sl Ek.c128 24 v35 q23.1 :: Res.sl Ek.c128 24 v6 (mk0 (65 : Int) (Fl.bits 0, Fl.bits 0)) :: Res.sl Ek.c128 24 v15 q8.1 :: Res.sl Ek.c128 24 v3 q1.1 :: ow)) (fun w' => ∃ l, Hp S w0 w' l) [] (by kernel_rfl) ?_
    refine dr_two 0 1 rfl rfl (by kernel_rfl) ?_ ?_
    · skip
      refine st_make (E := Ek.c128) hf (by decide) elt24 Try.underlying41 (by decide) hp rfl rfl rfl hc17.1 hc17.2.1 hc17.2.2 ?_
      clear hf; intro a w v18 hf hp0; clear hp; have hp := hp0; clear hp0
      replace hp : Hp _ _ _ (Res.sl Ek.c128 24 v18 (List.replicate ((64 : Int)).toNat (Fl.bits 0, Fl.bits 0)) :: Res.sl Ek.c128 24 v6 (mk0 (65 : Int) (Fl.bits 0, Fl.bits 0)) :: Res.sl Ek.c128 24 v15 q8.1 :: Res.sl Ek.c128 24 v3 q1.1 :: ow) := hp
      refine st_nil hf (th_n ⟨fun _ _ => ⟨_, hp⟩, ?_⟩)
      refine dr_one 1 rfl (by kernel_rfl) ?_
      refine st_make (E := Ek.c128) hf (by decide) elt24 Try.underlying41 (by decide) hp rfl rfl rfl hc20.1 hc20.2.1 hc20.2.2 ?_
      clear hf; intro a w v21 hf hp0; clear hp; have hp := hp0; clear hp0
      replace hp : Hp _ _ _ (Res.sl Ek.c128 24 v21 (List.replicate ((3 : Int)).toNat (Fl.bits 0, Fl.bits 0)) :: Res.sl Ek.c128 24 v18 (List.replicate ((64 : Int)).toNat (Fl.bits 0, Fl.bits 0)) :: Res.sl Ek.c128 24 v6 (mk0 (65 : Int) (Fl.bits 0, Fl.bits 0)) :: Res.sl Ek.c128 24 v15 q8.1 :: Res.sl Ek.c128 24 v3 q1.1 :: ow) := hp
      refine st_nil hf (th_n ⟨fun _ _ => ⟨_, hp⟩, ?_⟩)
      refine dr_one 2 rfl (by kernel_rfl) ?_
      obtain ⟨S25, hp26, rd27, up28, bk29⟩ := Hp.lendS hp (i := 1) rfl
      obtain ⟨S30, hp31, rd32, up33, bk34⟩ := Hp.lendS hp26 (i := 0) rfl
      refine st_call hf (by decide) Try.func28 rfl rfl rfl rfl rfl (f_plane_Filter_c hp31 _ _ ((rd27.now hp26).mono up33) _ _ rd32 hcall24) ?_
      rintro _ w ⟨v35, rfl, hp0⟩
      have hp0 := bk34 _ _ hp0
      have hp0 := bk29 _ _ hp0
      clear hp; have hp := hp0; clear hp0
      replace hp : Hp _ _ _ (Res.sl Ek.c128 24 v18 (List.replicate ((64 : Int)).toNat (Fl.bits 0, Fl.bits 0)) :: Res.sl Ek.c128 24 v21 (List.replicate ((3 : Int)).toNat (Fl.bits 0, Fl.bits 0)) :: Res.sl Ek.c128 24 v35 q23.1 :: Res.sl Ek.c128 24 v6 (mk0 (65 : Int) (Fl.bits 0, Fl.bits 0)) :: Res.sl Ek.c128 24 v15 q8.1 :: Res.sl Ek.c128 24 v3 q1.1 :: ow) := hp
      refine ⟨_, rfl, ?_⟩
      clear hf; intro a hf
      refine st_nil hf (th_n ⟨fun _ _ => ⟨_, hp⟩, ?_⟩)
      refine dr_take 3 (.tuple #[v35, .int .i64 q23.2]) rfl (by kernel_rfl) (by kernel_rfl) (by kernel_rfl) (by kernel_rfl) rfl rfl hf (by decide) rfl (fun w hp => ?_) ⟨_, hp⟩ ?_
      · obtain ⟨_, hp⟩ := hp
        refine st_move hf rfl rfl (by decide) ?_
        clear hf; intro a ha hf
        exact st_nil hf (th_n ⟨ha, rfl⟩)
      clear hf; intro a hf
      refine dr_take 4 (v35) rfl (by kernel_rfl) (by kernel_rfl) (by kernel_rfl) (by kernel_rfl) rfl rfl hf (by decide) rfl (fun w hp => ?_) ⟨_, hp⟩ ?_
      · obtain ⟨_, hp⟩ := hp
        refine st_extract hf (by decide) rfl rfl rfl ?_
        clear hf; intro a ha hf
        exact st_nil hf (th_n ⟨ha, rfl⟩)
      clear hf; intro a hf
      refine dr_take 5 (.int .i64 q23.2) rfl (by kernel_rfl) (by kernel_rfl) (by kernel_rfl) (by kernel_rfl) rfl rfl hf (by decide) rfl (fun w hp => ?_) ⟨_, hp⟩ ?_
      · obtain ⟨_, hp⟩ := hp
        refine st_extract hf (by decide) rfl rfl rfl ?_
        clear hf; intro a ha hf
        exact st_nil hf (th_n ⟨ha, rfl⟩)
      clear hf; intro a hf
      refine dr_take 6 (v35) rfl (by kernel_rfl) (by kernel_rfl) (by kernel_rfl) (by kernel_rfl) rfl rfl hf (by decide) rfl (fun w hp => ?_) ⟨_, hp⟩ ?_
      · obtain ⟨_, hp⟩ := hp
        refine st_assign hf rfl rfl (by decide) ?_
        clear hf; intro a ha hf
        exact st_nil hf (th_n ⟨ha, rfl⟩)
      clear hf; intro a hf
      refine dr_take 7 (.int .i64 q23.2) rfl (by kernel_rfl) (by kernel_rfl) (by kernel_rfl) (by kernel_rfl) rfl rfl hf (by decide) rfl (fun w hp => ?_) ⟨_, hp⟩ ?_
      · obtain ⟨_, hp⟩ := hp
        refine st_assign hf rfl rfl (by decide) ?_
        clear hf; intro a ha hf
        exact st_nil hf (th_n ⟨ha, rfl⟩)
      clear hf; intro a hf
      refine dr_end (by kernel_rfl) ?_ _
      exact ⟨v18, v21, v35, hf.sub ⟨rfl, rfl, rfl, rfl, trivial⟩, hp⟩
    · skip
      refine st_make (E := Ek.c128) hf (by decide) elt24 Try.underlying41 (by decide) hp rfl rfl rfl hc20.1 hc20.2.1 hc20.2.2 ?_
      clear hf; intro a w v21 hf hp0; clear hp; have hp := hp0; clear hp0
      replace hp : Hp _ _ _ (Res.sl Ek.c128 24 v21 (List.replicate ((3 : Int)).toNat (Fl.bits 0, Fl.bits 0)) :: Res.sl Ek.c128 24 v6 (mk0 (65 : Int) (Fl.bits 0, Fl.bits 0)) :: Res.sl Ek.c128 24 v15 q8.1 :: Res.sl Ek.c128 24 v3 q1.1 :: ow) := hp
      refine st_nil hf (th_n ⟨fun _ _ => ⟨_, hp⟩, ?_⟩)
      refine dr_one 0 rfl (by kernel_rfl) ?_
      refine st_make (E := Ek.c128) hf (by decide) elt24 Try.underlying41 (by decide) hp rfl rfl rfl hc17.1 hc17.2.1 hc17.2.2 ?_
      clear hf; intro a w v18 hf hp0; clear hp; have hp := hp0; clear hp0
      replace hp : Hp _ _ _ (Res.sl Ek.c128 24 v18 (List.replicate ((64 : Int)).toNat (Fl.bits 0, Fl.bits 0)) :: Res.sl Ek.c128 24 v21 (List.replicate ((3 : Int)).toNat (Fl.bits 0, Fl.bits 0)) :: Res.sl Ek.c128 24 v6 (mk0 (65 : Int) (Fl.bits 0, Fl.bits 0)) :: Res.sl Ek.c128 24 v15 q8.1 :: Res.sl Ek.c128 24 v3 q1.1 :: ow) := hp
      refine st_nil hf (th_n ⟨fun _ _ => ⟨_, hp⟩, ?_⟩)
      refine dr_one 2 rfl (by kernel_rfl) ?_
      obtain ⟨S25, hp26, rd27, up28, bk29⟩ := Hp.lendS hp (i := 0) rfl
      obtain ⟨S30, hp31, rd32, up33, bk34⟩ := Hp.lendS hp26 (i := 0) rfl
      refine st_call hf (by decide) Try.func28 rfl rfl rfl rfl rfl (f_plane_Filter_c hp31 _ _ ((rd27.now hp26).mono up33) _ _ rd32 hcall24) ?_
      rintro _ w ⟨v35, rfl, hp0⟩
      have hp0 := bk34 _ _ hp0
      have hp0 := bk29 _ _ hp0
      clear hp; have hp := hp0; clear hp0
      replace hp : Hp _ _ _ (Res.sl Ek.c128 24 v18 (List.replicate ((64 : Int)).toNat (Fl.bits 0, Fl.bits 0)) :: Res.sl Ek.c128 24 v21 (List.replicate ((3 : Int)).toNat (Fl.bits 0, Fl.bits 0)) :: Res.sl Ek.c128 24 v35 q23.1 :: Res.sl Ek.c128 24 v6 (mk0 (65 : Int) (Fl.bits 0, Fl.bits 0)) :: Res.sl Ek.c128 24 v15 q8.1 :: Res.sl Ek.c128 24 v3 q1.1 :: ow) := hp
      refine ⟨_, rfl, ?_⟩
      clear hf; intro a hf
      refine st_nil hf (th_n ⟨fun _ _ => ⟨_, hp⟩, ?_⟩)
      refine dr_take 3 (.tuple #[v35, .int .i64 q23.2]) rfl (by kernel_rfl) (by kernel_rfl) (by kernel_rfl) (by kernel_rfl) rfl rfl hf (by decide) rfl (fun w hp => ?_) ⟨_, hp⟩ ?_
      · obtain ⟨_, hp⟩ := hp
        refine st_move hf rfl rfl (by decide) ?_
        clear hf; intro a ha hf
        exact st_nil hf (th_n ⟨ha, rfl⟩)
      clear hf; intro a hf
      refine dr_take 4 (v35) rfl (by kernel_rfl) (by kernel_rfl) (by kernel_rfl) (by kernel_rfl) rfl rfl hf (by decide) rfl (fun w hp => ?_) ⟨_, hp⟩ ?_
      · obtain ⟨_, hp⟩ := hp
        refine st_extract hf (by decide) rfl rfl rfl ?_
        clear hf; intro a ha hf
        exact st_nil hf (th_n ⟨ha, rfl⟩)
      clear hf; intro a hf
      refine dr_take 5 (.int .i64 q23.2) rfl (by kernel_rfl) (by kernel_rfl) (by kernel_rfl) (by kernel_rfl) rfl rfl hf (by decide) rfl (fun w hp => ?_) ⟨_, hp⟩ ?_
      · obtain ⟨_, hp⟩ := hp
        refine st_extract hf (by decide) rfl rfl rfl ?_
        clear hf; intro a ha hf
        exact st_nil hf (th_n ⟨ha, rfl⟩)
      clear hf; intro a hf
      refine dr_take 6 (v35) rfl (by kernel_rfl) (by kernel_rfl) (by kernel_rfl) (by kernel_rfl) rfl rfl hf (by decide) rfl (fun w hp => ?_) ⟨_, hp⟩ ?_
      · obtain ⟨_, hp⟩ := hp
        refine st_assign hf rfl rfl (by decide) ?_
        clear hf; intro a ha hf
        exact st_nil hf (th_n ⟨ha, rfl⟩)
      clear hf; intro a hf
      refine dr_take 7 (.int .i64 q23.2) rfl (by kernel_rfl) (by kernel_rfl) (by kernel_rfl) (by kernel_rfl) rfl rfl hf (by decide) rfl (fun w hp => ?_) ⟨_, hp⟩ ?_
      · obtain ⟨_, hp⟩ := hp
        refine st_assign hf rfl rfl (by decide) ?_
        clear hf; intro a ha hf
        exact st_nil hf (th_n ⟨ha, rfl⟩)
      clear hf; intro a hf
      refine dr_end (by kernel_rfl) ?_ _
      exact ⟨v18, v21, v35, hf.sub ⟨rfl, rfl, rfl, rfl, trivial⟩, hp⟩
  rintro a w ⟨v18, v21, v35, hf, hp⟩
  refine th_n ?_
  refine wp_seq ?_
  obtain ⟨hc37, h⟩ := chk h
  obtain ⟨hc40, h⟩ := chk h
  obtain ⟨q43, hcall44, h⟩ := bnd h
  refine wp_cutN (fun a w => ∃ (v38 : Value) (v41 : Value) (v55 : Value), Fr 180 a [(2, .int .i64 q1.2), (4, .int .i64 q8.2), (5, v35), (6, .int .i64 q23.2), (8, .int .i64 q43.2)] ∧ Hp S w0 w (Res.sl Ek.c128 24 v38 (List.replicate ((1 : Int)).toNat (Fl.bits 0, Fl.bits 0)) :: Res.sl Ek.c128 24 v41 (mk0 (65537 : Int) (Fl.bits 0, Fl.bits 0)) :: Res.sl Ek.c128 24 v55 q43.1 :: Res.sl Ek.c128 24 v18 (List.replicate ((64 : Int)).toNat (Fl.bits 0, Fl.bits 0)) :: Res.sl Ek.c128 24 v21 (List.replicate ((3 : Int)).toNat (Fl.bits 0, Fl.bits 0)) :: Res.sl Ek.c128 24 v35 q23.1 :: Res.sl Ek.c128 24 v6 (mk0 (65 : Int) (Fl.bits 0, Fl.bits 0)) :: Res.sl Ek.c128 24 v15 q8.1 :: Res.sl Ek.c128 24 v3 q1.1 :: ow)) ?_ ?_
  · have hp := hp.same (Same.drew w)
    refine dr_begin' (fun a w => ∃ (v38 : Value) (v41 : Value) (v55 : Value), Fr 180 a [(2, .int .i64 q1.2), (4, .int .i64 q8.2), (5, v35), (6, .int .i64 q23.2), (8, .int .i64 q43.2)] ∧ Hp S w0 w (Res.sl Ek.c128 24 v38 (List.replicate ((1 : Int)).toNat (Fl.bits 0, Fl.bits 0)) :: Res.sl Ek.c128 24 v41 (mk0 (65537 : Int) (Fl.bits 0, Fl.bits 0)) :: Res.sl Ek.c128 24 v55 q43.1 :: Res.sl Ek.c128 24 v18 (List.replicate ((64 : Int)).toNat (Fl.bits 0, Fl.bits 0)) :: Res.sl Ek.c128 24 v21 (List.replicate ((3 : Int)).toNat (Fl.bits 0, Fl.bits 0)) :: Res.sl Ek.c128 24 v35 q23.1 :: Res.sl Ek.c128 24 v6 (mk0 (65 : Int) (Fl.bits 0, Fl.bits 0)) :: Res.sl Ek.c128 24 v15 q8.1 :: Res.sl Ek.c128 24 v3 q1.1 :: ow)) (fun w' => ∃ l, Hp S w0 w' l) [] (by kernel_rfl) ?_
    refine dr_two 0 1 rfl rfl (by kernel_rfl) ?_ ?_
    · skip
      refine st_make (E := Ek.c128) hf (by decide) elt24 Try.underlying41 (by decide) hp rfl rfl rfl hc37.1 hc37.2.1 hc37.2.2 ?_
      clear hf; intro a w v38 hf hp0; clear hp; have hp := hp0; clear hp0
      replace hp : Hp _ _ _ (Res.sl Ek.c128 24 v38 (List.replicate ((1 : Int)).toNat (Fl.bits 0, Fl.bits 0)) :: Res.sl Ek.c128 24 v18 (List.replicate ((64 : Int)).toNat (Fl.bits 0, Fl.bits 0)) :: Res.sl Ek.c128 24 v21 (List.replicate ((3 : Int)).toNat (Fl.bits 0, Fl.bits 0)) :: Res.sl Ek.c128 24 v35 q23.1 :: Res.sl Ek.c128 24 v6 (mk0 (65 : Int) (Fl.bits 0, Fl.bits 0)) :: Res.sl Ek.c128 24 v15 q8.1 :: Res.sl Ek.c128 24 v3 q1.1 :: ow) := hp
      refine st_nil hf (th_n ⟨fun _ _ => ⟨_, hp⟩, ?_⟩)
      refine dr_one 1 rfl (by kernel_rfl) ?_
      refine st_make (E := Ek.c128) hf (by decide) elt24 Try.underlying41 (by decide) hp rfl rfl rfl hc40.1 hc40.2.1 hc40.2.2 ?_
      clear hf; intro a w v41 hf hp0; clear hp; have hp := hp0; clear hp0
      rw [← mk0_eq] at hp
      replace hp : Hp _ _ _ (Res.sl Ek.c128 24 v41 (mk0 (65537 : Int) (Fl.bits 0, Fl.bits 0)) :: Res.sl Ek.c128 24 v38 (List.replicate ((1 : Int)).toNat (Fl.bits 0, Fl.bits 0)) :: Res.sl Ek.c128 24 v18 (List.replicate ((64 : Int)).toNat (Fl.bits 0, Fl.bits 0)) :: Res.sl Ek.c128 24 v21 (List.replicate ((3 : Int)).toNat (Fl.bits 0, Fl.bits 0)) :: Res.sl Ek.c128 24 v35 q23.1 :: Res.sl Ek.c128 24 v6 (mk0 (65 : Int) (Fl.bits 0, Fl.bits 0)) :: Res.sl Ek.c128 24 v15 q8.1 :: Res.sl Ek.c128 24 v3 q1.1 :: ow) := hp
      refine st_nil hf (th_n ⟨fun _ _ => ⟨_, hp⟩, ?_⟩)
      refine dr_one 2 rfl (by kernel_rfl) ?_
      obtain ⟨S45, hp46, rd47, up48, bk49⟩ := Hp.lendS hp (i := 1) rfl
      obtain ⟨S50, hp51, rd52, up53, bk54⟩ := Hp.lendS hp46 (i := 0) rfl
      refine st_call hf (by decide) Try.func28 rfl rfl rfl rfl rfl (f_plane_Filter_c hp51 _ _ ((rd47.now hp46).mono up53) _ _ rd52 hcall44) ?_
      rintro _ w ⟨v55, rfl, hp0⟩
      have hp0 := bk54 _ _ hp0
      have hp0 := bk49 _ _ hp0
      clear hp; have hp := hp0; clear hp0
      replace hp : Hp _ _ _ (Res.sl Ek.c128 24 v38 (List.replicate ((1 : Int)).toNat (Fl.bits 0, Fl.bits 0)) :: Res.sl Ek.c128 24 v41 (mk0 (65537 : Int) (Fl.bits 0, Fl.bits 0)) :: Res.sl Ek.c128 24 v55 q43.1 :: Res.sl Ek.c128 24 v18 (List.replicate ((64 : Int)).toNat (Fl.bits 0, Fl.bits 0)) :: Res.sl Ek.c128 24 v21 (List.replicate ((3 : Int)).toNat (Fl.bits 0, Fl.bits 0)) :: Res.sl Ek.c128 24 v35 q23.1 :: Res.sl Ek.c128 24 v6 (mk0 (65 : Int) (Fl.bits 0, Fl.bits 0)) :: Res.sl Ek.c128 24 v15 q8.1 :: Res.sl Ek.c128 24 v3 q1.1 :: ow) := hp
      refine ⟨_, rfl, ?_⟩
      clear hf; intro a hf
      refine st_nil hf (th_n ⟨fun _ _ => ⟨_, hp⟩, ?_⟩)
      refine dr_take 3 (.tuple #[v55, .int .i64 q43.2]) rfl (by kernel_rfl) (by kernel_rfl) (by kernel_rfl) (by kernel_rfl) rfl rfl hf (by decide) rfl (fun w hp => ?_) ⟨_, hp⟩ ?_
      · obtain ⟨_, hp⟩ := hp
        refine st_move hf rfl rfl (by decide) ?_
        clear hf; intro a ha hf
        exact st_nil hf (th_n ⟨ha, rfl⟩)
      clear hf; intro a hf
      refine dr_take 4 (v55) rfl (by kernel_rfl) (by kernel_rfl) (by kernel_rfl) (by kernel_rfl) rfl rfl hf (by decide) rfl (fun w hp => ?_) ⟨_, hp⟩ ?_
      · obtain ⟨_, hp⟩ := hp
        refine st_extract hf (by decide) rfl rfl rfl ?_
        clear hf; intro a ha hf
        exact st_nil hf (th_n ⟨ha, rfl⟩)
      clear hf; intro a hf
      refine dr_take 5 (.int .i64 q43.2) rfl (by kernel_rfl) (by kernel_rfl) (by kernel_rfl) (by kernel_rfl) rfl rfl hf (by decide) rfl (fun w hp => ?_) ⟨_, hp⟩ ?_
      · obtain ⟨_, hp⟩ := hp
        refine st_extract hf (by decide) rfl rfl rfl ?_
        clear hf; intro a ha hf
        exact st_nil hf (th_n ⟨ha, rfl⟩)
      clear hf; intro a hf
      refine dr_take 6 (v55) rfl (by kernel_rfl) (by kernel_rfl) (by kernel_rfl) (by kernel_rfl) rfl rfl hf (by decide) rfl (fun w hp => ?_) ⟨_, hp⟩ ?_
      · obtain ⟨_, hp⟩ := hp
        refine st_assign hf rfl rfl (by decide) ?_
        clear hf; intro a ha hf
        exact st_nil hf (th_n ⟨ha, rfl⟩)
      clear hf; intro a hf
      refine dr_take 7 (.int .i64 q43.2) rfl (by kernel_rfl) (by kernel_rfl) (by kernel_rfl) (by kernel_rfl) rfl rfl hf (by decide) rfl (fun w hp => ?_) ⟨_, hp⟩ ?_
      · obtain ⟨_, hp⟩ := hp
        refine st_assign hf rfl rfl (by decide) ?_
        clear hf; intro a ha hf
        exact st_nil hf (th_n ⟨ha, rfl⟩)
      clear hf; intro a hf
      refine dr_end (by kernel_rfl) ?_ _
      exact ⟨v38, v41, v55, hf.sub ⟨rfl, rfl, rfl, rfl, rfl, trivial⟩, hp⟩
    · skip
      refine st_make (E := Ek.c128) hf (by decide) elt24 Try.underlying41 (by decide) hp rfl rfl rfl hc40.1 hc40.2.1 hc40.2.2 ?_
      clear hf; intro a w v41 hf hp0; clear hp; have hp := hp0; clear hp0
      rw [← mk0_eq] at hp
      replace hp : Hp _ _ _ (Res.sl Ek.c128 24 v41 (mk0 (65537 : Int) (Fl.bits 0, Fl.bits 0)) :: Res.sl Ek.c128 24 v18 (List.replicate ((64 : Int)).toNat (Fl.bits 0, Fl.bits 0)) :: Res.sl Ek.c128 24 v21 (List.replicate ((3 : Int)).toNat (Fl.bits 0, Fl.bits 0)) :: Res.sl Ek.c128 24 v35 q23.1 :: Res.sl Ek.c128 24 v6 (mk0 (65 : Int) (Fl.bits 0, Fl.bits 0)) :: Res.sl Ek.c128 24 v15 q8.1 :: Res.sl Ek.c128 24 v3 q1.1 :: ow) := hp
      refine st_nil hf (th_n ⟨fun _ _ => ⟨_, hp⟩, ?_⟩)
      refine dr_one 0 rfl (by kernel_rfl) ?_
      refine st_make (E := Ek.c128) hf (by decide) elt24 Try.underlying41 (by decide) hp rfl rfl rfl hc37.1 hc37.2.1 hc37.2.2 ?_
      clear hf; intro a w v38 hf hp0; clear hp; have hp := hp0; clear hp0
      replace hp : Hp _ _ _ (Res.sl Ek.c128 24 v38 (List.replicate ((1 : Int)).toNat (Fl.bits 0, Fl.bits 0)) :: Res.sl Ek.c128 24 v41 (mk0 (65537 : Int) (Fl.bits 0, Fl.bits 0)) :: Res.sl Ek.c128 24 v18 (List.replicate ((64 : Int)).toNat (Fl.bits 0, Fl.bits 0)) :: Res.sl Ek.c128 24 v21 (List.replicate ((3 : Int)).toNat (Fl.bits 0, Fl.bits 0)) :: Res.sl Ek.c128 24 v35 q23.1 :: Res.sl Ek.c128 24 v6 (mk0 (65 : Int) (Fl.bits 0, Fl.bits 0)) :: Res.sl Ek.c128 24 v15 q8.1 :: Res.sl Ek.c128 24 v3 q1.1 :: ow) := hp
      refine st_nil hf (th_n ⟨fun _ _ => ⟨_, hp⟩, ?_⟩)
      refine dr_one 2 rfl (by kernel_rfl) ?_
      obtain ⟨S45, hp46, rd47, up48, bk49⟩ := Hp.lendS hp (i := 0) rfl
      obtain ⟨S50, hp51, rd52, up53, bk54⟩ := Hp.lendS hp46 (i := 0) rfl
      refine st_call hf (by decide) Try.func28 rfl rfl rfl rfl rfl (f_plane_Filter_c hp51 _ _ ((rd47.now hp46).mono up53) _ _ rd52 hcall44) ?_
      rintro _ w ⟨v55, rfl, hp0⟩
      have hp0 := bk54 _ _ hp0
      have hp0 := bk49 _ _ hp0
      clear hp; have hp := hp0; clear hp0
      replace hp : Hp _ _ _ (Res.sl Ek.c128 24 v38 (List.replicate ((1 : Int)).toNat (Fl.bits 0, Fl.bits 0)) :: Res.sl Ek.c128 24 v41 (mk0 (65537 : Int) (Fl.bits 0, Fl.bits 0)) :: Res.sl Ek.c128 24 v55 q43.1 :: Res.sl Ek.c128 24 v18 (List.replicate ((64 : Int)).toNat (Fl.bits 0, Fl.bits 0)) :: Res.sl Ek.c128 24 v21 (List.replicate ((3 : Int)).toNat (Fl.bits 0, Fl.bits 0)) :: Res.sl Ek.c128 24 v35 q23.1 :: Res.sl Ek.c128 24 v6 (mk0 (65 : Int) (Fl.bits 0, Fl.bits 0)) :: Res.sl Ek.c128 24 v15 q8.1 :: Res.sl Ek.c128 24 v3 q1.1 :: ow) := hp
      refine ⟨_, rfl, ?_⟩
      clear hf; intro a hf
      refine st_nil hf (th_n ⟨fun _ _ => ⟨_, hp⟩, ?_⟩)
      refine dr_take 3 (.tuple #[v55, .int .i64 q43.2]) rfl (by kernel_rfl) (by kernel_rfl) (by kernel_rfl) (by kernel_rfl) rfl rfl hf (by decide) rfl (fun w hp => ?_) ⟨_, hp⟩ ?_
      · obtain ⟨_, hp⟩ := hp
        refine st_move hf rfl rfl (by decide) ?_
        clear hf; intro a ha hf
        exact st_nil hf (th_n ⟨ha, rfl⟩)
      clear hf; intro a hf
      refine dr_take 4 (v55) rfl (by kernel_rfl) (by kernel_rfl) (by kernel_rfl) (by kernel_rfl) rfl rfl hf (by decide) rfl (fun w hp => ?_) ⟨_, hp⟩ ?_
      · obtain ⟨_, hp⟩ := hp
        refine st_extract hf (by decide) rfl rfl rfl ?_
        clear hf; intro a ha hf
        exact st_nil hf (th_n ⟨ha, rfl⟩)
      clear hf; intro a hf
      refine dr_take 5 (.int .i64 q43.2) rfl (by kernel_rfl) (by kernel_rfl) (by kernel_rfl) (by kernel_rfl) rfl rfl hf (by decide) rfl (fun w hp => ?_) ⟨_, hp⟩ ?_
      · obtain ⟨_, hp⟩ := hp
        refine st_extract hf (by decide) rfl rfl rfl ?_
        clear hf; intro a ha hf
        exact st_nil hf (th_n ⟨ha, rfl⟩)
      clear hf; intro a hf
      refine dr_take 6 (v55) rfl (by kernel_rfl) (by kernel_rfl) (by kernel_rfl) (by kernel_rfl) rfl rfl hf (by decide) rfl (fun w hp => ?_) ⟨_, hp⟩ ?_
      · obtain ⟨_, hp⟩ := hp
        refine st_assign hf rfl rfl (by decide) ?_
        clear hf; intro a ha hf
        exact st_nil hf (th_n ⟨ha, rfl⟩)
      clear hf; intro a hf
      refine dr_take 7 (.int .i64 q43.2) rfl (by kernel_rfl) (by kernel_rfl) (by kernel_rfl) (by kernel_rfl) rfl rfl hf (by decide) rfl (fun w hp => ?_) ⟨_, hp⟩ ?_
      · obtain ⟨_, hp⟩ := hp
        refine st_assign hf rfl rfl (by decide) ?_
        clear hf; intro a ha hf
        exact st_nil hf (th_n ⟨ha, rfl⟩)
      clear hf; intro a hf
      refine dr_end (by kernel_rfl) ?_ _
      exact ⟨v38, v41, v55, hf.sub ⟨rfl, rfl, rfl, rfl, rfl, trivial⟩, hp⟩
  rintro a w ⟨v38, v41, v55, hf, hp⟩
  refine th_n ?_
  refine wp_seq ?_
  refine wp_reg ?_
  refine st_buildA (vals := [(0, .int .i64 (1073741824 : Int)), (1, .int .i64 (-1073741824 : Int))]) (cells := [.int .i64 (1073741824 : Int), .int .i64 (-1073741824 : Int)]) hf (by decide) rfl (by simp [hf.ev (x := (Operand.const (.int .i64 (1073741824 : Int)))) rfl, hf.ev (x := (Operand.const (.int .i64 (-1073741824 : Int)))) rfl]) (fun w => by kernel_rfl) ?_
  clear hf; intro a ha hf; clear ha
  refine st_alloc (cs := [.int .i64 (0 : Int), .int .i64 (0 : Int)]) (zv := .agg #[.int .i64 (0 : Int), .int .i64 (0 : Int)]) hf (by decide) (by kernel_rfl) rfl hp rfl ?_
  clear hf; intro a w v57 hf hp0; clear hp; have hp := hp0; clear hp0
  replace hp : Hp _ _ _ (Res.obj 56 v57 [.int .i64 (0 : Int), .int .i64 (0 : Int)] :: Res.sl Ek.c128 24 v38 (List.replicate ((1 : Int)).toNat (Fl.bits 0, Fl.bits 0)) :: Res.sl Ek.c128 24 v41 (mk0 (65537 : Int) (Fl.bits 0, Fl.bits 0)) :: Res.sl Ek.c128 24 v55 q43.1 :: Res.sl Ek.c128 24 v18 (List.replicate ((64 : Int)).toNat (Fl.bits 0, Fl.bits 0)) :: Res.sl Ek.c128 24 v21 (List.replicate ((3 : Int)).toNat (Fl.bits 0, Fl.bits 0)) :: Res.sl Ek.c128 24 v35 q23.1 :: Res.sl Ek.c128 24 v6 (mk0 (65 : Int) (Fl.bits 0, Fl.bits 0)) :: Res.sl Ek.c128 24 v15 q8.1 :: Res.sl Ek.c128 24 v3 q1.1 :: ow) := hp
  refine st_stO (us := [.int .i64 (1073741824 : Int), .int .i64 (-1073741824 : Int)]) hf hp (i := 0) rfl rfl rfl rfl rfl (by rfl) (by kernel_rfl) (Nat.le_of_ble_eq_true rfl) ?_
  clear hf; intro a w hf hp0; clear hp; have hp := hp0; clear hp0
  replace hp : Hp _ _ _ (Res.obj 56 v57 [.int .i64 (1073741824 : Int), .int .i64 (-1073741824 : Int)] :: Res.sl Ek.c128 24 v38 (List.replicate ((1 : Int)).toNat (Fl.bits 0, Fl.bits 0)) :: Res.sl Ek.c128 24 v41 (mk0 (65537 : Int) (Fl.bits 0, Fl.bits 0)) :: Res.sl Ek.c128 24 v55 q43.1 :: Res.sl Ek.c128 24 v18 (List.replicate ((64 : Int)).toNat (Fl.bits 0, Fl.bits 0)) :: Res.sl Ek.c128 24 v21 (List.replicate ((3 : Int)).toNat (Fl.bits 0, Fl.bits 0)) :: Res.sl Ek.c128 24 v35 q23.1 :: Res.sl Ek.c128 24 v6 (mk0 (65 : Int) (Fl.bits 0, Fl.bits 0)) :: Res.sl Ek.c128 24 v15 q8.1 :: Res.sl Ek.c128 24 v3 q1.1 :: ow) := hp
  refine st_nil hf ?_
  refine th_n ?_
  refine wp_seq ?_
  refine wp_reg ?_
  refine st_buildA (vals := [(0, .int .i64 (1073741825 : Int))]) (cells := [.int .i64 (1073741825 : Int), .int .i64 (0 : Int)]) hf (by decide) rfl (by simp [hf.ev (x := (Operand.const (.int .i64 (1073741825 : Int)))) rfl]) (fun w => by kernel_rfl) ?_
  clear hf; intro a ha hf; clear ha
  refine st_alloc (cs := [.int .i64 (0 : Int), .int .i64 (0 : Int)]) (zv := .agg #[.int .i64 (0 : Int), .int .i64 (0 : Int)]) hf (by decide) (by kernel_rfl) rfl hp rfl ?_
  clear hf; intro a w v59 hf hp0; clear hp; have hp := hp0; clear hp0
  replace hp : Hp _ _ _ (Res.obj 56 v59 [.int .i64 (0 : Int), .int .i64 (0 : Int)] :: Res.obj 56 v57 [.int .i64 (1073741824 : Int), .int .i64 (-1073741824 : Int)] :: Res.sl Ek.c128 24 v38 (List.replicate ((1 : Int)).toNat (Fl.bits 0, Fl.bits 0)) :: Res.sl Ek.c128 24 v41 (mk0 (65537 : Int) (Fl.bits 0, Fl.bits 0)) :: Res.sl Ek.c128 24 v55 q43.1 :: Res.sl Ek.c128 24 v18 (List.replicate ((64 : Int)).toNat (Fl.bits 0, Fl.bits 0)) :: Res.sl Ek.c128 24 v21 (List.replicate ((3 : Int)).toNat (Fl.bits 0, Fl.bits 0)) :: Res.sl Ek.c128 24 v35 q23.1 :: Res.sl Ek.c128 24 v6 (mk0 (65 : Int) (Fl.bits 0, Fl.bits 0)) :: Res.sl Ek.c128 24 v15 q8.1 :: Res.sl Ek.c128 24 v3 q1.1 :: ow) := hp
  refine st_stO (us := [.int .i64 (1073741825 : Int), .int .i64 (0 : Int)]) hf hp (i := 0) rfl rfl rfl rfl rfl (by rfl) (by kernel_rfl) (Nat.le_of_ble_eq_true rfl) ?_
  clear hf; intro a w hf hp0; clear hp; have hp := hp0; clear hp0
  replace hp : Hp _ _ _ (Res.obj 56 v59 [.int .i64 (1073741825 : Int), .int .i64 (0 : Int)] :: Res.obj 56 v57 [.int .i64 (1073741824 : Int), .int .i64 (-1073741824 : Int)] :: Res.sl Ek.c128 24 v38 (List.replicate ((1 : Int)).toNat (Fl.bits 0, Fl.bits 0)) :: Res.sl Ek.c128 24 v41 (mk0 (65537 : Int) (Fl.bits 0, Fl.bits 0)) :: Res.sl Ek.c128 24 v55 q43.1 :: Res.sl Ek.c128 24 v18 (List.replicate ((64 : Int)).toNat (Fl.bits 0, Fl.bits 0)) :: Res.sl Ek.c128 24 v21 (List.replicate ((3 : Int)).toNat (Fl.bits 0, Fl.bits 0)) :: Res.sl Ek.c128 24 v35 q23.1 :: Res.sl Ek.c128 24 v6 (mk0 (65 : Int) (Fl.bits 0, Fl.bits 0)) :: Res.sl Ek.c128 24 v15 q8.1 :: Res.sl Ek.c128 24 v3 q1.1 :: ow) := hp
  refine st_nil hf ?_
  refine th_n ?_
  refine wp_seq ?_
  refine wp_reg ?_
  refine st_ldOA (m := 2) (us := [.int .i64 (1073741824 : Int), .int .i64 (-1073741824 : Int)]) hf (by decide) (by kernel_rfl) rfl rfl (hp.ob (i := 1) rfl) rfl rfl ?_
  clear hf; intro a ha hf; clear ha
  obtain ⟨q61, hcall62, h⟩ := bnd h
  refine st_call hf (by decide) Try.func35 rfl rfl rfl rfl rfl (f_plane_Gauss_Norm_c hp _ _ hcall62) ?_
  rintro _ w ⟨rfl, hp0⟩
  clear hp; have hp := hp0; clear hp0
  replace hp : Hp _ _ _ (Res.obj 56 v59 [.int .i64 (1073741825 : Int), .int .i64 (0 : Int)] :: Res.obj 56 v57 [.int .i64 (1073741824 : Int), .int .i64 (-1073741824 : Int)] :: Res.sl Ek.c128 24 v38 (List.replicate ((1 : Int)).toNat (Fl.bits 0, Fl.bits 0)) :: Res.sl Ek.c128 24 v41 (mk0 (65537 : Int) (Fl.bits 0, Fl.bits 0)) :: Res.sl Ek.c128 24 v55 q43.1 :: Res.sl Ek.c128 24 v18 (List.replicate ((64 : Int)).toNat (Fl.bits 0, Fl.bits 0)) :: Res.sl Ek.c128 24 v21 (List.replicate ((3 : Int)).toNat (Fl.bits 0, Fl.bits 0)) :: Res.sl Ek.c128 24 v35 q23.1 :: Res.sl Ek.c128 24 v6 (mk0 (65 : Int) (Fl.bits 0, Fl.bits 0)) :: Res.sl Ek.c128 24 v15 q8.1 :: Res.sl Ek.c128 24 v3 q1.1 :: ow) := hp
  refine ⟨_, rfl, ?_⟩
  clear hf; intro a hf
  refine st_move hf rfl rfl (by decide) ?_
  clear hf; intro a ha hf; clear ha
  refine st_extract hf (by decide) rfl rfl rfl ?_
  clear hf; intro a ha hf; clear ha
  refine st_extract hf (by decide) rfl rfl rfl ?_
  clear hf; intro a ha hf; clear ha
  refine st_assign hf rfl rfl (by decide) ?_
  clear hf; intro a ha hf; clear ha
  refine st_assign hf rfl rfl (by decide) ?_
  clear hf; intro a ha hf; clear ha
  refine st_nil hf ?_
  refine th_n ?_
  refine wp_seq ?_
  refine wp_reg ?_
  refine st_ldOA (m := 2) (us := [.int .i64 (1073741825 : Int), .int .i64 (0 : Int)]) hf (by decide) (by kernel_rfl) rfl rfl (hp.ob (i := 0) rfl) rfl rfl ?_
  clear hf; intro a ha hf; clear ha
  obtain ⟨q63, hcall64, h⟩ := bnd h
  refine st_call hf (by decide) Try.func35 rfl rfl rfl rfl rfl (f_plane_Gauss_Norm_c hp _ _ hcall64) ?_
  rintro _ w ⟨rfl, hp0⟩
  clear hp; have hp := hp0; clear hp0
  replace hp : Hp _ _ _ (Res.obj 56 v59 [.int .i64 (1073741825 : Int), .int .i64 (0 : Int)] :: Res.obj 56 v57 [.int .i64 (1073741824 : Int), .int .i64 (-1073741824 : Int)] :: Res.sl Ek.c128 24 v38 (List.replicate ((1 : Int)).toNat (Fl.bits 0, Fl.bits 0)) :: Res.sl Ek.c128 24 v41 (mk0 (65537 : Int) (Fl.bits 0, Fl.bits 0)) :: Res.sl Ek.c128 24 v55 q43.1 :: Res.sl Ek.c128 24 v18 (List.replicate ((64 : Int)).toNat (Fl.bits 0, Fl.bits 0)) :: Res.sl Ek.c128 24 v21 (List.replicate ((3 : Int)).toNat (Fl.bits 0, Fl.bits 0)) :: Res.sl Ek.c128 24 v35 q23.1 :: Res.sl Ek.c128 24 v6 (mk0 (65 : Int) (Fl.bits 0, Fl.bits 0)) :: Res.sl Ek.c128 24 v15 q8.1 :: Res.sl Ek.c128 24 v3 q1.1 :: ow) := hp
  refine ⟨_, rfl, ?_⟩
  clear hf; intro a hf
  refine st_move hf rfl rfl (by decide) ?_
  clear hf; intro a ha hf; clear ha
  refine st_extract hf (by decide) rfl rfl rfl ?_
  clear hf; intro a ha hf; clear ha
  refine st_extract hf (by decide) rfl rfl rfl ?_
  clear hf; intro a ha hf; clear ha
  refine st_assign hf rfl rfl (by decide) ?_
  clear hf; intro a ha hf; clear ha
  refine st_assign hf rfl rfl (by decide) ?_
  clear hf; intro a ha hf; clear ha
  refine st_nil hf ?_
  refine th_n ?_
  refine wp_seq ?_
  refine wp_reg ?_
  refine st_ldOA (m := 2) (us := [.int .i64 (1073741825 : Int), .int .i64 (0 : Int)]) hf (by decide) (by kernel_rfl) rfl rfl (hp.ob (i := 0) rfl) rfl rfl ?_
  clear hf; intro a ha hf; clear ha
  refine st_ldOA (m := 2) (us := [.int .i64 (1073741824 : Int), .int .i64 (-1073741824 : Int)]) hf (by decide) (by kernel_rfl) rfl rfl (hp.ob (i := 1) rfl) rfl rfl ?_
  clear hf; intro a ha hf; clear ha
  obtain ⟨q65, hcall66, h⟩ := bnd h
  refine st_call hf (by decide) Try.func32 rfl rfl rfl rfl rfl (f_plane_Gcd_c hp _ _ _ _ hcall66) ?_
  rintro _ w ⟨rfl, hp0⟩
  clear hp; have hp := hp0; clear hp0
  replace hp : Hp _ _ _ (Res.obj 56 v59 [.int .i64 (1073741825 : Int), .int .i64 (0 : Int)] :: Res.obj 56 v57 [.int .i64 (1073741824 : Int), .int .i64 (-1073741824 : Int)] :: Res.sl Ek.c128 24 v38 (List.replicate ((1 : Int)).toNat (Fl.bits 0, Fl.bits 0)) :: Res.sl Ek.c128 24 v41 (mk0 (65537 : Int) (Fl.bits 0, Fl.bits 0)) :: Res.sl Ek.c128 24 v55 q43.1 :: Res.sl Ek.c128 24 v18 (List.replicate ((64 : Int)).toNat (Fl.bits 0, Fl.bits 0)) :: Res.sl Ek.c128 24 v21 (List.replicate ((3 : Int)).toNat (Fl.bits 0, Fl.bits 0)) :: Res.sl Ek.c128 24 v35 q23.1 :: Res.sl Ek.c128 24 v6 (mk0 (65 : Int) (Fl.bits 0, Fl.bits 0)) :: Res.sl Ek.c128 24 v15 q8.1 :: Res.sl Ek.c128 24 v3 q1.1 :: ow) := hp
  refine ⟨_, rfl, ?_⟩
  clear hf; intro a hf
  refine st_move hf rfl rfl (by decide) ?_
  clear hf; intro a ha hf; clear ha
  refine st_extract hf (by decide) rfl rfl rfl ?_
  clear hf; intro a ha hf; clear ha
  refine st_extract hf (by decide) rfl rfl rfl ?_
  clear hf; intro a ha hf; clear ha
  refine st_alloc (cs := [.int .i64 (0 : Int), .int .i64 (0 : Int)]) (zv := .agg #[.int .i64 (0 : Int), .int .i64 (0 : Int)]) hf (by decide) (by kernel_rfl) rfl hp rfl ?_
  clear hf; intro a w v67 hf hp0; clear hp; have hp := hp0; clear hp0
  replace hp : Hp _ _ _ (Res.obj 56 v67 [.int .i64 (0 : Int), .int .i64 (0 : Int)] :: Res.obj 56 v59 [.int .i64 (1073741825 : Int), .int .i64 (0 : Int)] :: Res.obj 56 v57 [.int .i64 (1073741824 : Int), .int .i64 (-1073741824 : Int)] :: Res.sl Ek.c128 24 v38 (List.replicate ((1 : Int)).toNat (Fl.bits 0, Fl.bits 0)) :: Res.sl Ek.c128 24 v41 (mk0 (65537 : Int) (Fl.bits 0, Fl.bits 0)) :: Res.sl Ek.c128 24 v55 q43.1 :: Res.sl Ek.c128 24 v18 (List.replicate ((64 : Int)).toNat (Fl.bits 0, Fl.bits 0)) :: Res.sl Ek.c128 24 v21 (List.replicate ((3 : Int)).toNat (Fl.bits 0, Fl.bits 0)) :: Res.sl Ek.c128 24 v35 q23.1 :: Res.sl Ek.c128 24 v6 (mk0 (65 : Int) (Fl.bits 0, Fl.bits 0)) :: Res.sl Ek.c128 24 v15 q8.1 :: Res.sl Ek.c128 24 v3 q1.1 :: ow) := hp
  refine st_stO (us := [.int .i64 q65.1.1, .int .i64 q65.1.2]) hf hp (i := 0) rfl rfl rfl rfl rfl (by rfl) (by kernel_rfl) (Nat.le_of_ble_eq_true rfl) ?_
  clear hf; intro a w hf hp0; clear hp; have hp := hp0; clear hp0
  replace hp : Hp _ _ _ (Res.obj 56 v67 [.int .i64 q65.1.1, .int .i64 q65.1.2] :: Res.obj 56 v59 [.int .i64 (1073741825 : Int), .int .i64 (0 : Int)] :: Res.obj 56 v57 [.int .i64 (1073741824 : Int), .int .i64 (-1073741824 : Int)] :: Res.sl Ek.c128 24 v38 (List.replicate ((1 : Int)).toNat (Fl.bits 0, Fl.bits 0)) :: Res.sl Ek.c128 24 v41 (mk0 (65537 : Int) (Fl.bits 0, Fl.bits 0)) :: Res.sl Ek.c128 24 v55 q43.1 :: Res.sl Ek.c128 24 v18 (List.replicate ((64 : Int)).toNat (Fl.bits 0, Fl.bits 0)) :: Res.sl Ek.c128 24 v21 (List.replicate ((3 : Int)).toNat (Fl.bits 0, Fl.bits 0)) :: Res.sl Ek.c128 24 v35 q23.1 :: Res.sl Ek.c128 24 v6 (mk0 (65 : Int) (Fl.bits 0, Fl.bits 0)) :: Res.sl Ek.c128 24 v15 q8.1 :: Res.sl Ek.c128 24 v3 q1.1 :: ow) := hp
  refine st_assign hf rfl rfl (by decide) ?_
  clear hf; intro a ha hf; clear ha
  refine st_nil hf ?_
  refine th_n ?_
  refine wp_seq ?_
  refine wp_reg ?_
  refine st_ldOA (m := 2) (us := [.int .i64 (1073741824 : Int), .int .i64 (-1073741824 : Int)]) hf (by decide) (by kernel_rfl) rfl rfl (hp.ob (i := 2) rfl) rfl rfl ?_
  clear hf; intro a ha hf; clear ha
  obtain ⟨q69, hcall70, h⟩ := bnd h
  refine st_call hf (by decide) Try.func36 rfl rfl rfl rfl rfl (f_plane_Gauss_Class_c hp _ _ _ hcall70) ?_
  rintro _ w ⟨rfl, hp0⟩
  clear hp; have hp := hp0; clear hp0
  replace hp : Hp _ _ _ (Res.obj 56 v67 [.int .i64 q65.1.1, .int .i64 q65.1.2] :: Res.obj 56 v59 [.int .i64 (1073741825 : Int), .int .i64 (0 : Int)] :: Res.obj 56 v57 [.int .i64 (1073741824 : Int), .int .i64 (-1073741824 : Int)] :: Res.sl Ek.c128 24 v38 (List.replicate ((1 : Int)).toNat (Fl.bits 0, Fl.bits 0)) :: Res.sl Ek.c128 24 v41 (mk0 (65537 : Int) (Fl.bits 0, Fl.bits 0)) :: Res.sl Ek.c128 24 v55 q43.1 :: Res.sl Ek.c128 24 v18 (List.replicate ((64 : Int)).toNat (Fl.bits 0, Fl.bits 0)) :: Res.sl Ek.c128 24 v21 (List.replicate ((3 : Int)).toNat (Fl.bits 0, Fl.bits 0)) :: Res.sl Ek.c128 24 v35 q23.1 :: Res.sl Ek.c128 24 v6 (mk0 (65 : Int) (Fl.bits 0, Fl.bits 0)) :: Res.sl Ek.c128 24 v15 q8.1 :: Res.sl Ek.c128 24 v3 q1.1 :: ow) := hp
  refine ⟨_, rfl, ?_⟩
  clear hf; intro a hf
  refine st_move hf rfl rfl (by decide) ?_
  clear hf; intro a ha hf; clear ha
  refine st_extract hf (by decide) rfl rfl rfl ?_
  clear hf; intro a ha hf; clear ha
  refine st_extract hf (by decide) rfl rfl rfl ?_
  clear hf; intro a ha hf; clear ha
  refine st_assign hf rfl rfl (by decide) ?_
  clear hf; intro a ha hf; clear ha
  refine st_assign hf rfl rfl (by decide) ?_
  clear hf; intro a ha hf; clear ha
  refine st_nil hf ?_
  refine th_n ?_
  refine wp_seq ?_
  refine wp_reg ?_
  refine st_ldOA (m := 2) (us := [.int .i64 (1073741824 : Int), .int .i64 (-1073741824 : Int)]) hf (by decide) (by kernel_rfl) rfl rfl (hp.ob (i := 2) rfl) rfl rfl ?_
  clear hf; intro a ha hf; clear ha
  obtain ⟨q71, hcall72, h⟩ := bnd h
  refine st_call hf (by decide) Try.func36 rfl rfl rfl rfl rfl (f_plane_Gauss_Class_c hp _ _ _ hcall72) ?_
  rintro _ w ⟨rfl, hp0⟩
  clear hp; have hp := hp0; clear hp0
  replace hp : Hp _ _ _ (Res.obj 56 v67 [.int .i64 q65.1.1, .int .i64 q65.1.2] :: Res.obj 56 v59 [.int .i64 (1073741825 : Int), .int .i64 (0 : Int)] :: Res.obj 56 v57 [.int .i64 (1073741824 : Int), .int .i64 (-1073741824 : Int)] :: Res.sl Ek.c128 24 v38 (List.replicate ((1 : Int)).toNat (Fl.bits 0, Fl.bits 0)) :: Res.sl Ek.c128 24 v41 (mk0 (65537 : Int) (Fl.bits 0, Fl.bits 0)) :: Res.sl Ek.c128 24 v55 q43.1 :: Res.sl Ek.c128 24 v18 (List.replicate ((64 : Int)).toNat (Fl.bits 0, Fl.bits 0)) :: Res.sl Ek.c128 24 v21 (List.replicate ((3 : Int)).toNat (Fl.bits 0, Fl.bits 0)) :: Res.sl Ek.c128 24 v35 q23.1 :: Res.sl Ek.c128 24 v6 (mk0 (65 : Int) (Fl.bits 0, Fl.bits 0)) :: Res.sl Ek.c128 24 v15 q8.1 :: Res.sl Ek.c128 24 v3 q1.1 :: ow) := hp
  refine ⟨_, rfl, ?_⟩
  clear hf; intro a hf
  refine st_move hf rfl rfl (by decide) ?_
  clear hf; intro a ha hf; clear ha
  refine st_extract hf (by decide) rfl rfl rfl ?_
  clear hf; intro a ha hf; clear ha
  refine st_extract hf (by decide) rfl rfl rfl ?_
  clear hf; intro a ha hf; clear ha
  refine st_assign hf rfl rfl (by decide) ?_
  clear hf; intro a ha hf; clear ha
  refine st_assign hf rfl rfl (by decide) ?_
  clear hf; intro a ha hf; clear ha
  refine st_nil hf ?_
  refine th_n ?_
  refine wp_seq ?_
  refine wp_reg ?_
  obtain ⟨q73, hcall74, h⟩ := bnd h
  refine st_call hf (by decide) Try.func37 rfl rfl rfl rfl rfl (f_plane_First_c hp _ _ hcall74) ?_
  rintro _ w ⟨rfl, hp0⟩
  clear hp; have hp := hp0; clear hp0
  replace hp : Hp _ _ _ (Res.obj 56 v67 [.int .i64 q65.1.1, .int .i64 q65.1.2] :: Res.obj 56 v59 [.int .i64 (1073741825 : Int), .int .i64 (0 : Int)] :: Res.obj 56 v57 [.int .i64 (1073741824 : Int), .int .i64 (-1073741824 : Int)] :: Res.sl Ek.c128 24 v38 (List.replicate ((1 : Int)).toNat (Fl.bits 0, Fl.bits 0)) :: Res.sl Ek.c128 24 v41 (mk0 (65537 : Int) (Fl.bits 0, Fl.bits 0)) :: Res.sl Ek.c128 24 v55 q43.1 :: Res.sl Ek.c128 24 v18 (List.replicate ((64 : Int)).toNat (Fl.bits 0, Fl.bits 0)) :: Res.sl Ek.c128 24 v21 (List.replicate ((3 : Int)).toNat (Fl.bits 0, Fl.bits 0)) :: Res.sl Ek.c128 24 v35 q23.1 :: Res.sl Ek.c128 24 v6 (mk0 (65 : Int) (Fl.bits 0, Fl.bits 0)) :: Res.sl Ek.c128 24 v15 q8.1 :: Res.sl Ek.c128 24 v3 q1.1 :: ow) := hp
  refine ⟨_, rfl, ?_⟩
  clear hf; intro a hf
  refine st_move hf rfl rfl (by decide) ?_
  clear hf; intro a ha hf; clear ha
  refine st_extract hf (by decide) rfl rfl rfl ?_
  clear hf; intro a ha hf; clear ha
  refine st_extract hf (by decide) rfl rfl rfl ?_
  clear hf; intro a ha hf; clear ha
  refine st_alloc (cs := [.int .i64 (0 : Int), .int .i64 (0 : Int)]) (zv := .agg #[.int .i64 (0 : Int), .int .i64 (0 : Int)]) hf (by decide) (by kernel_rfl) rfl hp rfl ?_
  clear hf; intro a w v75 hf hp0; clear hp; have hp := hp0; clear hp0
  replace hp : Hp _ _ _ (Res.obj 56 v75 [.int .i64 (0 : Int), .int .i64 (0 : Int)] :: Res.obj 56 v67 [.int .i64 q65.1.1, .int .i64 q65.1.2] :: Res.obj 56 v59 [.int .i64 (1073741825 : Int), .int .i64 (0 : Int)] :: Res.obj 56 v57 [.int .i64 (1073741824 : Int), .int .i64 (-1073741824 : Int)] :: Res.sl Ek.c128 24 v38 (List.replicate ((1 : Int)).toNat (Fl.bits 0, Fl.bits 0)) :: Res.sl Ek.c128 24 v41 (mk0 (65537 : Int) (Fl.bits 0, Fl.bits 0)) :: Res.sl Ek.c128 24 v55 q43.1 :: Res.sl Ek.c128 24 v18 (List.replicate ((64 : Int)).toNat (Fl.bits 0, Fl.bits 0)) :: Res.sl Ek.c128 24 v21 (List.replicate ((3 : Int)).toNat (Fl.bits 0, Fl.bits 0)) :: Res.sl Ek.c128 24 v35 q23.1 :: Res.sl Ek.c128 24 v6 (mk0 (65 : Int) (Fl.bits 0, Fl.bits 0)) :: Res.sl Ek.c128 24 v15 q8.1 :: Res.sl Ek.c128 24 v3 q1.1 :: ow) := hp
  refine st_stO (us := [.int .i64 q73.1.1, .int .i64 q73.1.2]) hf hp (i := 0) rfl rfl rfl rfl rfl (by rfl) (by kernel_rfl) (Nat.le_of_ble_eq_true rfl) ?_
  clear hf; intro a w hf hp0; clear hp; have hp := hp0; clear hp0
  replace hp : Hp _ _ _ (Res.obj 56 v75 [.int .i64 q73.1.1, .int .i64 q73.1.2] :: Res.obj 56 v67 [.int .i64 q65.1.1, .int .i64 q65.1.2] :: Res.obj 56 v59 [.int .i64 (1073741825 : Int), .int .i64 (0 : Int)] :: Res.obj 56 v57 [.int .i64 (1073741824 : Int), .int .i64 (-1073741824 : Int)] :: Res.sl Ek.c128 24 v38 (List.replicate ((1 : Int)).toNat (Fl.bits 0, Fl.bits 0)) :: Res.sl Ek.c128 24 v41 (mk0 (65537 : Int) (Fl.bits 0, Fl.bits 0)) :: Res.sl Ek.c128 24 v55 q43.1 :: Res.sl Ek.c128 24 v18 (List.replicate ((64 : Int)).toNat (Fl.bits 0, Fl.bits 0)) :: Res.sl Ek.c128 24 v21 (List.replicate ((3 : Int)).toNat (Fl.bits 0, Fl.bits 0)) :: Res.sl Ek.c128 24 v35 q23.1 :: Res.sl Ek.c128 24 v6 (mk0 (65 : Int) (Fl.bits 0, Fl.bits 0)) :: Res.sl Ek.c128 24 v15 q8.1 :: Res.sl Ek.c128 24 v3 q1.1 :: ow) := hp
  refine st_assign hf rfl rfl (by decide) ?_
  clear hf; intro a ha hf; clear ha
  refine st_nil hf ?_
  refine th_n ?_
  refine wp_seq ?_
  refine wp_reg ?_
  obtain ⟨q77, hcall78, h⟩ := bnd h
  refine st_call hf (by decide) Try.func37 rfl rfl rfl rfl rfl (f_plane_First_c hp _ _ hcall78) ?_
  rintro _ w ⟨rfl, hp0⟩
  clear hp; have hp := hp0; clear hp0
  replace hp : Hp _ _ _ (Res.obj 56 v75 [.int .i64 q73.1.1, .int .i64 q73.1.2] :: Res.obj 56 v67 [.int .i64 q65.1.1, .int .i64 q65.1.2] :: Res.obj 56 v59 [.int .i64 (1073741825 : Int), .int .i64 (0 : Int)] :: Res.obj 56 v57 [.int .i64 (1073741824 : Int), .int .i64 (-1073741824 : Int)] :: Res.sl Ek.c128 24 v38 (List.replicate ((1 : Int)).toNat (Fl.bits 0, Fl.bits 0)) :: Res.sl Ek.c128 24 v41 (mk0 (65537 : Int) (Fl.bits 0, Fl.bits 0)) :: Res.sl Ek.c128 24 v55 q43.1 :: Res.sl Ek.c128 24 v18 (List.replicate ((64 : Int)).toNat (Fl.bits 0, Fl.bits 0)) :: Res.sl Ek.c128 24 v21 (List.replicate ((3 : Int)).toNat (Fl.bits 0, Fl.bits 0)) :: Res.sl Ek.c128 24 v35 q23.1 :: Res.sl Ek.c128 24 v6 (mk0 (65 : Int) (Fl.bits 0, Fl.bits 0)) :: Res.sl Ek.c128 24 v15 q8.1 :: Res.sl Ek.c128 24 v3 q1.1 :: ow) := hp
  refine ⟨_, rfl, ?_⟩
  clear hf; intro a hf
  refine st_move hf rfl rfl (by decide) ?_
  clear hf; intro a ha hf; clear ha
  refine st_extract hf (by decide) rfl rfl rfl ?_
  clear hf; intro a ha hf; clear ha
  refine st_extract hf (by decide) rfl rfl rfl ?_
  clear hf; intro a ha hf; clear ha
  refine st_alloc (cs := [.int .i64 (0 : Int), .int .i64 (0 : Int)]) (zv := .agg #[.int .i64 (0 : Int), .int .i64 (0 : Int)]) hf (by decide) (by kernel_rfl) rfl hp rfl ?_
  clear hf; intro a w v79 hf hp0; clear hp; have hp := hp0; clear hp0
  replace hp : Hp _ _ _ (Res.obj 56 v79 [.int .i64 (0 : Int), .int .i64 (0 : Int)] :: Res.obj 56 v75 [.int .i64 q73.1.1, .int .i64 q73.1.2] :: Res.obj 56 v67 [.int .i64 q65.1.1, .int .i64 q65.1.2] :: Res.obj 56 v59 [.int .i64 (1073741825 : Int), .int .i64 (0 : Int)] :: Res.obj 56 v57 [.int .i64 (1073741824 : Int), .int .i64 (-1073741824 : Int)] :: Res.sl Ek.c128 24 v38 (List.replicate ((1 : Int)).toNat (Fl.bits 0, Fl.bits 0)) :: Res.sl Ek.c128 24 v41 (mk0 (65537 : Int) (Fl.bits 0, Fl.bits 0)) :: Res.sl Ek.c128 24 v55 q43.1 :: Res.sl Ek.c128 24 v18 (List.replicate ((64 : Int)).toNat (Fl.bits 0, Fl.bits 0)) :: Res.sl Ek.c128 24 v21 (List.replicate ((3 : Int)).toNat (Fl.bits 0, Fl.bits 0)) :: Res.sl Ek.c128 24 v35 q23.1 :: Res.sl Ek.c128 24 v6 (mk0 (65 : Int) (Fl.bits 0, Fl.bits 0)) :: Res.sl Ek.c128 24 v15 q8.1 :: Res.sl Ek.c128 24 v3 q1.1 :: ow) := hp
  refine st_stO (us := [.int .i64 q77.1.1, .int .i64 q77.1.2]) hf hp (i := 0) rfl rfl rfl rfl rfl (by rfl) (by kernel_rfl) (Nat.le_of_ble_eq_true rfl) ?_
  clear hf; intro a w hf hp0; clear hp; have hp := hp0; clear hp0
  replace hp : Hp _ _ _ (Res.obj 56 v79 [.int .i64 q77.1.1, .int .i64 q77.1.2] :: Res.obj 56 v75 [.int .i64 q73.1.1, .int .i64 q73.1.2] :: Res.obj 56 v67 [.int .i64 q65.1.1, .int .i64 q65.1.2] :: Res.obj 56 v59 [.int .i64 (1073741825 : Int), .int .i64 (0 : Int)] :: Res.obj 56 v57 [.int .i64 (1073741824 : Int), .int .i64 (-1073741824 : Int)] :: Res.sl Ek.c128 24 v38 (List.replicate ((1 : Int)).toNat (Fl.bits 0, Fl.bits 0)) :: Res.sl Ek.c128 24 v41 (mk0 (65537 : Int) (Fl.bits 0, Fl.bits 0)) :: Res.sl Ek.c128 24 v55 q43.1 :: Res.sl Ek.c128 24 v18 (List.replicate ((64 : Int)).toNat (Fl.bits 0, Fl.bits 0)) :: Res.sl Ek.c128 24 v21 (List.replicate ((3 : Int)).toNat (Fl.bits 0, Fl.bits 0)) :: Res.sl Ek.c128 24 v35 q23.1 :: Res.sl Ek.c128 24 v6 (mk0 (65 : Int) (Fl.bits 0, Fl.bits 0)) :: Res.sl Ek.c128 24 v15 q8.1 :: Res.sl Ek.c128 24 v3 q1.1 :: ow) := hp
  refine st_assign hf rfl rfl (by decide) ?_
  clear hf; intro a ha hf; clear ha
  refine st_nil hf ?_
  refine th_n ?_
  refine wp_seq ?_
  refine wp_reg ?_
  refine st_buildA (vals := [(0, .int .i64 (1073741824 : Int))]) (cells := [.int .i64 (1073741824 : Int), .int .i64 (0 : Int)]) hf (by decide) rfl (by simp [hf.ev (x := (Operand.const (.int .i64 (1073741824 : Int)))) rfl]) (fun w => by kernel_rfl) ?_
  clear hf; intro a ha hf; clear ha
  obtain ⟨q81, hcall82, h⟩ := bnd h
  refine st_call hf (by decide) Try.func38 rfl rfl rfl rfl rfl (f_plane_Gauss_Depth_c hp _ _ hcall82) ?_
  rintro _ w ⟨rfl, hp0⟩
  clear hp; have hp := hp0; clear hp0
  replace hp : Hp _ _ _ (Res.obj 56 v79 [.int .i64 q77.1.1, .int .i64 q77.1.2] :: Res.obj 56 v75 [.int .i64 q73.1.1, .int .i64 q73.1.2] :: Res.obj 56 v67 [.int .i64 q65.1.1, .int .i64 q65.1.2] :: Res.obj 56 v59 [.int .i64 (1073741825 : Int), .int .i64 (0 : Int)] :: Res.obj 56 v57 [.int .i64 (1073741824 : Int), .int .i64 (-1073741824 : Int)] :: Res.sl Ek.c128 24 v38 (List.replicate ((1 : Int)).toNat (Fl.bits 0, Fl.bits 0)) :: Res.sl Ek.c128 24 v41 (mk0 (65537 : Int) (Fl.bits 0, Fl.bits 0)) :: Res.sl Ek.c128 24 v55 q43.1 :: Res.sl Ek.c128 24 v18 (List.replicate ((64 : Int)).toNat (Fl.bits 0, Fl.bits 0)) :: Res.sl Ek.c128 24 v21 (List.replicate ((3 : Int)).toNat (Fl.bits 0, Fl.bits 0)) :: Res.sl Ek.c128 24 v35 q23.1 :: Res.sl Ek.c128 24 v6 (mk0 (65 : Int) (Fl.bits 0, Fl.bits 0)) :: Res.sl Ek.c128 24 v15 q8.1 :: Res.sl Ek.c128 24 v3 q1.1 :: ow) := hp
  refine ⟨_, rfl, ?_⟩
  clear hf; intro a hf
  refine st_move hf rfl rfl (by decide) ?_
  clear hf; intro a ha hf; clear ha
  refine st_extract hf (by decide) rfl rfl rfl ?_
  clear hf; intro a ha hf; clear ha
  refine st_extract hf (by decide) rfl rfl rfl ?_
  clear hf; intro a ha hf; clear ha
  refine st_assign hf rfl rfl (by decide) ?_
  clear hf; intro a ha hf; clear ha
  refine st_assign hf rfl rfl (by decide) ?_
  clear hf; intro a ha hf; clear ha
  refine st_nil hf ?_
  refine th_n ?_
  refine wp_seq ?_
  refine wp_reg ?_
  obtain ⟨q83, hcall84, h⟩ := bnd h
  refine st_call hf (by decide) Try.func39 rfl rfl rfl rfl rfl (f_plane_Whole_c hp _ _ _ (show Fl.rep 4742290407621132288 ((Fl.bits 4742290407621132288, Fl.bits 13965662444475908096)).1 from rfl) (show Fl.rep 13965662444475908096 ((Fl.bits 4742290407621132288, Fl.bits 13965662444475908096)).2 from rfl) hcall84) ?_
  rintro _ w ⟨rfl, hp0⟩
  clear hp; have hp := hp0; clear hp0
  replace hp : Hp _ _ _ (Res.obj 56 v79 [.int .i64 q77.1.1, .int .i64 q77.1.2] :: Res.obj 56 v75 [.int .i64 q73.1.1, .int .i64 q73.1.2] :: Res.obj 56 v67 [.int .i64 q65.1.1, .int .i64 q65.1.2] :: Res.obj 56 v59 [.int .i64 (1073741825 : Int), .int .i64 (0 : Int)] :: Res.obj 56 v57 [.int .i64 (1073741824 : Int), .int .i64 (-1073741824 : Int)] :: Res.sl Ek.c128 24 v38 (List.replicate ((1 : Int)).toNat (Fl.bits 0, Fl.bits 0)) :: Res.sl Ek.c128 24 v41 (mk0 (65537 : Int) (Fl.bits 0, Fl.bits 0)) :: Res.sl Ek.c128 24 v55 q43.1 :: Res.sl Ek.c128 24 v18 (List.replicate ((64 : Int)).toNat (Fl.bits 0, Fl.bits 0)) :: Res.sl Ek.c128 24 v21 (List.replicate ((3 : Int)).toNat (Fl.bits 0, Fl.bits 0)) :: Res.sl Ek.c128 24 v35 q23.1 :: Res.sl Ek.c128 24 v6 (mk0 (65 : Int) (Fl.bits 0, Fl.bits 0)) :: Res.sl Ek.c128 24 v15 q8.1 :: Res.sl Ek.c128 24 v3 q1.1 :: ow) := hp
  refine ⟨_, rfl, ?_⟩
  clear hf; intro a hf
  refine st_move hf rfl rfl (by decide) ?_
  clear hf; intro a ha hf; clear ha
  refine st_extract hf (by decide) rfl rfl rfl ?_
  clear hf; intro a ha hf; clear ha
  refine st_extract hf (by decide) rfl rfl rfl ?_
  clear hf; intro a ha hf; clear ha
  refine st_alloc (cs := [.int .i64 (0 : Int), .int .i64 (0 : Int)]) (zv := .agg #[.int .i64 (0 : Int), .int .i64 (0 : Int)]) hf (by decide) (by kernel_rfl) rfl hp rfl ?_
  clear hf; intro a w v85 hf hp0; clear hp; have hp := hp0; clear hp0
  replace hp : Hp _ _ _ (Res.obj 56 v85 [.int .i64 (0 : Int), .int .i64 (0 : Int)] :: Res.obj 56 v79 [.int .i64 q77.1.1, .int .i64 q77.1.2] :: Res.obj 56 v75 [.int .i64 q73.1.1, .int .i64 q73.1.2] :: Res.obj 56 v67 [.int .i64 q65.1.1, .int .i64 q65.1.2] :: Res.obj 56 v59 [.int .i64 (1073741825 : Int), .int .i64 (0 : Int)] :: Res.obj 56 v57 [.int .i64 (1073741824 : Int), .int .i64 (-1073741824 : Int)] :: Res.sl Ek.c128 24 v38 (List.replicate ((1 : Int)).toNat (Fl.bits 0, Fl.bits 0)) :: Res.sl Ek.c128 24 v41 (mk0 (65537 : Int) (Fl.bits 0, Fl.bits 0)) :: Res.sl Ek.c128 24 v55 q43.1 :: Res.sl Ek.c128 24 v18 (List.replicate ((64 : Int)).toNat (Fl.bits 0, Fl.bits 0)) :: Res.sl Ek.c128 24 v21 (List.replicate ((3 : Int)).toNat (Fl.bits 0, Fl.bits 0)) :: Res.sl Ek.c128 24 v35 q23.1 :: Res.sl Ek.c128 24 v6 (mk0 (65 : Int) (Fl.bits 0, Fl.bits 0)) :: Res.sl Ek.c128 24 v15 q8.1 :: Res.sl Ek.c128 24 v3 q1.1 :: ow) := hp
  refine st_stO (us := [.int .i64 q83.1.1, .int .i64 q83.1.2]) hf hp (i := 0) rfl rfl rfl rfl rfl (by rfl) (by kernel_rfl) (Nat.le_of_ble_eq_true rfl) ?_
  clear hf; intro a w hf hp0; clear hp; have hp := hp0; clear hp0
  replace hp : Hp _ _ _ (Res.obj 56 v85 [.int .i64 q83.1.1, .int .i64 q83.1.2] :: Res.obj 56 v79 [.int .i64 q77.1.1, .int .i64 q77.1.2] :: Res.obj 56 v75 [.int .i64 q73.1.1, .int .i64 q73.1.2] :: Res.obj 56 v67 [.int .i64 q65.1.1, .int .i64 q65.1.2] :: Res.obj 56 v59 [.int .i64 (1073741825 : Int), .int .i64 (0 : Int)] :: Res.obj 56 v57 [.int .i64 (1073741824 : Int), .int .i64 (-1073741824 : Int)] :: Res.sl Ek.c128 24 v38 (List.replicate ((1 : Int)).toNat (Fl.bits 0, Fl.bits 0)) :: Res.sl Ek.c128 24 v41 (mk0 (65537 : Int) (Fl.bits 0, Fl.bits 0)) :: Res.sl Ek.c128 24 v55 q43.1 :: Res.sl Ek.c128 24 v18 (List.replicate ((64 : Int)).toNat (Fl.bits 0, Fl.bits 0)) :: Res.sl Ek.c128 24 v21 (List.replicate ((3 : Int)).toNat (Fl.bits 0, Fl.bits 0)) :: Res.sl Ek.c128 24 v35 q23.1 :: Res.sl Ek.c128 24 v6 (mk0 (65 : Int) (Fl.bits 0, Fl.bits 0)) :: Res.sl Ek.c128 24 v15 q8.1 :: Res.sl Ek.c128 24 v3 q1.1 :: ow) := hp
  refine st_assign hf rfl rfl (by decide) ?_
  clear hf; intro a ha hf; clear ha
  refine st_nil hf ?_
  refine th_n ?_
  refine wp_seq ?_
  refine wp_reg ?_
  obtain ⟨q87, hcall88, h⟩ := bnd h
  refine st_call hf (by decide) Try.func39 rfl rfl rfl rfl rfl (f_plane_Whole_c hp _ _ _ (show Fl.rep 4742290407625326592 ((Fl.bits 4742290407625326592, Fl.bits 0)).1 from rfl) (show Fl.rep 0 ((Fl.bits 4742290407625326592, Fl.bits 0)).2 from rfl) hcall88) ?_
  rintro _ w ⟨rfl, hp0⟩
  clear hp; have hp := hp0; clear hp0
  replace hp : Hp _ _ _ (Res.obj 56 v85 [.int .i64 q83.1.1, .int .i64 q83.1.2] :: Res.obj 56 v79 [.int .i64 q77.1.1, .int .i64 q77.1.2] :: Res.obj 56 v75 [.int .i64 q73.1.1, .int .i64 q73.1.2] :: Res.obj 56 v67 [.int .i64 q65.1.1, .int .i64 q65.1.2] :: Res.obj 56 v59 [.int .i64 (1073741825 : Int), .int .i64 (0 : Int)] :: Res.obj 56 v57 [.int .i64 (1073741824 : Int), .int .i64 (-1073741824 : Int)] :: Res.sl Ek.c128 24 v38 (List.replicate ((1 : Int)).toNat (Fl.bits 0, Fl.bits 0)) :: Res.sl Ek.c128 24 v41 (mk0 (65537 : Int) (Fl.bits 0, Fl.bits 0)) :: Res.sl Ek.c128 24 v55 q43.1 :: Res.sl Ek.c128 24 v18 (List.replicate ((64 : Int)).toNat (Fl.bits 0, Fl.bits 0)) :: Res.sl Ek.c128 24 v21 (List.replicate ((3 : Int)).toNat (Fl.bits 0, Fl.bits 0)) :: Res.sl Ek.c128 24 v35 q23.1 :: Res.sl Ek.c128 24 v6 (mk0 (65 : Int) (Fl.bits 0, Fl.bits 0)) :: Res.sl Ek.c128 24 v15 q8.1 :: Res.sl Ek.c128 24 v3 q1.1 :: ow) := hp
  refine ⟨_, rfl, ?_⟩
  clear hf; intro a hf
  refine st_move hf rfl rfl (by decide) ?_
  clear hf; intro a ha hf; clear ha
  refine st_extract hf (by decide) rfl rfl rfl ?_
  clear hf; intro a ha hf; clear ha
  refine st_extract hf (by decide) rfl rfl rfl ?_
  clear hf; intro a ha hf; clear ha
  refine st_alloc (cs := [.int .i64 (0 : Int), .int .i64 (0 : Int)]) (zv := .agg #[.int .i64 (0 : Int), .int .i64 (0 : Int)]) hf (by decide) (by kernel_rfl) rfl hp rfl ?_
  clear hf; intro a w v89 hf hp0; clear hp; have hp := hp0; clear hp0
  replace hp : Hp _ _ _ (Res.obj 56 v89 [.int .i64 (0 : Int), .int .i64 (0 : Int)] :: Res.obj 56 v85 [.int .i64 q83.1.1, .int .i64 q83.1.2] :: Res.obj 56 v79 [.int .i64 q77.1.1, .int .i64 q77.1.2] :: Res.obj 56 v75 [.int .i64 q73.1.1, .int .i64 q73.1.2] :: Res.obj 56 v67 [.int .i64 q65.1.1, .int .i64 q65.1.2] :: Res.obj 56 v59 [.int .i64 (1073741825 : Int), .int .i64 (0 : Int)] :: Res.obj 56 v57 [.int .i64 (1073741824 : Int), .int .i64 (-1073741824 : Int)] :: Res.sl Ek.c128 24 v38 (List.replicate ((1 : Int)).toNat (Fl.bits 0, Fl.bits 0)) :: Res.sl Ek.c128 24 v41 (mk0 (65537 : Int) (Fl.bits 0, Fl.bits 0)) :: Res.sl Ek.c128 24 v55 q43.1 :: Res.sl Ek.c128 24 v18 (List.replicate ((64 : Int)).toNat (Fl.bits 0, Fl.bits 0)) :: Res.sl Ek.c128 24 v21 (List.replicate ((3 : Int)).toNat (Fl.bits 0, Fl.bits 0)) :: Res.sl Ek.c128 24 v35 q23.1 :: Res.sl Ek.c128 24 v6 (mk0 (65 : Int) (Fl.bits 0, Fl.bits 0)) :: Res.sl Ek.c128 24 v15 q8.1 :: Res.sl Ek.c128 24 v3 q1.1 :: ow) := hp
  refine st_stO (us := [.int .i64 q87.1.1, .int .i64 q87.1.2]) hf hp (i := 0) rfl rfl rfl rfl rfl (by rfl) (by kernel_rfl) (Nat.le_of_ble_eq_true rfl) ?_
  clear hf; intro a w hf hp0; clear hp; have hp := hp0; clear hp0
  replace hp : Hp _ _ _ (Res.obj 56 v89 [.int .i64 q87.1.1, .int .i64 q87.1.2] :: Res.obj 56 v85 [.int .i64 q83.1.1, .int .i64 q83.1.2] :: Res.obj 56 v79 [.int .i64 q77.1.1, .int .i64 q77.1.2] :: Res.obj 56 v75 [.int .i64 q73.1.1, .int .i64 q73.1.2] :: Res.obj 56 v67 [.int .i64 q65.1.1, .int .i64 q65.1.2] :: Res.obj 56 v59 [.int .i64 (1073741825 : Int), .int .i64 (0 : Int)] :: Res.obj 56 v57 [.int .i64 (1073741824 : Int), .int .i64 (-1073741824 : Int)] :: Res.sl Ek.c128 24 v38 (List.replicate ((1 : Int)).toNat (Fl.bits 0, Fl.bits 0)) :: Res.sl Ek.c128 24 v41 (mk0 (65537 : Int) (Fl.bits 0, Fl.bits 0)) :: Res.sl Ek.c128 24 v55 q43.1 :: Res.sl Ek.c128 24 v18 (List.replicate ((64 : Int)).toNat (Fl.bits 0, Fl.bits 0)) :: Res.sl Ek.c128 24 v21 (List.replicate ((3 : Int)).toNat (Fl.bits 0, Fl.bits 0)) :: Res.sl Ek.c128 24 v35 q23.1 :: Res.sl Ek.c128 24 v6 (mk0 (65 : Int) (Fl.bits 0, Fl.bits 0)) :: Res.sl Ek.c128 24 v15 q8.1 :: Res.sl Ek.c128 24 v3 q1.1 :: ow) := hp
  refine st_assign hf rfl rfl (by decide) ?_
  clear hf; intro a ha hf; clear ha
  refine st_nil hf ?_
  refine th_n ?_
  refine wp_seq ?_
  refine wp_reg ?_
  refine st_move hf rfl rfl (by decide) ?_
  clear hf; intro a ha hf; clear ha
  refine st_ieql hf (by decide) rfl rfl rfl ?_
  clear hf; intro a ha hf; clear ha
  refine st_move hf rfl rfl (by decide) ?_
  clear hf; intro a ha hf; clear ha
  refine wpList_cut 3 (fun a w => Fr 180 a [(5, v35), (6, .int .i64 q23.2), (8, .int .i64 q43.2), (9, optr v57 0), (11, .int .i64 q61.1), (12, .int .i64 q61.2), (14, .int .i64 q63.2), (16, .int .i64 q65.2), (18, .int .i64 q69.2), (20, .int .i64 q71.2), (22, .int .i64 q73.2), (24, .int .i64 q77.2), (25, .int .i64 q81.1), (26, .int .i64 q81.2), (27, optr v85 0), (28, .int .i64 q83.2), (30, .int .i64 q87.2), (106, .bool ((q1.2 == (1 : Int)) && (q8.2 == (1 : Int))))] ∧ Hp S w0 w (Res.obj 56 v89 [.int .i64 q87.1.1, .int .i64 q87.1.2] :: Res.obj 56 v85 [.int .i64 q83.1.1, .int .i64 q83.1.2] :: Res.obj 56 v79 [.int .i64 q77.1.1, .int .i64 q77.1.2] :: Res.obj 56 v75 [.int .i64 q73.1.1, .int .i64 q73.1.2] :: Res.obj 56 v67 [.int .i64 q65.1.1, .int .i64 q65.1.2] :: Res.obj 56 v59 [.int .i64 (1073741825 : Int), .int .i64 (0 : Int)] :: Res.obj 56 v57 [.int .i64 (1073741824 : Int), .int .i64 (-1073741824 : Int)] :: Res.sl Ek.c128 24 v38 (List.replicate ((1 : Int)).toNat (Fl.bits 0, Fl.bits 0)) :: Res.sl Ek.c128 24 v41 (mk0 (65537 : Int) (Fl.bits 0, Fl.bits 0)) :: Res.sl Ek.c128 24 v55 q43.1 :: Res.sl Ek.c128 24 v18 (List.replicate ((64 : Int)).toNat (Fl.bits 0, Fl.bits 0)) :: Res.sl Ek.c128 24 v21 (List.replicate ((3 : Int)).toNat (Fl.bits 0, Fl.bits 0)) :: Res.sl Ek.c128 24 v35 q23.1 :: Res.sl Ek.c128 24 v6 (mk0 (65 : Int) (Fl.bits 0, Fl.bits 0)) :: Res.sl Ek.c128 24 v15 q8.1 :: Res.sl Ek.c128 24 v3 q1.1 :: ow)) ?_ ?_
  · rcases Bool.eq_false_or_eq_true (q1.2 == (1 : Int)) with hb92 | hb92
    · skip
      refine st_move hf (wantY hf rfl rfl hb92) rfl (by decide) ?_
      clear hf; intro a ha hf; clear ha
      refine st_ieql hf (by decide) (wantY hf rfl rfl hb92) rfl rfl ?_
      clear hf; intro a ha hf; clear ha
      refine st_pick (v := .bool (q8.2 == (1 : Int))) hf rfl rfl (fun hb' => ?_) (fun hb' => ?_) (by decide) ?_
      · rfl
      · exact absurd (hb92.symm.trans hb') (by decide)
      clear hf; intro a ha hf; clear ha
      refine st_nil hf (th_n ?_)
      exact ⟨hf.sub ⟨rfl, rfl, rfl, rfl, rfl, rfl, rfl, rfl, rfl, rfl, rfl, rfl, rfl, rfl, rfl, rfl, rfl, (by rw [hb92]; rfl), trivial⟩, hp⟩
    refine st_skip hf (wantN hf rfl rfl hb92) rfl (by decide) ?_ rfl
    clear hf; intro a hf
    refine st_skip hf (wantN hf rfl rfl hb92) rfl (by decide) ?_ rfl
    clear hf; intro a hf
    refine st_pick (v := .bool false) hf rfl rfl (fun hb' => ?_) (fun hb' => ?_) (by decide) ?_
    · exact absurd (hb92.symm.trans hb') (by decide)
    · rfl
    clear hf; intro a ha hf; clear ha
    refine st_nil hf (th_n ?_)
    exact ⟨hf.sub ⟨rfl, rfl, rfl, rfl, rfl, rfl, rfl, rfl, rfl, rfl, rfl, rfl, rfl, rfl, rfl, rfl, rfl, (by rw [hb92]; rfl), trivial⟩, hp⟩
  rintro a w ⟨hf, hp⟩
  refine st_move hf rfl rfl (by decide) ?_
  clear hf; intro a ha hf; clear ha
  refine wpList_cut 3 (fun a w => Fr 180 a [(5, v35), (8, .int .i64 q43.2), (9, optr v57 0), (11, .int .i64 q61.1), (12, .int .i64 q61.2), (14, .int .i64 q63.2), (16, .int .i64 q65.2), (18, .int .i64 q69.2), (20, .int .i64 q71.2), (22, .int .i64 q73.2), (24, .int .i64 q77.2), (25, .int .i64 q81.1), (26, .int .i64 q81.2), (27, optr v85 0), (28, .int .i64 q83.2), (30, .int .i64 q87.2), (110, .bool (((q1.2 == (1 : Int)) && (q8.2 == (1 : Int))) && (q23.2 == (0 : Int))))] ∧ Hp S w0 w (Res.obj 56 v89 [.int .i64 q87.1.1, .int .i64 q87.1.2] :: Res.obj 56 v85 [.int .i64 q83.1.1, .int .i64 q83.1.2] :: Res.obj 56 v79 [.int .i64 q77.1.1, .int .i64 q77.1.2] :: Res.obj 56 v75 [.int .i64 q73.1.1, .int .i64 q73.1.2] :: Res.obj 56 v67 [.int .i64 q65.1.1, .int .i64 q65.1.2] :: Res.obj 56 v59 [.int .i64 (1073741825 : Int), .int .i64 (0 : Int)] :: Res.obj 56 v57 [.int .i64 (1073741824 : Int), .int .i64 (-1073741824 : Int)] :: Res.sl Ek.c128 24 v38 (List.replicate ((1 : Int)).toNat (Fl.bits 0, Fl.bits 0)) :: Res.sl Ek.c128 24 v41 (mk0 (65537 : Int) (Fl.bits 0, Fl.bits 0)) :: Res.sl Ek.c128 24 v55 q43.1 :: Res.sl Ek.c128 24 v18 (List.replicate ((64 : Int)).toNat (Fl.bits 0, Fl.bits 0)) :: Res.sl Ek.c128 24 v21 (List.replicate ((3 : Int)).toNat (Fl.bits 0, Fl.bits 0)) :: Res.sl Ek.c128 24 v35 q23.1 :: Res.sl Ek.c128 24 v6 (mk0 (65 : Int) (Fl.bits 0, Fl.bits 0)) :: Res.sl Ek.c128 24 v15 q8.1 :: Res.sl Ek.c128 24 v3 q1.1 :: ow)) ?_ ?_
  · rcases Bool.eq_false_or_eq_true ((q1.2 == (1 : Int)) && (q8.2 == (1 : Int))) with hb94 | hb94
    · skip
      refine st_move hf (wantY hf rfl rfl hb94) rfl (by decide) ?_
      clear hf; intro a ha hf; clear ha
      refine st_ieql hf (by decide) (wantY hf rfl rfl hb94) rfl rfl ?_
      clear hf; intro a ha hf; clear ha
      refine st_pick (v := .bool (q23.2 == (0 : Int))) hf rfl rfl (fun hb' => ?_) (fun hb' => ?_) (by decide) ?_
      · rfl
      · exact absurd (hb94.symm.trans hb') (by decide)
      clear hf; intro a ha hf; clear ha
      refine st_nil hf (th_n ?_)
      exact ⟨hf.sub ⟨rfl, rfl, rfl, rfl, rfl, rfl, rfl, rfl, rfl, rfl, rfl, rfl, rfl, rfl, rfl, rfl, (by rw [hb94]; rfl), trivial⟩, hp⟩
    refine st_skip hf (wantN hf rfl rfl hb94) rfl (by decide) ?_ rfl
    clear hf; intro a hf
    refine st_skip hf (wantN hf rfl rfl hb94) rfl (by decide) ?_ rfl
    clear hf; intro a hf
    refine st_pick (v := .bool false) hf rfl rfl (fun hb' => ?_) (fun hb' => ?_) (by decide) ?_
    · exact absurd (hb94.symm.trans hb') (by decide)
    · rfl
    clear hf; intro a ha hf; clear ha
    refine st_nil hf (th_n ?_)
    exact ⟨hf.sub ⟨rfl, rfl, rfl, rfl, rfl, rfl, rfl, rfl, rfl, rfl, rfl, rfl, rfl, rfl, rfl, rfl, (by rw [hb94]; rfl), trivial⟩, hp⟩
  rintro a w ⟨hf, hp⟩
  refine st_move hf rfl rfl (by decide) ?_
  clear hf; intro a ha hf; clear ha
  refine wpList_cut 4 (fun a w => Fr 180 a [(8, .int .i64 q43.2), (9, optr v57 0), (11, .int .i64 q61.1), (12, .int .i64 q61.2), (14, .int .i64 q63.2), (16, .int .i64 q65.2), (18, .int .i64 q69.2), (20, .int .i64 q71.2), (22, .int .i64 q73.2), (24, .int .i64 q77.2), (25, .int .i64 q81.1), (26, .int .i64 q81.2), (27, optr v85 0), (28, .int .i64 q83.2), (30, .int .i64 q87.2), (115, .bool ((((q1.2 == (1 : Int)) && (q8.2 == (1 : Int))) && (q23.2 == (0 : Int))) && ((q23.1.length : Int) == (3 : Int))))] ∧ Hp S w0 w (Res.obj 56 v89 [.int .i64 q87.1.1, .int .i64 q87.1.2] :: Res.obj 56 v85 [.int .i64 q83.1.1, .int .i64 q83.1.2] :: Res.obj 56 v79 [.int .i64 q77.1.1, .int .i64 q77.1.2] :: Res.obj 56 v75 [.int .i64 q73.1.1, .int .i64 q73.1.2] :: Res.obj 56 v67 [.int .i64 q65.1.1, .int .i64 q65.1.2] :: Res.obj 56 v59 [.int .i64 (1073741825 : Int), .int .i64 (0 : Int)] :: Res.obj 56 v57 [.int .i64 (1073741824 : Int), .int .i64 (-1073741824 : Int)] :: Res.sl Ek.c128 24 v38 (List.replicate ((1 : Int)).toNat (Fl.bits 0, Fl.bits 0)) :: Res.sl Ek.c128 24 v41 (mk0 (65537 : Int) (Fl.bits 0, Fl.bits 0)) :: Res.sl Ek.c128 24 v55 q43.1 :: Res.sl Ek.c128 24 v18 (List.replicate ((64 : Int)).toNat (Fl.bits 0, Fl.bits 0)) :: Res.sl Ek.c128 24 v21 (List.replicate ((3 : Int)).toNat (Fl.bits 0, Fl.bits 0)) :: Res.sl Ek.c128 24 v35 q23.1 :: Res.sl Ek.c128 24 v6 (mk0 (65 : Int) (Fl.bits 0, Fl.bits 0)) :: Res.sl Ek.c128 24 v15 q8.1 :: Res.sl Ek.c128 24 v3 q1.1 :: ow)) ?_ ?_
  · rcases Bool.eq_false_or_eq_true (((q1.2 == (1 : Int)) && (q8.2 == (1 : Int))) && (q23.2 == (0 : Int))) with hb96 | hb96
    · skip
      refine st_move hf (wantY hf rfl rfl hb96) rfl (by decide) ?_
      clear hf; intro a ha hf; clear ha
      refine st_len (E := Ek.c128) hf (by decide) Try.underlying41 (wantY hf rfl rfl hb96) rfl (hp.sl (i := 12) rfl) ?_
      clear hf; intro a ha hf; clear ha
      refine st_ieql hf (by decide) (wantY hf rfl rfl hb96) rfl rfl ?_
      clear hf; intro a ha hf; clear ha
      refine st_pick (v := .bool ((q23.1.length : Int) == (3 : Int))) hf rfl rfl (fun hb' => ?_) (fun hb' => ?_) (by decide) ?_
      · rfl
      · exact absurd (hb96.symm.trans hb') (by decide)
      clear hf; intro a ha hf; clear ha
      refine st_nil hf (th_n ?_)
      exact ⟨hf.sub ⟨rfl, rfl, rfl, rfl, rfl, rfl, rfl, rfl, rfl, rfl, rfl, rfl, rfl, rfl, rfl, (by rw [hb96]; rfl), trivial⟩, hp⟩
    refine st_skip hf (wantN hf rfl rfl hb96) rfl (by decide) ?_ rfl
    clear hf; intro a hf
    refine st_skip hf (wantN hf rfl rfl hb96) rfl (by decide) ?_ rfl
    clear hf; intro a hf
    refine st_skip hf (wantN hf rfl rfl hb96) rfl (by decide) ?_ rfl
    clear hf; intro a hf
    refine st_pick (v := .bool false) hf rfl rfl (fun hb' => ?_) (fun hb' => ?_) (by decide) ?_
    · exact absurd (hb96.symm.trans hb') (by decide)
    · rfl
    clear hf; intro a ha hf; clear ha
    refine st_nil hf (th_n ?_)
    exact ⟨hf.sub ⟨rfl, rfl, rfl, rfl, rfl, rfl, rfl, rfl, rfl, rfl, rfl, rfl, rfl, rfl, rfl, (by rw [hb96]; rfl), trivial⟩, hp⟩
  rintro a w ⟨hf, hp⟩
  refine st_move hf rfl rfl (by decide) ?_
  clear hf; intro a ha hf; clear ha
  refine wpList_cut 3 (fun a w => Fr 180 a [(9, optr v57 0), (11, .int .i64 q61.1), (12, .int .i64 q61.2), (14, .int .i64 q63.2), (16, .int .i64 q65.2), (18, .int .i64 q69.2), (20, .int .i64 q71.2), (22, .int .i64 q73.2), (24, .int .i64 q77.2), (25, .int .i64 q81.1), (26, .int .i64 q81.2), (27, optr v85 0), (28, .int .i64 q83.2), (30, .int .i64 q87.2), (119, .bool (((((q1.2 == (1 : Int)) && (q8.2 == (1 : Int))) && (q23.2 == (0 : Int))) && ((q23.1.length : Int) == (3 : Int))) && (q43.2 == (1 : Int))))] ∧ Hp S w0 w (Res.obj 56 v89 [.int .i64 q87.1.1, .int .i64 q87.1.2] :: Res.obj 56 v85 [.int .i64 q83.1.1, .int .i64 q83.1.2] :: Res.obj 56 v79 [.int .i64 q77.1.1, .int .i64 q77.1.2] :: Res.obj 56 v75 [.int .i64 q73.1.1, .int .i64 q73.1.2] :: Res.obj 56 v67 [.int .i64 q65.1.1, .int .i64 q65.1.2] :: Res.obj 56 v59 [.int .i64 (1073741825 : Int), .int .i64 (0 : Int)] :: Res.obj 56 v57 [.int .i64 (1073741824 : Int), .int .i64 (-1073741824 : Int)] :: Res.sl Ek.c128 24 v38 (List.replicate ((1 : Int)).toNat (Fl.bits 0, Fl.bits 0)) :: Res.sl Ek.c128 24 v41 (mk0 (65537 : Int) (Fl.bits 0, Fl.bits 0)) :: Res.sl Ek.c128 24 v55 q43.1 :: Res.sl Ek.c128 24 v18 (List.replicate ((64 : Int)).toNat (Fl.bits 0, Fl.bits 0)) :: Res.sl Ek.c128 24 v21 (List.replicate ((3 : Int)).toNat (Fl.bits 0, Fl.bits 0)) :: Res.sl Ek.c128 24 v35 q23.1 :: Res.sl Ek.c128 24 v6 (mk0 (65 : Int) (Fl.bits 0, Fl.bits 0)) :: Res.sl Ek.c128 24 v15 q8.1 :: Res.sl Ek.c128 24 v3 q1.1 :: ow)) ?_ ?_
  · rcases Bool.eq_false_or_eq_true ((((q1.2 == (1 : Int)) && (q8.2 == (1 : Int))) && (q23.2 == (0 : Int))) && ((q23.1.length : Int) == (3 : Int))) with hb98 | hb98
    · skip
      refine st_move hf (wantY hf rfl rfl hb98) rfl (by decide) ?_
      clear hf; intro a ha hf; clear ha
      refine st_ieql hf (by decide) (wantY hf rfl rfl hb98) rfl rfl ?_
      clear hf; intro a ha hf; clear ha
      refine st_pick (v := .bool (q43.2 == (1 : Int))) hf rfl rfl (fun hb' => ?_) (fun hb' => ?_) (by decide) ?_
      · rfl
      · exact absurd (hb98.symm.trans hb') (by decide)
      clear hf; intro a ha hf; clear ha
      refine st_nil hf (th_n ?_)
      exact ⟨hf.sub ⟨rfl, rfl, rfl, rfl, rfl, rfl, rfl, rfl, rfl, rfl, rfl, rfl, rfl, rfl, (by rw [hb98]; rfl), trivial⟩, hp⟩
    refine st_skip hf (wantN hf rfl rfl hb98) rfl (by decide) ?_ rfl
    clear hf; intro a hf
    refine st_skip hf (wantN hf rfl rfl hb98) rfl (by decide) ?_ rfl
    clear hf; intro a hf
    refine st_pick (v := .bool false) hf rfl rfl (fun hb' => ?_) (fun hb' => ?_) (by decide) ?_
    · exact absurd (hb98.symm.trans hb') (by decide)
    · rfl
    clear hf; intro a ha hf; clear ha
    refine st_nil hf (th_n ?_)
    exact ⟨hf.sub ⟨rfl, rfl, rfl, rfl, rfl, rfl, rfl, rfl, rfl, rfl, rfl, rfl, rfl, rfl, (by rw [hb98]; rfl), trivial⟩, hp⟩
  rintro a w ⟨hf, hp⟩
  refine st_move hf rfl rfl (by decide) ?_
  clear hf; intro a ha hf; clear ha
  refine wpList_cut 3 (fun a w => Fr 180 a [(9, optr v57 0), (11, .int .i64 q61.1), (14, .int .i64 q63.2), (16, .int .i64 q65.2), (18, .int .i64 q69.2), (20, .int .i64 q71.2), (22, .int .i64 q73.2), (24, .int .i64 q77.2), (25, .int .i64 q81.1), (26, .int .i64 q81.2), (27, optr v85 0), (28, .int .i64 q83.2), (30, .int .i64 q87.2), (123, .bool ((((((q1.2 == (1 : Int)) && (q8.2 == (1 : Int))) && (q23.2 == (0 : Int))) && ((q23.1.length : Int) == (3 : Int))) && (q43.2 == (1 : Int))) && (q61.2 == (0 : Int))))] ∧ Hp S w0 w (Res.obj 56 v89 [.int .i64 q87.1.1, .int .i64 q87.1.2] :: Res.obj 56 v85 [.int .i64 q83.1.1, .int .i64 q83.1.2] :: Res.obj 56 v79 [.int .i64 q77.1.1, .int .i64 q77.1.2] :: Res.obj 56 v75 [.int .i64 q73.1.1, .int .i64 q73.1.2] :: Res.obj 56 v67 [.int .i64 q65.1.1, .int .i64 q65.1.2] :: Res.obj 56 v59 [.int .i64 (1073741825 : Int), .int .i64 (0 : Int)] :: Res.obj 56 v57 [.int .i64 (1073741824 : Int), .int .i64 (-1073741824 : Int)] :: Res.sl Ek.c128 24 v38 (List.replicate ((1 : Int)).toNat (Fl.bits 0, Fl.bits 0)) :: Res.sl Ek.c128 24 v41 (mk0 (65537 : Int) (Fl.bits 0, Fl.bits 0)) :: Res.sl Ek.c128 24 v55 q43.1 :: Res.sl Ek.c128 24 v18 (List.replicate ((64 : Int)).toNat (Fl.bits 0, Fl.bits 0)) :: Res.sl Ek.c128 24 v21 (List.replicate ((3 : Int)).toNat (Fl.bits 0, Fl.bits 0)) :: Res.sl Ek.c128 24 v35 q23.1 :: Res.sl Ek.c128 24 v6 (mk0 (65 : Int) (Fl.bits 0, Fl.bits 0)) :: Res.sl Ek.c128 24 v15 q8.1 :: Res.sl Ek.c128 24 v3 q1.1 :: ow)) ?_ ?_
  · rcases Bool.eq_false_or_eq_true (((((q1.2 == (1 : Int)) && (q8.2 == (1 : Int))) && (q23.2 == (0 : Int))) && ((q23.1.length : Int) == (3 : Int))) && (q43.2 == (1 : Int))) with hb100 | hb100
    · skip
      refine st_move hf (wantY hf rfl rfl hb100) rfl (by decide) ?_
      clear hf; intro a ha hf; clear ha
      refine st_ieql hf (by decide) (wantY hf rfl rfl hb100) rfl rfl ?_
      clear hf; intro a ha hf; clear ha
      refine st_pick (v := .bool (q61.2 == (0 : Int))) hf rfl rfl (fun hb' => ?_) (fun hb' => ?_) (by decide) ?_
      · rfl
      · exact absurd (hb100.symm.trans hb') (by decide)
      clear hf; intro a ha hf; clear ha
      refine st_nil hf (th_n ?_)
      exact ⟨hf.sub ⟨rfl, rfl, rfl, rfl, rfl, rfl, rfl, rfl, rfl, rfl, rfl, rfl, rfl, (by rw [hb100]; rfl), trivial⟩, hp⟩
    refine st_skip hf (wantN hf rfl rfl hb100) rfl (by decide) ?_ rfl
    clear hf; intro a hf
    refine st_skip hf (wantN hf rfl rfl hb100) rfl (by decide) ?_ rfl
    clear hf; intro a hf
    refine st_pick (v := .bool false) hf rfl rfl (fun hb' => ?_) (fun hb' => ?_) (by decide) ?_
    · exact absurd (hb100.symm.trans hb') (by decide)
    · rfl
    clear hf; intro a ha hf; clear ha
    refine st_nil hf (th_n ?_)
    exact ⟨hf.sub ⟨rfl, rfl, rfl, rfl, rfl, rfl, rfl, rfl, rfl, rfl, rfl, rfl, rfl, (by rw [hb100]; rfl), trivial⟩, hp⟩
  rintro a w ⟨hf, hp⟩
  refine st_move hf rfl rfl (by decide) ?_
  clear hf; intro a ha hf; clear ha
  refine wpList_cut 3 (fun a w => Fr 180 a [(9, optr v57 0), (14, .int .i64 q63.2), (16, .int .i64 q65.2), (18, .int .i64 q69.2), (20, .int .i64 q71.2), (22, .int .i64 q73.2), (24, .int .i64 q77.2), (25, .int .i64 q81.1), (26, .int .i64 q81.2), (27, optr v85 0), (28, .int .i64 q83.2), (30, .int .i64 q87.2), (127, .bool (((((((q1.2 == (1 : Int)) && (q8.2 == (1 : Int))) && (q23.2 == (0 : Int))) && ((q23.1.length : Int) == (3 : Int))) && (q43.2 == (1 : Int))) && (q61.2 == (0 : Int))) && (q61.1 == (2305843009213693952 : Int))))] ∧ Hp S w0 w (Res.obj 56 v89 [.int .i64 q87.1.1, .int .i64 q87.1.2] :: Res.obj 56 v85 [.int .i64 q83.1.1, .int .i64 q83.1.2] :: Res.obj 56 v79 [.int .i64 q77.1.1, .int .i64 q77.1.2] :: Res.obj 56 v75 [.int .i64 q73.1.1, .int .i64 q73.1.2] :: Res.obj 56 v67 [.int .i64 q65.1.1, .int .i64 q65.1.2] :: Res.obj 56 v59 [.int .i64 (1073741825 : Int), .int .i64 (0 : Int)] :: Res.obj 56 v57 [.int .i64 (1073741824 : Int), .int .i64 (-1073741824 : Int)] :: Res.sl Ek.c128 24 v38 (List.replicate ((1 : Int)).toNat (Fl.bits 0, Fl.bits 0)) :: Res.sl Ek.c128 24 v41 (mk0 (65537 : Int) (Fl.bits 0, Fl.bits 0)) :: Res.sl Ek.c128 24 v55 q43.1 :: Res.sl Ek.c128 24 v18 (List.replicate ((64 : Int)).toNat (Fl.bits 0, Fl.bits 0)) :: Res.sl Ek.c128 24 v21 (List.replicate ((3 : Int)).toNat (Fl.bits 0, Fl.bits 0)) :: Res.sl Ek.c128 24 v35 q23.1 :: Res.sl Ek.c128 24 v6 (mk0 (65 : Int) (Fl.bits 0, Fl.bits 0)) :: Res.sl Ek.c128 24 v15 q8.1 :: Res.sl Ek.c128 24 v3 q1.1 :: ow)) ?_ ?_
  · rcases Bool.eq_false_or_eq_true ((((((q1.2 == (1 : Int)) && (q8.2 == (1 : Int))) && (q23.2 == (0 : Int))) && ((q23.1.length : Int) == (3 : Int))) && (q43.2 == (1 : Int))) && (q61.2 == (0 : Int))) with hb102 | hb102
    · skip
      refine st_move hf (wantY hf rfl rfl hb102) rfl (by decide) ?_
      clear hf; intro a ha hf; clear ha
      refine st_ieql hf (by decide) (wantY hf rfl rfl hb102) rfl rfl ?_
      clear hf; intro a ha hf; clear ha
      refine st_pick (v := .bool (q61.1 == (2305843009213693952 : Int))) hf rfl rfl (fun hb' => ?_) (fun hb' => ?_) (by decide) ?_
      · rfl
      · exact absurd (hb102.symm.trans hb') (by decide)
      clear hf; intro a ha hf; clear ha
      refine st_nil hf (th_n ?_)
      exact ⟨hf.sub ⟨rfl, rfl, rfl, rfl, rfl, rfl, rfl, rfl, rfl, rfl, rfl, rfl, (by rw [hb102]; rfl), trivial⟩, hp⟩
    refine st_skip hf (wantN hf rfl rfl hb102) rfl (by decide) ?_ rfl
    clear hf; intro a hf
    refine st_skip hf (wantN hf rfl rfl hb102) rfl (by decide) ?_ rfl
    clear hf; intro a hf
    refine st_pick (v := .bool false) hf rfl rfl (fun hb' => ?_) (fun hb' => ?_) (by decide) ?_
    · exact absurd (hb102.symm.trans hb') (by decide)
    · rfl
    clear hf; intro a ha hf; clear ha
    refine st_nil hf (th_n ?_)
    exact ⟨hf.sub ⟨rfl, rfl, rfl, rfl, rfl, rfl, rfl, rfl, rfl, rfl, rfl, rfl, (by rw [hb102]; rfl), trivial⟩, hp⟩
  rintro a w ⟨hf, hp⟩
  refine st_move hf rfl rfl (by decide) ?_
  clear hf; intro a ha hf; clear ha
  refine wpList_cut 3 (fun a w => Fr 180 a [(9, optr v57 0), (16, .int .i64 q65.2), (18, .int .i64 q69.2), (20, .int .i64 q71.2), (22, .int .i64 q73.2), (24, .int .i64 q77.2), (25, .int .i64 q81.1), (26, .int .i64 q81.2), (27, optr v85 0), (28, .int .i64 q83.2), (30, .int .i64 q87.2), (131, .bool ((((((((q1.2 == (1 : Int)) && (q8.2 == (1 : Int))) && (q23.2 == (0 : Int))) && ((q23.1.length : Int) == (3 : Int))) && (q43.2 == (1 : Int))) && (q61.2 == (0 : Int))) && (q61.1 == (2305843009213693952 : Int))) && (q63.2 == (1 : Int))))] ∧ Hp S w0 w (Res.obj 56 v89 [.int .i64 q87.1.1, .int .i64 q87.1.2] :: Res.obj 56 v85 [.int .i64 q83.1.1, .int .i64 q83.1.2] :: Res.obj 56 v79 [.int .i64 q77.1.1, .int .i64 q77.1.2] :: Res.obj 56 v75 [.int .i64 q73.1.1, .int .i64 q73.1.2] :: Res.obj 56 v67 [.int .i64 q65.1.1, .int .i64 q65.1.2] :: Res.obj 56 v59 [.int .i64 (1073741825 : Int), .int .i64 (0 : Int)] :: Res.obj 56 v57 [.int .i64 (1073741824 : Int), .int .i64 (-1073741824 : Int)] :: Res.sl Ek.c128 24 v38 (List.replicate ((1 : Int)).toNat (Fl.bits 0, Fl.bits 0)) :: Res.sl Ek.c128 24 v41 (mk0 (65537 : Int) (Fl.bits 0, Fl.bits 0)) :: Res.sl Ek.c128 24 v55 q43.1 :: Res.sl Ek.c128 24 v18 (List.replicate ((64 : Int)).toNat (Fl.bits 0, Fl.bits 0)) :: Res.sl Ek.c128 24 v21 (List.replicate ((3 : Int)).toNat (Fl.bits 0, Fl.bits 0)) :: Res.sl Ek.c128 24 v35 q23.1 :: Res.sl Ek.c128 24 v6 (mk0 (65 : Int) (Fl.bits 0, Fl.bits 0)) :: Res.sl Ek.c128 24 v15 q8.1 :: Res.sl Ek.c128 24 v3 q1.1 :: ow)) ?_ ?_
  · rcases Bool.eq_false_or_eq_true (((((((q1.2 == (1 : Int)) && (q8.2 == (1 : Int))) && (q23.2 == (0 : Int))) && ((q23.1.length : Int) == (3 : Int))) && (q43.2 == (1 : Int))) && (q61.2 == (0 : Int))) && (q61.1 == (2305843009213693952 : Int))) with hb104 | hb104
    · skip
      refine st_move hf (wantY hf rfl rfl hb104) rfl (by decide) ?_
      clear hf; intro a ha hf; clear ha
      refine st_ieql hf (by decide) (wantY hf rfl rfl hb104) rfl rfl ?_
      clear hf; intro a ha hf; clear ha
      refine st_pick (v := .bool (q63.2 == (1 : Int))) hf rfl rfl (fun hb' => ?_) (fun hb' => ?_) (by decide) ?_
      · rfl
      · exact absurd (hb104.symm.trans hb') (by decide)
      clear hf; intro a ha hf; clear ha
      refine st_nil hf (th_n ?_)
      exact ⟨hf.sub ⟨rfl, rfl, rfl, rfl, rfl, rfl, rfl, rfl, rfl, rfl, rfl, (by rw [hb104]; rfl), trivial⟩, hp⟩
    refine st_skip hf (wantN hf rfl rfl hb104) rfl (by decide) ?_ rfl
    clear hf; intro a hf
    refine st_skip hf (wantN hf rfl rfl hb104) rfl (by decide) ?_ rfl
    clear hf; intro a hf
    refine st_pick (v := .bool false) hf rfl rfl (fun hb' => ?_) (fun hb' => ?_) (by decide) ?_
    · exact absurd (hb104.symm.trans hb') (by decide)
    · rfl
    clear hf; intro a ha hf; clear ha
    refine st_nil hf (th_n ?_)
    exact ⟨hf.sub ⟨rfl, rfl, rfl, rfl, rfl, rfl, rfl, rfl, rfl, rfl, rfl, (by rw [hb104]; rfl), trivial⟩, hp⟩
  rintro a w ⟨hf, hp⟩
  refine st_move hf rfl rfl (by decide) ?_
  clear hf; intro a ha hf; clear ha
  refine wpList_cut 3 (fun a w => Fr 180 a [(9, optr v57 0), (18, .int .i64 q69.2), (20, .int .i64 q71.2), (22, .int .i64 q73.2), (24, .int .i64 q77.2), (25, .int .i64 q81.1), (26, .int .i64 q81.2), (27, optr v85 0), (28, .int .i64 q83.2), (30, .int .i64 q87.2), (135, .bool (((((((((q1.2 == (1 : Int)) && (q8.2 == (1 : Int))) && (q23.2 == (0 : Int))) && ((q23.1.length : Int) == (3 : Int))) && (q43.2 == (1 : Int))) && (q61.2 == (0 : Int))) && (q61.1 == (2305843009213693952 : Int))) && (q63.2 == (1 : Int))) && (q65.2 == (1 : Int))))] ∧ Hp S w0 w (Res.obj 56 v89 [.int .i64 q87.1.1, .int .i64 q87.1.2] :: Res.obj 56 v85 [.int .i64 q83.1.1, .int .i64 q83.1.2] :: Res.obj 56 v79 [.int .i64 q77.1.1, .int .i64 q77.1.2] :: Res.obj 56 v75 [.int .i64 q73.1.1, .int .i64 q73.1.2] :: Res.obj 56 v67 [.int .i64 q65.1.1, .int .i64 q65.1.2] :: Res.obj 56 v59 [.int .i64 (1073741825 : Int), .int .i64 (0 : Int)] :: Res.obj 56 v57 [.int .i64 (1073741824 : Int), .int .i64 (-1073741824 : Int)] :: Res.sl Ek.c128 24 v38 (List.replicate ((1 : Int)).toNat (Fl.bits 0, Fl.bits 0)) :: Res.sl Ek.c128 24 v41 (mk0 (65537 : Int) (Fl.bits 0, Fl.bits 0)) :: Res.sl Ek.c128 24 v55 q43.1 :: Res.sl Ek.c128 24 v18 (List.replicate ((64 : Int)).toNat (Fl.bits 0, Fl.bits 0)) :: Res.sl Ek.c128 24 v21 (List.replicate ((3 : Int)).toNat (Fl.bits 0, Fl.bits 0)) :: Res.sl Ek.c128 24 v35 q23.1 :: Res.sl Ek.c128 24 v6 (mk0 (65 : Int) (Fl.bits 0, Fl.bits 0)) :: Res.sl Ek.c128 24 v15 q8.1 :: Res.sl Ek.c128 24 v3 q1.1 :: ow)) ?_ ?_
  · rcases Bool.eq_false_or_eq_true ((((((((q1.2 == (1 : Int)) && (q8.2 == (1 : Int))) && (q23.2 == (0 : Int))) && ((q23.1.length : Int) == (3 : Int))) && (q43.2 == (1 : Int))) && (q61.2 == (0 : Int))) && (q61.1 == (2305843009213693952 : Int))) && (q63.2 == (1 : Int))) with hb106 | hb106
    · skip
      refine st_move hf (wantY hf rfl rfl hb106) rfl (by decide) ?_
      clear hf; intro a ha hf; clear ha
      refine st_ieql hf (by decide) (wantY hf rfl rfl hb106) rfl rfl ?_
      clear hf; intro a ha hf; clear ha
      refine st_pick (v := .bool (q65.2 == (1 : Int))) hf rfl rfl (fun hb' => ?_) (fun hb' => ?_) (by decide) ?_
      · rfl
      · exact absurd (hb106.symm.trans hb') (by decide)
      clear hf; intro a ha hf; clear ha
      refine st_nil hf (th_n ?_)
      exact ⟨hf.sub ⟨rfl, rfl, rfl, rfl, rfl, rfl, rfl, rfl, rfl, rfl, (by rw [hb106]; rfl), trivial⟩, hp⟩
    refine st_skip hf (wantN hf rfl rfl hb106) rfl (by decide) ?_ rfl
    clear hf; intro a hf
    refine st_skip hf (wantN hf rfl rfl hb106) rfl (by decide) ?_ rfl
    clear hf; intro a hf
    refine st_pick (v := .bool false) hf rfl rfl (fun hb' => ?_) (fun hb' => ?_) (by decide) ?_
    · exact absurd (hb106.symm.trans hb') (by decide)
    · rfl
    clear hf; intro a ha hf; clear ha
    refine st_nil hf (th_n ?_)
    exact ⟨hf.sub ⟨rfl, rfl, rfl, rfl, rfl, rfl, rfl, rfl, rfl, rfl, (by rw [hb106]; rfl), trivial⟩, hp⟩
  rintro a w ⟨hf, hp⟩
  refine st_move hf rfl rfl (by decide) ?_
  clear hf; intro a ha hf; clear ha
  refine wpList_cut 3 (fun a w => Fr 180 a [(9, optr v57 0), (20, .int .i64 q71.2), (22, .int .i64 q73.2), (24, .int .i64 q77.2), (25, .int .i64 q81.1), (26, .int .i64 q81.2), (27, optr v85 0), (28, .int .i64 q83.2), (30, .int .i64 q87.2), (139, .bool ((((((((((q1.2 == (1 : Int)) && (q8.2 == (1 : Int))) && (q23.2 == (0 : Int))) && ((q23.1.length : Int) == (3 : Int))) && (q43.2 == (1 : Int))) && (q61.2 == (0 : Int))) && (q61.1 == (2305843009213693952 : Int))) && (q63.2 == (1 : Int))) && (q65.2 == (1 : Int))) && (q69.2 == (1 : Int))))] ∧ Hp S w0 w (Res.obj 56 v89 [.int .i64 q87.1.1, .int .i64 q87.1.2] :: Res.obj 56 v85 [.int .i64 q83.1.1, .int .i64 q83.1.2] :: Res.obj 56 v79 [.int .i64 q77.1.1, .int .i64 q77.1.2] :: Res.obj 56 v75 [.int .i64 q73.1.1, .int .i64 q73.1.2] :: Res.obj 56 v67 [.int .i64 q65.1.1, .int .i64 q65.1.2] :: Res.obj 56 v59 [.int .i64 (1073741825 : Int), .int .i64 (0 : Int)] :: Res.obj 56 v57 [.int .i64 (1073741824 : Int), .int .i64 (-1073741824 : Int)] :: Res.sl Ek.c128 24 v38 (List.replicate ((1 : Int)).toNat (Fl.bits 0, Fl.bits 0)) :: Res.sl Ek.c128 24 v41 (mk0 (65537 : Int) (Fl.bits 0, Fl.bits 0)) :: Res.sl Ek.c128 24 v55 q43.1 :: Res.sl Ek.c128 24 v18 (List.replicate ((64 : Int)).toNat (Fl.bits 0, Fl.bits 0)) :: Res.sl Ek.c128 24 v21 (List.replicate ((3 : Int)).toNat (Fl.bits 0, Fl.bits 0)) :: Res.sl Ek.c128 24 v35 q23.1 :: Res.sl Ek.c128 24 v6 (mk0 (65 : Int) (Fl.bits 0, Fl.bits 0)) :: Res.sl Ek.c128 24 v15 q8.1 :: Res.sl Ek.c128 24 v3 q1.1 :: ow)) ?_ ?_
  · rcases Bool.eq_false_or_eq_true (((((((((q1.2 == (1 : Int)) && (q8.2 == (1 : Int))) && (q23.2 == (0 : Int))) && ((q23.1.length : Int) == (3 : Int))) && (q43.2 == (1 : Int))) && (q61.2 == (0 : Int))) && (q61.1 == (2305843009213693952 : Int))) && (q63.2 == (1 : Int))) && (q65.2 == (1 : Int))) with hb108 | hb108
    · skip
      refine st_move hf (wantY hf rfl rfl hb108) rfl (by decide) ?_
      clear hf; intro a ha hf; clear ha
      refine st_ieql hf (by decide) (wantY hf rfl rfl hb108) rfl rfl ?_
      clear hf; intro a ha hf; clear ha
      refine st_pick (v := .bool (q69.2 == (1 : Int))) hf rfl rfl (fun hb' => ?_) (fun hb' => ?_) (by decide) ?_
      · rfl
      · exact absurd (hb108.symm.trans hb') (by decide)
      clear hf; intro a ha hf; clear ha
      refine st_nil hf (th_n ?_)
      exact ⟨hf.sub ⟨rfl, rfl, rfl, rfl, rfl, rfl, rfl, rfl, rfl, (by rw [hb108]; rfl), trivial⟩, hp⟩
    refine st_skip hf (wantN hf rfl rfl hb108) rfl (by decide) ?_ rfl
    clear hf; intro a hf
    refine st_skip hf (wantN hf rfl rfl hb108) rfl (by decide) ?_ rfl
    clear hf; intro a hf
    refine st_pick (v := .bool false) hf rfl rfl (fun hb' => ?_) (fun hb' => ?_) (by decide) ?_
    · exact absurd (hb108.symm.trans hb') (by decide)
    · rfl
    clear hf; intro a ha hf; clear ha
    refine st_nil hf (th_n ?_)
    exact ⟨hf.sub ⟨rfl, rfl, rfl, rfl, rfl, rfl, rfl, rfl, rfl, (by rw [hb108]; rfl), trivial⟩, hp⟩
  rintro a w ⟨hf, hp⟩
  refine st_move hf rfl rfl (by decide) ?_
  clear hf; intro a ha hf; clear ha
  refine wpList_cut 3 (fun a w => Fr 180 a [(9, optr v57 0), (22, .int .i64 q73.2), (24, .int .i64 q77.2), (25, .int .i64 q81.1), (26, .int .i64 q81.2), (27, optr v85 0), (28, .int .i64 q83.2), (30, .int .i64 q87.2), (143, .bool (((((((((((q1.2 == (1 : Int)) && (q8.2 == (1 : Int))) && (q23.2 == (0 : Int))) && ((q23.1.length : Int) == (3 : Int))) && (q43.2 == (1 : Int))) && (q61.2 == (0 : Int))) && (q61.1 == (2305843009213693952 : Int))) && (q63.2 == (1 : Int))) && (q65.2 == (1 : Int))) && (q69.2 == (1 : Int))) && (q71.2 == (1 : Int))))] ∧ Hp S w0 w (Res.obj 56 v89 [.int .i64 q87.1.1, .int .i64 q87.1.2] :: Res.obj 56 v85 [.int .i64 q83.1.1, .int .i64 q83.1.2] :: Res.obj 56 v79 [.int .i64 q77.1.1, .int .i64 q77.1.2] :: Res.obj 56 v75 [.int .i64 q73.1.1, .int .i64 q73.1.2] :: Res.obj 56 v67 [.int .i64 q65.1.1, .int .i64 q65.1.2] :: Res.obj 56 v59 [.int .i64 (1073741825 : Int), .int .i64 (0 : Int)] :: Res.obj 56 v57 [.int .i64 (1073741824 : Int), .int .i64 (-1073741824 : Int)] :: Res.sl Ek.c128 24 v38 (List.replicate ((1 : Int)).toNat (Fl.bits 0, Fl.bits 0)) :: Res.sl Ek.c128 24 v41 (mk0 (65537 : Int) (Fl.bits 0, Fl.bits 0)) :: Res.sl Ek.c128 24 v55 q43.1 :: Res.sl Ek.c128 24 v18 (List.replicate ((64 : Int)).toNat (Fl.bits 0, Fl.bits 0)) :: Res.sl Ek.c128 24 v21 (List.replicate ((3 : Int)).toNat (Fl.bits 0, Fl.bits 0)) :: Res.sl Ek.c128 24 v35 q23.1 :: Res.sl Ek.c128 24 v6 (mk0 (65 : Int) (Fl.bits 0, Fl.bits 0)) :: Res.sl Ek.c128 24 v15 q8.1 :: Res.sl Ek.c128 24 v3 q1.1 :: ow)) ?_ ?_
  · rcases Bool.eq_false_or_eq_true ((((((((((q1.2 == (1 : Int)) && (q8.2 == (1 : Int))) && (q23.2 == (0 : Int))) && ((q23.1.length : Int) == (3 : Int))) && (q43.2 == (1 : Int))) && (q61.2 == (0 : Int))) && (q61.1 == (2305843009213693952 : Int))) && (q63.2 == (1 : Int))) && (q65.2 == (1 : Int))) && (q69.2 == (1 : Int))) with hb110 | hb110
    · skip
      refine st_move hf (wantY hf rfl rfl hb110) rfl (by decide) ?_
      clear hf; intro a ha hf; clear ha
      refine st_ieql hf (by decide) (wantY hf rfl rfl hb110) rfl rfl ?_
      clear hf; intro a ha hf; clear ha
      refine st_pick (v := .bool (q71.2 == (1 : Int))) hf rfl rfl (fun hb' => ?_) (fun hb' => ?_) (by decide) ?_
      · rfl
      · exact absurd (hb110.symm.trans hb') (by decide)
      clear hf; intro a ha hf; clear ha
      refine st_nil hf (th_n ?_)
      exact ⟨hf.sub ⟨rfl, rfl, rfl, rfl, rfl, rfl, rfl, rfl, (by rw [hb110]; rfl), trivial⟩, hp⟩
    refine st_skip hf (wantN hf rfl rfl hb110) rfl (by decide) ?_ rfl
    clear hf; intro a hf
    refine st_skip hf (wantN hf rfl rfl hb110) rfl (by decide) ?_ rfl
    clear hf; intro a hf
    refine st_pick (v := .bool false) hf rfl rfl (fun hb' => ?_) (fun hb' => ?_) (by decide) ?_
    · exact absurd (hb110.symm.trans hb') (by decide)
    · rfl
    clear hf; intro a ha hf; clear ha
    refine st_nil hf (th_n ?_)
    exact ⟨hf.sub ⟨rfl, rfl, rfl, rfl, rfl, rfl, rfl, rfl, (by rw [hb110]; rfl), trivial⟩, hp⟩
  rintro a w ⟨hf, hp⟩
  refine st_move hf rfl rfl (by decide) ?_
  clear hf; intro a ha hf; clear ha
  refine wpList_cut 3 (fun a w => Fr 180 a [(9, optr v57 0), (24, .int .i64 q77.2), (25, .int .i64 q81.1), (26, .int .i64 q81.2), (27, optr v85 0), (28, .int .i64 q83.2), (30, .int .i64 q87.2), (147, .bool ((((((((((((q1.2 == (1 : Int)) && (q8.2 == (1 : Int))) && (q23.2 == (0 : Int))) && ((q23.1.length : Int) == (3 : Int))) && (q43.2 == (1 : Int))) && (q61.2 == (0 : Int))) && (q61.1 == (2305843009213693952 : Int))) && (q63.2 == (1 : Int))) && (q65.2 == (1 : Int))) && (q69.2 == (1 : Int))) && (q71.2 == (1 : Int))) && (q73.2 == (1 : Int))))] ∧ Hp S w0 w (Res.obj 56 v89 [.int .i64 q87.1.1, .int .i64 q87.1.2] :: Res.obj 56 v85 [.int .i64 q83.1.1, .int .i64 q83.1.2] :: Res.obj 56 v79 [.int .i64 q77.1.1, .int .i64 q77.1.2] :: Res.obj 56 v75 [.int .i64 q73.1.1, .int .i64 q73.1.2] :: Res.obj 56 v67 [.int .i64 q65.1.1, .int .i64 q65.1.2] :: Res.obj 56 v59 [.int .i64 (1073741825 : Int), .int .i64 (0 : Int)] :: Res.obj 56 v57 [.int .i64 (1073741824 : Int), .int .i64 (-1073741824 : Int)] :: Res.sl Ek.c128 24 v38 (List.replicate ((1 : Int)).toNat (Fl.bits 0, Fl.bits 0)) :: Res.sl Ek.c128 24 v41 (mk0 (65537 : Int) (Fl.bits 0, Fl.bits 0)) :: Res.sl Ek.c128 24 v55 q43.1 :: Res.sl Ek.c128 24 v18 (List.replicate ((64 : Int)).toNat (Fl.bits 0, Fl.bits 0)) :: Res.sl Ek.c128 24 v21 (List.replicate ((3 : Int)).toNat (Fl.bits 0, Fl.bits 0)) :: Res.sl Ek.c128 24 v35 q23.1 :: Res.sl Ek.c128 24 v6 (mk0 (65 : Int) (Fl.bits 0, Fl.bits 0)) :: Res.sl Ek.c128 24 v15 q8.1 :: Res.sl Ek.c128 24 v3 q1.1 :: ow)) ?_ ?_
  · rcases Bool.eq_false_or_eq_true (((((((((((q1.2 == (1 : Int)) && (q8.2 == (1 : Int))) && (q23.2 == (0 : Int))) && ((q23.1.length : Int) == (3 : Int))) && (q43.2 == (1 : Int))) && (q61.2 == (0 : Int))) && (q61.1 == (2305843009213693952 : Int))) && (q63.2 == (1 : Int))) && (q65.2 == (1 : Int))) && (q69.2 == (1 : Int))) && (q71.2 == (1 : Int))) with hb112 | hb112
    · skip
      refine st_move hf (wantY hf rfl rfl hb112) rfl (by decide) ?_
      clear hf; intro a ha hf; clear ha
      refine st_ieql hf (by decide) (wantY hf rfl rfl hb112) rfl rfl ?_
      clear hf; intro a ha hf; clear ha
      refine st_pick (v := .bool (q73.2 == (1 : Int))) hf rfl rfl (fun hb' => ?_) (fun hb' => ?_) (by decide) ?_
      · rfl
      · exact absurd (hb112.symm.trans hb') (by decide)
      clear hf; intro a ha hf; clear ha
      refine st_nil hf (th_n ?_)
      exact ⟨hf.sub ⟨rfl, rfl, rfl, rfl, rfl, rfl, rfl, (by rw [hb112]; rfl), trivial⟩, hp⟩
    refine st_skip hf (wantN hf rfl rfl hb112) rfl (by decide) ?_ rfl
    clear hf; intro a hf
    refine st_skip hf (wantN hf rfl rfl hb112) rfl (by decide) ?_ rfl
    clear hf; intro a hf
    refine st_pick (v := .bool false) hf rfl rfl (fun hb' => ?_) (fun hb' => ?_) (by decide) ?_
    · exact absurd (hb112.symm.trans hb') (by decide)
    · rfl
    clear hf; intro a ha hf; clear ha
    refine st_nil hf (th_n ?_)
    exact ⟨hf.sub ⟨rfl, rfl, rfl, rfl, rfl, rfl, rfl, (by rw [hb112]; rfl), trivial⟩, hp⟩
  rintro a w ⟨hf, hp⟩
  refine st_move hf rfl rfl (by decide) ?_
  clear hf; intro a ha hf; clear ha
  refine wpList_cut 3 (fun a w => Fr 180 a [(9, optr v57 0), (25, .int .i64 q81.1), (26, .int .i64 q81.2), (27, optr v85 0), (28, .int .i64 q83.2), (30, .int .i64 q87.2), (151, .bool (((((((((((((q1.2 == (1 : Int)) && (q8.2 == (1 : Int))) && (q23.2 == (0 : Int))) && ((q23.1.length : Int) == (3 : Int))) && (q43.2 == (1 : Int))) && (q61.2 == (0 : Int))) && (q61.1 == (2305843009213693952 : Int))) && (q63.2 == (1 : Int))) && (q65.2 == (1 : Int))) && (q69.2 == (1 : Int))) && (q71.2 == (1 : Int))) && (q73.2 == (1 : Int))) && (q77.2 == (1 : Int))))] ∧ Hp S w0 w (Res.obj 56 v89 [.int .i64 q87.1.1, .int .i64 q87.1.2] :: Res.obj 56 v85 [.int .i64 q83.1.1, .int .i64 q83.1.2] :: Res.obj 56 v79 [.int .i64 q77.1.1, .int .i64 q77.1.2] :: Res.obj 56 v75 [.int .i64 q73.1.1, .int .i64 q73.1.2] :: Res.obj 56 v67 [.int .i64 q65.1.1, .int .i64 q65.1.2] :: Res.obj 56 v59 [.int .i64 (1073741825 : Int), .int .i64 (0 : Int)] :: Res.obj 56 v57 [.int .i64 (1073741824 : Int), .int .i64 (-1073741824 : Int)] :: Res.sl Ek.c128 24 v38 (List.replicate ((1 : Int)).toNat (Fl.bits 0, Fl.bits 0)) :: Res.sl Ek.c128 24 v41 (mk0 (65537 : Int) (Fl.bits 0, Fl.bits 0)) :: Res.sl Ek.c128 24 v55 q43.1 :: Res.sl Ek.c128 24 v18 (List.replicate ((64 : Int)).toNat (Fl.bits 0, Fl.bits 0)) :: Res.sl Ek.c128 24 v21 (List.replicate ((3 : Int)).toNat (Fl.bits 0, Fl.bits 0)) :: Res.sl Ek.c128 24 v35 q23.1 :: Res.sl Ek.c128 24 v6 (mk0 (65 : Int) (Fl.bits 0, Fl.bits 0)) :: Res.sl Ek.c128 24 v15 q8.1 :: Res.sl Ek.c128 24 v3 q1.1 :: ow)) ?_ ?_
  · rcases Bool.eq_false_or_eq_true ((((((((((((q1.2 == (1 : Int)) && (q8.2 == (1 : Int))) && (q23.2 == (0 : Int))) && ((q23.1.length : Int) == (3 : Int))) && (q43.2 == (1 : Int))) && (q61.2 == (0 : Int))) && (q61.1 == (2305843009213693952 : Int))) && (q63.2 == (1 : Int))) && (q65.2 == (1 : Int))) && (q69.2 == (1 : Int))) && (q71.2 == (1 : Int))) && (q73.2 == (1 : Int))) with hb114 | hb114
    · skip
      refine st_move hf (wantY hf rfl rfl hb114) rfl (by decide) ?_
      clear hf; intro a ha hf; clear ha
      refine st_ieql hf (by decide) (wantY hf rfl rfl hb114) rfl rfl ?_
      clear hf; intro a ha hf; clear ha
      refine st_pick (v := .bool (q77.2 == (1 : Int))) hf rfl rfl (fun hb' => ?_) (fun hb' => ?_) (by decide) ?_
      · rfl
      · exact absurd (hb114.symm.trans hb') (by decide)
      clear hf; intro a ha hf; clear ha
      refine st_nil hf (th_n ?_)
      exact ⟨hf.sub ⟨rfl, rfl, rfl, rfl, rfl, rfl, (by rw [hb114]; rfl), trivial⟩, hp⟩
    refine st_skip hf (wantN hf rfl rfl hb114) rfl (by decide) ?_ rfl
    clear hf; intro a hf
    refine st_skip hf (wantN hf rfl rfl hb114) rfl (by decide) ?_ rfl
    clear hf; intro a hf
    refine st_pick (v := .bool false) hf rfl rfl (fun hb' => ?_) (fun hb' => ?_) (by decide) ?_
    · exact absurd (hb114.symm.trans hb') (by decide)
    · rfl
    clear hf; intro a ha hf; clear ha
    refine st_nil hf (th_n ?_)
    exact ⟨hf.sub ⟨rfl, rfl, rfl, rfl, rfl, rfl, (by rw [hb114]; rfl), trivial⟩, hp⟩
  rintro a w ⟨hf, hp⟩
  refine st_move hf rfl rfl (by decide) ?_
  clear hf; intro a ha hf; clear ha
  refine wpList_cut 3 (fun a w => Fr 180 a [(9, optr v57 0), (25, .int .i64 q81.1), (27, optr v85 0), (28, .int .i64 q83.2), (30, .int .i64 q87.2), (155, .bool ((((((((((((((q1.2 == (1 : Int)) && (q8.2 == (1 : Int))) && (q23.2 == (0 : Int))) && ((q23.1.length : Int) == (3 : Int))) && (q43.2 == (1 : Int))) && (q61.2 == (0 : Int))) && (q61.1 == (2305843009213693952 : Int))) && (q63.2 == (1 : Int))) && (q65.2 == (1 : Int))) && (q69.2 == (1 : Int))) && (q71.2 == (1 : Int))) && (q73.2 == (1 : Int))) && (q77.2 == (1 : Int))) && (q81.2 == (0 : Int))))] ∧ Hp S w0 w (Res.obj 56 v89 [.int .i64 q87.1.1, .int .i64 q87.1.2] :: Res.obj 56 v85 [.int .i64 q83.1.1, .int .i64 q83.1.2] :: Res.obj 56 v79 [.int .i64 q77.1.1, .int .i64 q77.1.2] :: Res.obj 56 v75 [.int .i64 q73.1.1, .int .i64 q73.1.2] :: Res.obj 56 v67 [.int .i64 q65.1.1, .int .i64 q65.1.2] :: Res.obj 56 v59 [.int .i64 (1073741825 : Int), .int .i64 (0 : Int)] :: Res.obj 56 v57 [.int .i64 (1073741824 : Int), .int .i64 (-1073741824 : Int)] :: Res.sl Ek.c128 24 v38 (List.replicate ((1 : Int)).toNat (Fl.bits 0, Fl.bits 0)) :: Res.sl Ek.c128 24 v41 (mk0 (65537 : Int) (Fl.bits 0, Fl.bits 0)) :: Res.sl Ek.c128 24 v55 q43.1 :: Res.sl Ek.c128 24 v18 (List.replicate ((64 : Int)).toNat (Fl.bits 0, Fl.bits 0)) :: Res.sl Ek.c128 24 v21 (List.replicate ((3 : Int)).toNat (Fl.bits 0, Fl.bits 0)) :: Res.sl Ek.c128 24 v35 q23.1 :: Res.sl Ek.c128 24 v6 (mk0 (65 : Int) (Fl.bits 0, Fl.bits 0)) :: Res.sl Ek.c128 24 v15 q8.1 :: Res.sl Ek.c128 24 v3 q1.1 :: ow)) ?_ ?_
  · rcases Bool.eq_false_or_eq_true (((((((((((((q1.2 == (1 : Int)) && (q8.2 == (1 : Int))) && (q23.2 == (0 : Int))) && ((q23.1.length : Int) == (3 : Int))) && (q43.2 == (1 : Int))) && (q61.2 == (0 : Int))) && (q61.1 == (2305843009213693952 : Int))) && (q63.2 == (1 : Int))) && (q65.2 == (1 : Int))) && (q69.2 == (1 : Int))) && (q71.2 == (1 : Int))) && (q73.2 == (1 : Int))) && (q77.2 == (1 : Int))) with hb116 | hb116
    · skip
      refine st_move hf (wantY hf rfl rfl hb116) rfl (by decide) ?_
      clear hf; intro a ha hf; clear ha
      refine st_ieql hf (by decide) (wantY hf rfl rfl hb116) rfl rfl ?_
      clear hf; intro a ha hf; clear ha
      refine st_pick (v := .bool (q81.2 == (0 : Int))) hf rfl rfl (fun hb' => ?_) (fun hb' => ?_) (by decide) ?_
      · rfl
      · exact absurd (hb116.symm.trans hb') (by decide)
      clear hf; intro a ha hf; clear ha
      refine st_nil hf (th_n ?_)
      exact ⟨hf.sub ⟨rfl, rfl, rfl, rfl, rfl, (by rw [hb116]; rfl), trivial⟩, hp⟩
    refine st_skip hf (wantN hf rfl rfl hb116) rfl (by decide) ?_ rfl
    clear hf; intro a hf
    refine st_skip hf (wantN hf rfl rfl hb116) rfl (by decide) ?_ rfl
    clear hf; intro a hf
    refine st_pick (v := .bool false) hf rfl rfl (fun hb' => ?_) (fun hb' => ?_) (by decide) ?_
    · exact absurd (hb116.symm.trans hb') (by decide)
    · rfl
    clear hf; intro a ha hf; clear ha
    refine st_nil hf (th_n ?_)
    exact ⟨hf.sub ⟨rfl, rfl, rfl, rfl, rfl, (by rw [hb116]; rfl), trivial⟩, hp⟩
  rintro a w ⟨hf, hp⟩
  refine st_move hf rfl rfl (by decide) ?_
  clear hf; intro a ha hf; clear ha
  refine wpList_cut 3 (fun a w => Fr 180 a [(9, optr v57 0), (27, optr v85 0), (28, .int .i64 q83.2), (30, .int .i64 q87.2), (159, .bool (((((((((((((((q1.2 == (1 : Int)) && (q8.2 == (1 : Int))) && (q23.2 == (0 : Int))) && ((q23.1.length : Int) == (3 : Int))) && (q43.2 == (1 : Int))) && (q61.2 == (0 : Int))) && (q61.1 == (2305843009213693952 : Int))) && (q63.2 == (1 : Int))) && (q65.2 == (1 : Int))) && (q69.2 == (1 : Int))) && (q71.2 == (1 : Int))) && (q73.2 == (1 : Int))) && (q77.2 == (1 : Int))) && (q81.2 == (0 : Int))) && (q81.1 == (60 : Int))))] ∧ Hp S w0 w (Res.obj 56 v89 [.int .i64 q87.1.1, .int .i64 q87.1.2] :: Res.obj 56 v85 [.int .i64 q83.1.1, .int .i64 q83.1.2] :: Res.obj 56 v79 [.int .i64 q77.1.1, .int .i64 q77.1.2] :: Res.obj 56 v75 [.int .i64 q73.1.1, .int .i64 q73.1.2] :: Res.obj 56 v67 [.int .i64 q65.1.1, .int .i64 q65.1.2] :: Res.obj 56 v59 [.int .i64 (1073741825 : Int), .int .i64 (0 : Int)] :: Res.obj 56 v57 [.int .i64 (1073741824 : Int), .int .i64 (-1073741824 : Int)] :: Res.sl Ek.c128 24 v38 (List.replicate ((1 : Int)).toNat (Fl.bits 0, Fl.bits 0)) :: Res.sl Ek.c128 24 v41 (mk0 (65537 : Int) (Fl.bits 0, Fl.bits 0)) :: Res.sl Ek.c128 24 v55 q43.1 :: Res.sl Ek.c128 24 v18 (List.replicate ((64 : Int)).toNat (Fl.bits 0, Fl.bits 0)) :: Res.sl Ek.c128 24 v21 (List.replicate ((3 : Int)).toNat (Fl.bits 0, Fl.bits 0)) :: Res.sl Ek.c128 24 v35 q23.1 :: Res.sl Ek.c128 24 v6 (mk0 (65 : Int) (Fl.bits 0, Fl.bits 0)) :: Res.sl Ek.c128 24 v15 q8.1 :: Res.sl Ek.c128 24 v3 q1.1 :: ow)) ?_ ?_
  · rcases Bool.eq_false_or_eq_true ((((((((((((((q1.2 == (1 : Int)) && (q8.2 == (1 : Int))) && (q23.2 == (0 : Int))) && ((q23.1.length : Int) == (3 : Int))) && (q43.2 == (1 : Int))) && (q61.2 == (0 : Int))) && (q61.1 == (2305843009213693952 : Int))) && (q63.2 == (1 : Int))) && (q65.2 == (1 : Int))) && (q69.2 == (1 : Int))) && (q71.2 == (1 : Int))) && (q73.2 == (1 : Int))) && (q77.2 == (1 : Int))) && (q81.2 == (0 : Int))) with hb118 | hb118
    · skip
      refine st_move hf (wantY hf rfl rfl hb118) rfl (by decide) ?_
      clear hf; intro a ha hf; clear ha
      refine st_ieql hf (by decide) (wantY hf rfl rfl hb118) rfl rfl ?_
      clear hf; intro a ha hf; clear ha
      refine st_pick (v := .bool (q81.1 == (60 : Int))) hf rfl rfl (fun hb' => ?_) (fun hb' => ?_) (by decide) ?_
      · rfl
      · exact absurd (hb118.symm.trans hb') (by decide)
      clear hf; intro a ha hf; clear ha
      refine st_nil hf (th_n ?_)
      exact ⟨hf.sub ⟨rfl, rfl, rfl, rfl, (by rw [hb118]; rfl), trivial⟩, hp⟩
    refine st_skip hf (wantN hf rfl rfl hb118) rfl (by decide) ?_ rfl
    clear hf; intro a hf
    refine st_skip hf (wantN hf rfl rfl hb118) rfl (by decide) ?_ rfl
    clear hf; intro a hf
    refine st_pick (v := .bool false) hf rfl rfl (fun hb' => ?_) (fun hb' => ?_) (by decide) ?_
    · exact absurd (hb118.symm.trans hb') (by decide)
    · rfl
    clear hf; intro a ha hf; clear ha
    refine st_nil hf (th_n ?_)
    exact ⟨hf.sub ⟨rfl, rfl, rfl, rfl, (by rw [hb118]; rfl), trivial⟩, hp⟩
  rintro a w ⟨hf, hp⟩
  refine st_move hf rfl rfl (by decide) ?_
  clear hf; intro a ha hf; clear ha
  refine wpList_cut 3 (fun a w => Fr 180 a [(9, optr v57 0), (27, optr v85 0), (30, .int .i64 q87.2), (163, .bool ((((((((((((((((q1.2 == (1 : Int)) && (q8.2 == (1 : Int))) && (q23.2 == (0 : Int))) && ((q23.1.length : Int) == (3 : Int))) && (q43.2 == (1 : Int))) && (q61.2 == (0 : Int))) && (q61.1 == (2305843009213693952 : Int))) && (q63.2 == (1 : Int))) && (q65.2 == (1 : Int))) && (q69.2 == (1 : Int))) && (q71.2 == (1 : Int))) && (q73.2 == (1 : Int))) && (q77.2 == (1 : Int))) && (q81.2 == (0 : Int))) && (q81.1 == (60 : Int))) && (q83.2 == (0 : Int))))] ∧ Hp S w0 w (Res.obj 56 v89 [.int .i64 q87.1.1, .int .i64 q87.1.2] :: Res.obj 56 v85 [.int .i64 q83.1.1, .int .i64 q83.1.2] :: Res.obj 56 v79 [.int .i64 q77.1.1, .int .i64 q77.1.2] :: Res.obj 56 v75 [.int .i64 q73.1.1, .int .i64 q73.1.2] :: Res.obj 56 v67 [.int .i64 q65.1.1, .int .i64 q65.1.2] :: Res.obj 56 v59 [.int .i64 (1073741825 : Int), .int .i64 (0 : Int)] :: Res.obj 56 v57 [.int .i64 (1073741824 : Int), .int .i64 (-1073741824 : Int)] :: Res.sl Ek.c128 24 v38 (List.replicate ((1 : Int)).toNat (Fl.bits 0, Fl.bits 0)) :: Res.sl Ek.c128 24 v41 (mk0 (65537 : Int) (Fl.bits 0, Fl.bits 0)) :: Res.sl Ek.c128 24 v55 q43.1 :: Res.sl Ek.c128 24 v18 (List.replicate ((64 : Int)).toNat (Fl.bits 0, Fl.bits 0)) :: Res.sl Ek.c128 24 v21 (List.replicate ((3 : Int)).toNat (Fl.bits 0, Fl.bits 0)) :: Res.sl Ek.c128 24 v35 q23.1 :: Res.sl Ek.c128 24 v6 (mk0 (65 : Int) (Fl.bits 0, Fl.bits 0)) :: Res.sl Ek.c128 24 v15 q8.1 :: Res.sl Ek.c128 24 v3 q1.1 :: ow)) ?_ ?_
  · rcases Bool.eq_false_or_eq_true (((((((((((((((q1.2 == (1 : Int)) && (q8.2 == (1 : Int))) && (q23.2 == (0 : Int))) && ((q23.1.length : Int) == (3 : Int))) && (q43.2 == (1 : Int))) && (q61.2 == (0 : Int))) && (q61.1 == (2305843009213693952 : Int))) && (q63.2 == (1 : Int))) && (q65.2 == (1 : Int))) && (q69.2 == (1 : Int))) && (q71.2 == (1 : Int))) && (q73.2 == (1 : Int))) && (q77.2 == (1 : Int))) && (q81.2 == (0 : Int))) && (q81.1 == (60 : Int))) with hb120 | hb120
    · skip
      refine st_move hf (wantY hf rfl rfl hb120) rfl (by decide) ?_
      clear hf; intro a ha hf; clear ha
      refine st_ieql hf (by decide) (wantY hf rfl rfl hb120) rfl rfl ?_
      clear hf; intro a ha hf; clear ha
      refine st_pick (v := .bool (q83.2 == (0 : Int))) hf rfl rfl (fun hb' => ?_) (fun hb' => ?_) (by decide) ?_
      · rfl
      · exact absurd (hb120.symm.trans hb') (by decide)
      clear hf; intro a ha hf; clear ha
      refine st_nil hf (th_n ?_)
      exact ⟨hf.sub ⟨rfl, rfl, rfl, (by rw [hb120]; rfl), trivial⟩, hp⟩
    refine st_skip hf (wantN hf rfl rfl hb120) rfl (by decide) ?_ rfl
    clear hf; intro a hf
    refine st_skip hf (wantN hf rfl rfl hb120) rfl (by decide) ?_ rfl
    clear hf; intro a hf
    refine st_pick (v := .bool false) hf rfl rfl (fun hb' => ?_) (fun hb' => ?_) (by decide) ?_
    · exact absurd (hb120.symm.trans hb') (by decide)
    · rfl
    clear hf; intro a ha hf; clear ha
    refine st_nil hf (th_n ?_)
    exact ⟨hf.sub ⟨rfl, rfl, rfl, (by rw [hb120]; rfl), trivial⟩, hp⟩
  rintro a w ⟨hf, hp⟩
  refine st_move hf rfl rfl (by decide) ?_
  clear hf; intro a ha hf; clear ha
  refine wpList_cut 4 (fun a w => Fr 180 a [(30, .int .i64 q87.2), (168, .bool (((((((((((((((((q1.2 == (1 : Int)) && (q8.2 == (1 : Int))) && (q23.2 == (0 : Int))) && ((q23.1.length : Int) == (3 : Int))) && (q43.2 == (1 : Int))) && (q61.2 == (0 : Int))) && (q61.1 == (2305843009213693952 : Int))) && (q63.2 == (1 : Int))) && (q65.2 == (1 : Int))) && (q69.2 == (1 : Int))) && (q71.2 == (1 : Int))) && (q73.2 == (1 : Int))) && (q77.2 == (1 : Int))) && (q81.2 == (0 : Int))) && (q81.1 == (60 : Int))) && (q83.2 == (0 : Int))) && ((q83.1.1 == (1073741824 : Int)) && ((q83.1.2 == (-1073741824 : Int)) && true))))] ∧ Hp S w0 w (Res.obj 56 v89 [.int .i64 q87.1.1, .int .i64 q87.1.2] :: Res.obj 56 v85 [.int .i64 q83.1.1, .int .i64 q83.1.2] :: Res.obj 56 v79 [.int .i64 q77.1.1, .int .i64 q77.1.2] :: Res.obj 56 v75 [.int .i64 q73.1.1, .int .i64 q73.1.2] :: Res.obj 56 v67 [.int .i64 q65.1.1, .int .i64 q65.1.2] :: Res.obj 56 v59 [.int .i64 (1073741825 : Int), .int .i64 (0 : Int)] :: Res.obj 56 v57 [.int .i64 (1073741824 : Int), .int .i64 (-1073741824 : Int)] :: Res.sl Ek.c128 24 v38 (List.replicate ((1 : Int)).toNat (Fl.bits 0, Fl.bits 0)) :: Res.sl Ek.c128 24 v41 (mk0 (65537 : Int) (Fl.bits 0, Fl.bits 0)) :: Res.sl Ek.c128 24 v55 q43.1 :: Res.sl Ek.c128 24 v18 (List.replicate ((64 : Int)).toNat (Fl.bits 0, Fl.bits 0)) :: Res.sl Ek.c128 24 v21 (List.replicate ((3 : Int)).toNat (Fl.bits 0, Fl.bits 0)) :: Res.sl Ek.c128 24 v35 q23.1 :: Res.sl Ek.c128 24 v6 (mk0 (65 : Int) (Fl.bits 0, Fl.bits 0)) :: Res.sl Ek.c128 24 v15 q8.1 :: Res.sl Ek.c128 24 v3 q1.1 :: ow)) ?_ ?_
  · rcases Bool.eq_false_or_eq_true ((((((((((((((((q1.2 == (1 : Int)) && (q8.2 == (1 : Int))) && (q23.2 == (0 : Int))) && ((q23.1.length : Int) == (3 : Int))) && (q43.2 == (1 : Int))) && (q61.2 == (0 : Int))) && (q61.1 == (2305843009213693952 : Int))) && (q63.2 == (1 : Int))) && (q65.2 == (1 : Int))) && (q69.2 == (1 : Int))) && (q71.2 == (1 : Int))) && (q73.2 == (1 : Int))) && (q77.2 == (1 : Int))) && (q81.2 == (0 : Int))) && (q81.1 == (60 : Int))) && (q83.2 == (0 : Int))) with hb122 | hb122
    · skip
      refine st_ldOA (m := 2) (us := [.int .i64 q83.1.1, .int .i64 q83.1.2]) hf (by decide) (by kernel_rfl) (wantY hf rfl rfl hb122) rfl (hp.ob (i := 1) rfl) rfl rfl ?_
      clear hf; intro a ha hf; clear ha
      refine st_ldOA (m := 2) (us := [.int .i64 (1073741824 : Int), .int .i64 (-1073741824 : Int)]) hf (by decide) (by kernel_rfl) (wantY hf rfl rfl hb122) rfl (hp.ob (i := 6) rfl) rfl rfl ?_
      clear hf; intro a ha hf; clear ha
      refine st_eqA (xs := [.int .i64 q83.1.1, .int .i64 q83.1.2]) (ys := [.int .i64 (1073741824 : Int), .int .i64 (-1073741824 : Int)]) hf (by decide) (by kernel_rfl) (by kernel_rfl) (by kernel_rfl) (by kernel_rfl) (wantY hf rfl rfl hb122) rfl rfl (b := ((q83.1.1 == (1073741824 : Int)) && ((q83.1.2 == (-1073741824 : Int)) && true))) rfl ?_
      clear hf; intro a ha hf; clear ha
      refine st_pick (v := .bool ((q83.1.1 == (1073741824 : Int)) && ((q83.1.2 == (-1073741824 : Int)) && true))) hf rfl rfl (fun hb' => ?_) (fun hb' => ?_) (by decide) ?_
      · rfl
      · exact absurd (hb122.symm.trans hb') (by decide)
      clear hf; intro a ha hf; clear ha
      refine st_nil hf (th_n ?_)
      exact ⟨hf.sub ⟨rfl, (by rw [hb122]; rfl), trivial⟩, hp⟩
    refine st_skip hf (wantN hf rfl rfl hb122) rfl (by decide) ?_ rfl
    clear hf; intro a hf
    refine st_skip hf (wantN hf rfl rfl hb122) rfl (by decide) ?_ rfl
    clear hf; intro a hf
    refine st_skip hf (wantN hf rfl rfl hb122) rfl (by decide) ?_ rfl
    clear hf; intro a hf
    refine st_pick (v := .bool false) hf rfl rfl (fun hb' => ?_) (fun hb' => ?_) (by decide) ?_
    · exact absurd (hb122.symm.trans hb') (by decide)
    · rfl
    clear hf; intro a ha hf; clear ha
    refine st_nil hf (th_n ?_)
    exact ⟨hf.sub ⟨rfl, (by rw [hb122]; rfl), trivial⟩, hp⟩
  rintro a w ⟨hf, hp⟩
  refine st_move hf rfl rfl (by decide) ?_
  clear hf; intro a ha hf; clear ha
  refine wpList_cut 3 (fun a w => Fr 180 a [(172, .bool ((((((((((((((((((q1.2 == (1 : Int)) && (q8.2 == (1 : Int))) && (q23.2 == (0 : Int))) && ((q23.1.length : Int) == (3 : Int))) && (q43.2 == (1 : Int))) && (q61.2 == (0 : Int))) && (q61.1 == (2305843009213693952 : Int))) && (q63.2 == (1 : Int))) && (q65.2 == (1 : Int))) && (q69.2 == (1 : Int))) && (q71.2 == (1 : Int))) && (q73.2 == (1 : Int))) && (q77.2 == (1 : Int))) && (q81.2 == (0 : Int))) && (q81.1 == (60 : Int))) && (q83.2 == (0 : Int))) && ((q83.1.1 == (1073741824 : Int)) && ((q83.1.2 == (-1073741824 : Int)) && true))) && (q87.2 == (1 : Int))))] ∧ Hp S w0 w (Res.obj 56 v89 [.int .i64 q87.1.1, .int .i64 q87.1.2] :: Res.obj 56 v85 [.int .i64 q83.1.1, .int .i64 q83.1.2] :: Res.obj 56 v79 [.int .i64 q77.1.1, .int .i64 q77.1.2] :: Res.obj 56 v75 [.int .i64 q73.1.1, .int .i64 q73.1.2] :: Res.obj 56 v67 [.int .i64 q65.1.1, .int .i64 q65.1.2] :: Res.obj 56 v59 [.int .i64 (1073741825 : Int), .int .i64 (0 : Int)] :: Res.obj 56 v57 [.int .i64 (1073741824 : Int), .int .i64 (-1073741824 : Int)] :: Res.sl Ek.c128 24 v38 (List.replicate ((1 : Int)).toNat (Fl.bits 0, Fl.bits 0)) :: Res.sl Ek.c128 24 v41 (mk0 (65537 : Int) (Fl.bits 0, Fl.bits 0)) :: Res.sl Ek.c128 24 v55 q43.1 :: Res.sl Ek.c128 24 v18 (List.replicate ((64 : Int)).toNat (Fl.bits 0, Fl.bits 0)) :: Res.sl Ek.c128 24 v21 (List.replicate ((3 : Int)).toNat (Fl.bits 0, Fl.bits 0)) :: Res.sl Ek.c128 24 v35 q23.1 :: Res.sl Ek.c128 24 v6 (mk0 (65 : Int) (Fl.bits 0, Fl.bits 0)) :: Res.sl Ek.c128 24 v15 q8.1 :: Res.sl Ek.c128 24 v3 q1.1 :: ow)) ?_ ?_
  · rcases Bool.eq_false_or_eq_true (((((((((((((((((q1.2 == (1 : Int)) && (q8.2 == (1 : Int))) && (q23.2 == (0 : Int))) && ((q23.1.length : Int) == (3 : Int))) && (q43.2 == (1 : Int))) && (q61.2 == (0 : Int))) && (q61.1 == (2305843009213693952 : Int))) && (q63.2 == (1 : Int))) && (q65.2 == (1 : Int))) && (q69.2 == (1 : Int))) && (q71.2 == (1 : Int))) && (q73.2 == (1 : Int))) && (q77.2 == (1 : Int))) && (q81.2 == (0 : Int))) && (q81.1 == (60 : Int))) && (q83.2 == (0 : Int))) && ((q83.1.1 == (1073741824 : Int)) && ((q83.1.2 == (-1073741824 : Int)) && true))) with hb124 | hb124
    · skip
      refine st_move hf (wantY hf rfl rfl hb124) rfl (by decide) ?_
      clear hf; intro a ha hf; clear ha
      refine st_ieql hf (by decide) (wantY hf rfl rfl hb124) rfl rfl ?_
      clear hf; intro a ha hf; clear ha
      refine st_pick (v := .bool (q87.2 == (1 : Int))) hf rfl rfl (fun hb' => ?_) (fun hb' => ?_) (by decide) ?_
      · rfl
      · exact absurd (hb124.symm.trans hb') (by decide)
      clear hf; intro a ha hf; clear ha
      refine st_nil hf (th_n ?_)
      exact ⟨hf.sub ⟨(by rw [hb124]; rfl), trivial⟩, hp⟩
    refine st_skip hf (wantN hf rfl rfl hb124) rfl (by decide) ?_ rfl
    clear hf; intro a hf
    refine st_skip hf (wantN hf rfl rfl hb124) rfl (by decide) ?_ rfl
    clear hf; intro a hf
    refine st_pick (v := .bool false) hf rfl rfl (fun hb' => ?_) (fun hb' => ?_) (by decide) ?_
    · exact absurd (hb124.symm.trans hb') (by decide)
    · rfl
    clear hf; intro a ha hf; clear ha
    refine st_nil hf (th_n ?_)
    exact ⟨hf.sub ⟨(by rw [hb124]; rfl), trivial⟩, hp⟩
  rintro a w ⟨hf, hp⟩
  refine st_move hf rfl rfl (by decide) ?_
  clear hf; intro a ha hf; clear ha
  obtain ⟨z127, hz125, h⟩ := bnd h
  refine wpList_cut 3 (fun a w => Fr 180 a [(176, .bool z127)] ∧ Hp S w0 w (Res.obj 56 v89 [.int .i64 q87.1.1, .int .i64 q87.1.2] :: Res.obj 56 v85 [.int .i64 q83.1.1, .int .i64 q83.1.2] :: Res.obj 56 v79 [.int .i64 q77.1.1, .int .i64 q77.1.2] :: Res.obj 56 v75 [.int .i64 q73.1.1, .int .i64 q73.1.2] :: Res.obj 56 v67 [.int .i64 q65.1.1, .int .i64 q65.1.2] :: Res.obj 56 v59 [.int .i64 (1073741825 : Int), .int .i64 (0 : Int)] :: Res.obj 56 v57 [.int .i64 (1073741824 : Int), .int .i64 (-1073741824 : Int)] :: Res.sl Ek.c128 24 v38 (List.replicate ((1 : Int)).toNat (Fl.bits 0, Fl.bits 0)) :: Res.sl Ek.c128 24 v41 (mk0 (65537 : Int) (Fl.bits 0, Fl.bits 0)) :: Res.sl Ek.c128 24 v55 q43.1 :: Res.sl Ek.c128 24 v18 (List.replicate ((64 : Int)).toNat (Fl.bits 0, Fl.bits 0)) :: Res.sl Ek.c128 24 v21 (List.replicate ((3 : Int)).toNat (Fl.bits 0, Fl.bits 0)) :: Res.sl Ek.c128 24 v35 q23.1 :: Res.sl Ek.c128 24 v6 (mk0 (65 : Int) (Fl.bits 0, Fl.bits 0)) :: Res.sl Ek.c128 24 v15 q8.1 :: Res.sl Ek.c128 24 v3 q1.1 :: ow)) ?_ ?_
  · rcases Bool.eq_false_or_eq_true ((((((((((((((((((q1.2 == (1 : Int)) && (q8.2 == (1 : Int))) && (q23.2 == (0 : Int))) && ((q23.1.length : Int) == (3 : Int))) && (q43.2 == (1 : Int))) && (q61.2 == (0 : Int))) && (q61.1 == (2305843009213693952 : Int))) && (q63.2 == (1 : Int))) && (q65.2 == (1 : Int))) && (q69.2 == (1 : Int))) && (q71.2 == (1 : Int))) && (q73.2 == (1 : Int))) && (q77.2 == (1 : Int))) && (q81.2 == (0 : Int))) && (q81.1 == (60 : Int))) && (q83.2 == (0 : Int))) && ((q83.1.1 == (1073741824 : Int)) && ((q83.1.2 == (-1073741824 : Int)) && true))) && (q87.2 == (1 : Int))) with hb126 | hb126
    · skip
      replace hz125 := ifT hz125 hb126
      obtain ⟨q128, hcall129, hz125⟩ := bnd hz125
      refine st_call hf (by decide) Try.func26 rfl rfl (wantY hf rfl rfl hb126) rfl rfl (f_plane_Sum_c hp _ _ (RdS.nil _ _ _) hcall129) ?_
      rintro _ w ⟨v130, v131, rfl, y132, y133, hp0⟩
      clear hp; have hp := hp0; clear hp0
      replace hp : Hp _ _ _ (Res.obj 56 v89 [.int .i64 q87.1.1, .int .i64 q87.1.2] :: Res.obj 56 v85 [.int .i64 q83.1.1, .int .i64 q83.1.2] :: Res.obj 56 v79 [.int .i64 q77.1.1, .int .i64 q77.1.2] :: Res.obj 56 v75 [.int .i64 q73.1.1, .int .i64 q73.1.2] :: Res.obj 56 v67 [.int .i64 q65.1.1, .int .i64 q65.1.2] :: Res.obj 56 v59 [.int .i64 (1073741825 : Int), .int .i64 (0 : Int)] :: Res.obj 56 v57 [.int .i64 (1073741824 : Int), .int .i64 (-1073741824 : Int)] :: Res.sl Ek.c128 24 v38 (List.replicate ((1 : Int)).toNat (Fl.bits 0, Fl.bits 0)) :: Res.sl Ek.c128 24 v41 (mk0 (65537 : Int) (Fl.bits 0, Fl.bits 0)) :: Res.sl Ek.c128 24 v55 q43.1 :: Res.sl Ek.c128 24 v18 (List.replicate ((64 : Int)).toNat (Fl.bits 0, Fl.bits 0)) :: Res.sl Ek.c128 24 v21 (List.replicate ((3 : Int)).toNat (Fl.bits 0, Fl.bits 0)) :: Res.sl Ek.c128 24 v35 q23.1 :: Res.sl Ek.c128 24 v6 (mk0 (65 : Int) (Fl.bits 0, Fl.bits 0)) :: Res.sl Ek.c128 24 v15 q8.1 :: Res.sl Ek.c128 24 v3 q1.1 :: ow) := hp
      refine ⟨_, rfl, ?_⟩
      clear hf; intro a hf
      refine st_ccmp (r_ceq (x := q128) (y := (Fl.bits 0, Fl.bits 0)) y132 y133 rfl rfl) hf (by decide) (wantY hf rfl rfl hb126) rfl rfl ?_
      clear hf; intro a ha hf; clear ha
      obtain rfl := Option.some.inj hz125
      refine st_pick (v := .bool (ceq q128 (Fl.bits 0, Fl.bits 0))) hf rfl rfl (fun hb' => ?_) (fun hb' => ?_) (by decide) ?_
      · rfl
      · exact absurd (hb126.symm.trans hb') (by decide)
      clear hf; intro a ha hf; clear ha
      refine st_nil hf (th_n ?_)
      exact ⟨hf.sub ⟨rfl, trivial⟩, hp⟩
    replace hz125 := ifF hz125 hb126
    refine st_skip hf (wantN hf rfl rfl hb126) rfl (by decide) ?_ rfl
    clear hf; intro a hf
    refine st_skip hf (wantN hf rfl rfl hb126) rfl (by decide) ?_ rfl
    clear hf; intro a hf
    obtain rfl := Option.some.inj hz125
    refine st_pick (v := .bool false) hf rfl rfl (fun hb' => ?_) (fun hb' => ?_) (by decide) ?_
    · exact absurd (hb126.symm.trans hb') (by decide)
    · rfl
    clear hf; intro a ha hf; clear ha
    refine st_nil hf (th_n ?_)
    exact ⟨hf.sub ⟨rfl, trivial⟩, hp⟩
  rintro a w ⟨hf, hp⟩
  refine st_move hf rfl rfl (by decide) ?_
  clear hf; intro a ha hf; clear ha
  obtain ⟨z136, hz134, h⟩ := bnd h
  refine wpList_cut 2 (fun a w => Fr 180 a [(179, .bool z136)] ∧ Hp S w0 w (Res.obj 56 v89 [.int .i64 q87.1.1, .int .i64 q87.1.2] :: Res.obj 56 v85 [.int .i64 q83.1.1, .int .i64 q83.1.2] :: Res.obj 56 v79 [.int .i64 q77.1.1, .int .i64 q77.1.2] :: Res.obj 56 v75 [.int .i64 q73.1.1, .int .i64 q73.1.2] :: Res.obj 56 v67 [.int .i64 q65.1.1, .int .i64 q65.1.2] :: Res.obj 56 v59 [.int .i64 (1073741825 : Int), .int .i64 (0 : Int)] :: Res.obj 56 v57 [.int .i64 (1073741824 : Int), .int .i64 (-1073741824 : Int)] :: Res.sl Ek.c128 24 v38 (List.replicate ((1 : Int)).toNat (Fl.bits 0, Fl.bits 0)) :: Res.sl Ek.c128 24 v41 (mk0 (65537 : Int) (Fl.bits 0, Fl.bits 0)) :: Res.sl Ek.c128 24 v55 q43.1 :: Res.sl Ek.c128 24 v18 (List.replicate ((64 : Int)).toNat (Fl.bits 0, Fl.bits 0)) :: Res.sl Ek.c128 24 v21 (List.replicate ((3 : Int)).toNat (Fl.bits 0, Fl.bits 0)) :: Res.sl Ek.c128 24 v35 q23.1 :: Res.sl Ek.c128 24 v6 (mk0 (65 : Int) (Fl.bits 0, Fl.bits 0)) :: Res.sl Ek.c128 24 v15 q8.1 :: Res.sl Ek.c128 24 v3 q1.1 :: ow)) ?_ ?_
  · rcases Bool.eq_false_or_eq_true z127 with hb135 | hb135
    · skip
      replace hz134 := ifT hz134 hb135
      obtain ⟨q137, hcall138, hz134⟩ := bnd hz134
      refine st_call hf (by decide) Try.func24 rfl rfl (wantY hf rfl rfl hb135) rfl rfl (f_foghornlaw03_awake_c hp  hcall138) ?_
      rintro _ w ⟨rfl, hp0⟩
      clear hp; have hp := hp0; clear hp0
      replace hp : Hp _ _ _ (Res.obj 56 v89 [.int .i64 q87.1.1, .int .i64 q87.1.2] :: Res.obj 56 v85 [.int .i64 q83.1.1, .int .i64 q83.1.2] :: Res.obj 56 v79 [.int .i64 q77.1.1, .int .i64 q77.1.2] :: Res.obj 56 v75 [.int .i64 q73.1.1, .int .i64 q73.1.2] :: Res.obj 56 v67 [.int .i64 q65.1.1, .int .i64 q65.1.2] :: Res.obj 56 v59 [.int .i64 (1073741825 : Int), .int .i64 (0 : Int)] :: Res.obj 56 v57 [.int .i64 (1073741824 : Int), .int .i64 (-1073741824 : Int)] :: Res.sl Ek.c128 24 v38 (List.replicate ((1 : Int)).toNat (Fl.bits 0, Fl.bits 0)) :: Res.sl Ek.c128 24 v41 (mk0 (65537 : Int) (Fl.bits 0, Fl.bits 0)) :: Res.sl Ek.c128 24 v55 q43.1 :: Res.sl Ek.c128 24 v18 (List.replicate ((64 : Int)).toNat (Fl.bits 0, Fl.bits 0)) :: Res.sl Ek.c128 24 v21 (List.replicate ((3 : Int)).toNat (Fl.bits 0, Fl.bits 0)) :: Res.sl Ek.c128 24 v35 q23.1 :: Res.sl Ek.c128 24 v6 (mk0 (65 : Int) (Fl.bits 0, Fl.bits 0)) :: Res.sl Ek.c128 24 v15 q8.1 :: Res.sl Ek.c128 24 v3 q1.1 :: ow) := hp
      refine ⟨_, rfl, ?_⟩
      clear hf; intro a hf
      obtain rfl := Option.some.inj hz134
      refine st_pick (v := .bool q137) hf rfl rfl (fun hb' => ?_) (fun hb' => ?_) (by decide) ?_
      · rfl
      · exact absurd (hb135.symm.trans hb') (by decide)
      clear hf; intro a ha hf; clear ha
      refine st_nil hf (th_n ?_)
      exact ⟨hf.sub ⟨rfl, trivial⟩, hp⟩
    replace hz134 := ifF hz134 hb135
    refine st_skip hf (wantN hf rfl rfl hb135) rfl (by decide) ?_ rfl
    clear hf; intro a hf
    obtain rfl := Option.some.inj hz134
    refine st_pick (v := .bool false) hf rfl rfl (fun hb' => ?_) (fun hb' => ?_) (by decide) ?_
    · exact absurd (hb135.symm.trans hb') (by decide)
    · rfl
    clear hf; intro a ha hf; clear ha
    refine st_nil hf (th_n ?_)
    exact ⟨hf.sub ⟨rfl, trivial⟩, hp⟩
  rintro a w ⟨hf, hp⟩
  refine st_assign hf rfl rfl (by decide) ?_
  clear hf; intro a ha hf; clear ha
  refine st_nil hf ?_
  refine th_n ?_
  refine wp_ret ?_
  obtain rfl := Option.some.inj h
  have hp : Hp _ _ _ (ow) := Hp.sel (pre := [Res.obj 56 v89 [.int .i64 q87.1.1, .int .i64 q87.1.2], Res.obj 56 v85 [.int .i64 q83.1.1, .int .i64 q83.1.2], Res.obj 56 v79 [.int .i64 q77.1.1, .int .i64 q77.1.2], Res.obj 56 v75 [.int .i64 q73.1.1, .int .i64 q73.1.2], Res.obj 56 v67 [.int .i64 q65.1.1, .int .i64 q65.1.2], Res.obj 56 v59 [.int .i64 (1073741825 : Int), .int .i64 (0 : Int)], Res.obj 56 v57 [.int .i64 (1073741824 : Int), .int .i64 (-1073741824 : Int)], Res.sl Ek.c128 24 v38 (List.replicate ((1 : Int)).toNat (Fl.bits 0, Fl.bits 0)), Res.sl Ek.c128 24 v41 (mk0 (65537 : Int) (Fl.bits 0, Fl.bits 0)), Res.sl Ek.c128 24 v55 q43.1, Res.sl Ek.c128 24 v18 (List.replicate ((64 : Int)).toNat (Fl.bits 0, Fl.bits 0)), Res.sl Ek.c128 24 v21 (List.replicate ((3 : Int)).toNat (Fl.bits 0, Fl.bits 0)), Res.sl Ek.c128 24 v35 q23.1, Res.sl Ek.c128 24 v6 (mk0 (65 : Int) (Fl.bits 0, Fl.bits 0)), Res.sl Ek.c128 24 v15 q8.1, Res.sl Ek.c128 24 v3 q1.1]) (tail := ow) (rs' := []) hp [] (by decide) (by simp) rfl
  exact ⟨rfl, ⟨hf.sub ⟨rfl, trivial⟩, hp⟩⟩

end Go.Proofs.Yteifkccomfdciaa
