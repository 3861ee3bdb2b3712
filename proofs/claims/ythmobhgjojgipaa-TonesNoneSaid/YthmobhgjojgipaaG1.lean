/- The functions foghorn foghornlaw09.TonesNone: what each answers, as a plain function, and that its call answers it; printed by gen.py. -/
import Derived.Test.YthmobhgjojgipaaProg
import Derived.Test.YthmobhgjojgipaaGlU
import Derived.KernelRfl
import Derived.Test.YthmobhgjojgipaaG1p1
set_option linter.unusedVariables false
set_option linter.unusedSimpArgs false
set_option maxRecDepth 100000
set_option maxHeartbeats 4000000
namespace Go.Proofs.Ythmobhgjojgipaa
open GL
noncomputable def f_foghornlaw09_TonesNone  : Option Bool := ((f_tones_Send (0 : Int) ([])).bind fun q1 => ((f_tones_Send (4 : Int) ([])).bind fun q5 => ((f_tones_Send (3 : Int) ([])).bind fun q9 => (if 0 ≤ (3 : Int) ∧ (3 : Int) ≤ (3 : Int) ∧ (3 : Int) * 16 ≤ 281474976710656 then ((f_tones_Back (1 : Int) (List.replicate ((3 : Int)).toNat (Fl.bits 0, Fl.bits 0))).bind fun q16 => (if 0 ≤ (65540 : Int) ∧ (65540 : Int) ≤ (65540 : Int) ∧ (65540 : Int) * 16 ≤ 281474976710656 then ((f_tones_Back (1 : Int) (mk0 (65540 : Int) (Fl.bits 0, Fl.bits 0))).bind fun q28 => (if 0 ≤ (65536 : Int) ∧ (65536 : Int) ≤ (65536 : Int) ∧ (65536 : Int) * 16 ≤ 281474976710656 then ((f_tones_Back (1 : Int) (mk0 (65536 : Int) (Fl.bits 0, Fl.bits 0))).bind fun q40 => (if 0 ≤ (4 : Int) ∧ (4 : Int) ≤ (4 : Int) ∧ (4 : Int) * 24 ≤ 281474976710656 then ((f_tones_Heard (2 : Int) (List.replicate ((4 : Int)).toNat ((Fl.bits 0, Fl.bits 0), false))).bind fun q52 => ((f_tones_Entry (3 : Int) (64 : Int) (0 : Int)).bind fun q63 => ((f_tones_Entry (3 : Int) (0 : Int) (-1 : Int)).bind fun q65 => ((f_tones_Entry (3 : Int) (63 : Int) (63 : Int)).bind fun q67 => ((f_tones_Pure (1 : Int) (4 : Int)).bind fun q69 => (if 0 ≤ (2 : Int) ∧ (2 : Int) ≤ (2 : Int) ∧ (2 : Int) * 16 ≤ 281474976710656 then ((f_tones_Round (1 : Int) (List.replicate ((2 : Int)).toNat (Fl.bits 0, Fl.bits 0)) (1 : Int)).bind fun q76 => ((f_tones_Energy ([])).bind fun q85 => (if 0 ≤ (65537 : Int) ∧ (65537 : Int) ≤ (65537 : Int) ∧ (65537 : Int) * 16 ≤ 281474976710656 then ((f_tones_Energy (mk0 (65537 : Int) (Fl.bits 0, Fl.bits 0))).bind fun q92 => ((if ((((((((((((((((((q1.2 == (1 : Int)) && (q5.2 == (1 : Int))) && ((q9.1.length : Int) == (0 : Int))) && (q9.2 == (0 : Int))) && (q16.2 == (1 : Int))) && (q28.2 == (1 : Int))) && ((q40.1.length : Int) == (65536 : Int))) && (q40.2 == (0 : Int))) && (q52.2.2 == (1 : Int))) && (q63.2 == (1 : Int))) && (q65.2 == (1 : Int))) && (q67.1 == (3 : Int))) && (q67.2 == (0 : Int))) && (q69.2 == (1 : Int))) && (q76.2 == (1 : Int))) && (feq q85.1 (Fl.bits 0))) && (q85.2 == (0 : Int))) && (q92.2 == (1 : Int))) = true then ((f_foghornlaw09_awake).bind fun q138 => (some q138)) else (some false)).bind fun z137 => (some z137))) else none))) else none)))))) else none)) else none)) else none)) else none))))
theorem f_foghornlaw09_TonesNone_c {S : Nat → Prop} {w0 w : World} {ow : List Res} (hp : Hp S w0 w ow) {r : Bool} (h : f_foghornlaw09_TonesNone = some r) :
    Calls Try.prog 5 #[] w (fun e w' => e = .returned (.bool r) ∧ Hp S w0 w' (ow)) := by
  unfold f_foghornlaw09_TonesNone at h
  refine enter (n := 168) (args := []) Try.func5 rfl rfl (Nat.le_of_ble_eq_true rfl) fun a hf => ?_
  replace hf : Fr 168 a [] := hf
  refine wp_mono (Q := fun e a w => e = .ret ∧ Fr 168 a [(0, .bool r)] ∧ Hp S w0 w (ow)) ?_ ?_
  rotate_left
  · rintro e a w ⟨rfl, hf, hp⟩
    exact ret1 hf rfl rfl ⟨rfl, hp⟩
  refine wp_seq ?_
  refine wp_reg ?_
  refine st_assign hf rfl rfl (by decide) ?_
  clear hf; intro a ha hf; clear ha
  refine st_nil hf ?_
  refine th_n ?_
  refine wp_seq ?_
  refine wp_reg ?_
  obtain ⟨q1, hcall2, h⟩ := bnd h
  refine st_call hf (by decide) Try.func9 rfl rfl rfl rfl rfl (f_tones_Send_c hp _ _ _ (RdS.nil _ _ _) hcall2) ?_
  rintro _ w ⟨v3, rfl, hp0⟩
  clear hp; have hp := hp0; clear hp0
  replace hp : Hp _ _ _ (Res.sl Ek.c128 28 v3 q1.1 :: ow) := hp
  refine ⟨_, rfl, ?_⟩
  clear hf; intro a hf
  refine st_move hf rfl rfl (by decide) ?_
  clear hf; intro a ha hf; clear ha
  refine st_extract hf (by decide) rfl rfl rfl ?_
  clear hf; intro a ha hf; clear ha
  refine st_extract hf (by decide) rfl rfl rfl ?_
  clear hf; intro a ha hf; clear ha
  refine st_assign hf rfl rfl (by decide) ?_
  clear hf; intro a ha hf; clear ha
  refine st_assign hf rfl rfl (by decide) ?_
  clear hf; intro a ha hf; clear ha
  refine st_nil hf ?_
  refine th_n ?_
  refine wp_seq ?_
  refine wp_reg ?_
  obtain ⟨q5, hcall6, h⟩ := bnd h
  refine st_call hf (by decide) Try.func9 rfl rfl rfl rfl rfl (f_tones_Send_c hp _ _ _ (RdS.nil _ _ _) hcall6) ?_
  rintro _ w ⟨v7, rfl, hp0⟩
  clear hp; have hp := hp0; clear hp0
  replace hp : Hp _ _ _ (Res.sl Ek.c128 28 v7 q5.1 :: Res.sl Ek.c128 28 v3 q1.1 :: ow) := hp
  refine ⟨_, rfl, ?_⟩
  clear hf; intro a hf
  refine st_move hf rfl rfl (by decide) ?_
  clear hf; intro a ha hf; clear ha
  refine st_extract hf (by decide) rfl rfl rfl ?_
  clear hf; intro a ha hf; clear ha
  refine st_extract hf (by decide) rfl rfl rfl ?_
  clear hf; intro a ha hf; clear ha
  refine st_assign hf rfl rfl (by decide) ?_
  clear hf; intro a ha hf; clear ha
  refine st_assign hf rfl rfl (by decide) ?_
  clear hf; intro a ha hf; clear ha
  refine st_nil hf ?_
  refine th_n ?_
  refine wp_seq ?_
  refine wp_reg ?_
  obtain ⟨q9, hcall10, h⟩ := bnd h
  refine st_call hf (by decide) Try.func9 rfl rfl rfl rfl rfl (f_tones_Send_c hp _ _ _ (RdS.nil _ _ _) hcall10) ?_
  rintro _ w ⟨v11, rfl, hp0⟩
  clear hp; have hp := hp0; clear hp0
  replace hp : Hp _ _ _ (Res.sl Ek.c128 28 v11 q9.1 :: Res.sl Ek.c128 28 v7 q5.1 :: Res.sl Ek.c128 28 v3 q1.1 :: ow) := hp
  refine ⟨_, rfl, ?_⟩
  clear hf; intro a hf
  refine st_move hf rfl rfl (by decide) ?_
  clear hf; intro a ha hf; clear ha
  refine st_extract hf (by decide) rfl rfl rfl ?_
  clear hf; intro a ha hf; clear ha
  refine st_extract hf (by decide) rfl rfl rfl ?_
  clear hf; intro a ha hf; clear ha
  refine st_assign hf rfl rfl (by decide) ?_
  clear hf; intro a ha hf; clear ha
  refine st_assign hf rfl rfl (by decide) ?_
  clear hf; intro a ha hf; clear ha
  refine st_nil hf ?_
  refine th_n ?_
  refine wp_seq ?_
  refine wp_reg ?_
  obtain ⟨hc13, h⟩ := chk h
  refine st_make (E := Ek.c128) hf (by decide) elt28 Try.underlying26 (by decide) hp rfl rfl rfl hc13.1 hc13.2.1 hc13.2.2 ?_
  clear hf; intro a w v14 hf hp0; clear hp; have hp := hp0; clear hp0
  replace hp : Hp _ _ _ (Res.sl Ek.c128 28 v14 (List.replicate ((3 : Int)).toNat (Fl.bits 0, Fl.bits 0)) :: Res.sl Ek.c128 28 v11 q9.1 :: Res.sl Ek.c128 28 v7 q5.1 :: Res.sl Ek.c128 28 v3 q1.1 :: ow) := hp
  obtain ⟨q16, hcall17, h⟩ := bnd h
  obtain ⟨S18, hp19, rd20, up21, bk22⟩ := Hp.lendS hp (i := 0) rfl
  refine st_call hf (by decide) Try.func10 rfl rfl rfl rfl rfl (f_tones_Back_c hp19 _ _ _ rd20 hcall17) ?_
  rintro _ w ⟨v23, rfl, hp0⟩
  have hp0 := bk22 _ _ hp0
  clear hp; have hp := hp0; clear hp0
  replace hp : Hp _ _ _ (Res.sl Ek.c128 28 v14 (List.replicate ((3 : Int)).toNat (Fl.bits 0, Fl.bits 0)) :: Res.sl Ek.c128 28 v23 q16.1 :: Res.sl Ek.c128 28 v11 q9.1 :: Res.sl Ek.c128 28 v7 q5.1 :: Res.sl Ek.c128 28 v3 q1.1 :: ow) := hp
  refine ⟨_, rfl, ?_⟩
  clear hf; intro a hf
  refine st_move hf rfl rfl (by decide) ?_
  clear hf; intro a ha hf; clear ha
  refine st_extract hf (by decide) rfl rfl rfl ?_
  clear hf; intro a ha hf; clear ha
  refine st_extract hf (by decide) rfl rfl rfl ?_
  clear hf; intro a ha hf; clear ha
  refine st_assign hf rfl rfl (by decide) ?_
  clear hf; intro a ha hf; clear ha
  refine st_assign hf rfl rfl (by decide) ?_
  clear hf; intro a ha hf; clear ha
  refine st_nil hf ?_
  refine th_n ?_
  refine wp_seq ?_
  refine wp_reg ?_
  obtain ⟨hc25, h⟩ := chk h
  refine st_make (E := Ek.c128) hf (by decide) elt28 Try.underlying26 (by decide) hp rfl rfl rfl hc25.1 hc25.2.1 hc25.2.2 ?_
  clear hf; intro a w v26 hf hp0; clear hp; have hp := hp0; clear hp0
  rw [← mk0_eq] at hp
  replace hp : Hp _ _ _ (Res.sl Ek.c128 28 v26 (mk0 (65540 : Int) (Fl.bits 0, Fl.bits 0)) :: Res.sl Ek.c128 28 v14 (List.replicate ((3 : Int)).toNat (Fl.bits 0, Fl.bits 0)) :: Res.sl Ek.c128 28 v23 q16.1 :: Res.sl Ek.c128 28 v11 q9.1 :: Res.sl Ek.c128 28 v7 q5.1 :: Res.sl Ek.c128 28 v3 q1.1 :: ow) := hp
  obtain ⟨q28, hcall29, h⟩ := bnd h
  obtain ⟨S30, hp31, rd32, up33, bk34⟩ := Hp.lendS hp (i := 0) rfl
  refine st_call hf (by decide) Try.func10 rfl rfl rfl rfl rfl (f_tones_Back_c hp31 _ _ _ rd32 hcall29) ?_
  rintro _ w ⟨v35, rfl, hp0⟩
  have hp0 := bk34 _ _ hp0
  clear hp; have hp := hp0; clear hp0
  replace hp : Hp _ _ _ (Res.sl Ek.c128 28 v26 (mk0 (65540 : Int) (Fl.bits 0, Fl.bits 0)) :: Res.sl Ek.c128 28 v35 q28.1 :: Res.sl Ek.c128 28 v14 (List.replicate ((3 : Int)).toNat (Fl.bits 0, Fl.bits 0)) :: Res.sl Ek.c128 28 v23 q16.1 :: Res.sl Ek.c128 28 v11 q9.1 :: Res.sl Ek.c128 28 v7 q5.1 :: Res.sl Ek.c128 28 v3 q1.1 :: ow) := hp
  refine ⟨_, rfl, ?_⟩
  clear hf; intro a hf
  refine st_move hf rfl rfl (by decide) ?_
  clear hf; intro a ha hf; clear ha
  refine st_extract hf (by decide) rfl rfl rfl ?_
  clear hf; intro a ha hf; clear ha
  refine st_extract hf (by decide) rfl rfl rfl ?_
  clear hf; intro a ha hf; clear ha
  refine st_assign hf rfl rfl (by decide) ?_
  clear hf; intro a ha hf; clear ha
  refine st_assign hf rfl rfl (by decide) ?_
  clear hf; intro a ha hf; clear ha
  refine st_nil hf ?_
  refine th_n ?_
  refine wp_seq ?_
  refine wp_reg ?_
  obtain ⟨hc37, h⟩ := chk h
  refine st_make (E := Ek.c128) hf (by decide) elt28 Try.underlying26 (by decide) hp rfl rfl rfl hc37.1 hc37.2.1 hc37.2.2 ?_
  clear hf; intro a w v38 hf hp0; clear hp; have hp := hp0; clear hp0
  rw [← mk0_eq] at hp
  replace hp : Hp _ _ _ (Res.sl Ek.c128 28 v38 (mk0 (65536 : Int) (Fl.bits 0, Fl.bits 0)) :: Res.sl Ek.c128 28 v26 (mk0 (65540 : Int) (Fl.bits 0, Fl.bits 0)) :: Res.sl Ek.c128 28 v35 q28.1 :: Res.sl Ek.c128 28 v14 (List.replicate ((3 : Int)).toNat (Fl.bits 0, Fl.bits 0)) :: Res.sl Ek.c128 28 v23 q16.1 :: Res.sl Ek.c128 28 v11 q9.1 :: Res.sl Ek.c128 28 v7 q5.1 :: Res.sl Ek.c128 28 v3 q1.1 :: ow) := hp
  obtain ⟨q40, hcall41, h⟩ := bnd h
  obtain ⟨S42, hp43, rd44, up45, bk46⟩ := Hp.lendS hp (i := 0) rfl
  refine st_call hf (by decide) Try.func10 rfl rfl rfl rfl rfl (f_tones_Back_c hp43 _ _ _ rd44 hcall41) ?_
  rintro _ w ⟨v47, rfl, hp0⟩
  have hp0 := bk46 _ _ hp0
  clear hp; have hp := hp0; clear hp0
  replace hp : Hp _ _ _ (Res.sl Ek.c128 28 v38 (mk0 (65536 : Int) (Fl.bits 0, Fl.bits 0)) :: Res.sl Ek.c128 28 v47 q40.1 :: Res.sl Ek.c128 28 v26 (mk0 (65540 : Int) (Fl.bits 0, Fl.bits 0)) :: Res.sl Ek.c128 28 v35 q28.1 :: Res.sl Ek.c128 28 v14 (List.replicate ((3 : Int)).toNat (Fl.bits 0, Fl.bits 0)) :: Res.sl Ek.c128 28 v23 q16.1 :: Res.sl Ek.c128 28 v11 q9.1 :: Res.sl Ek.c128 28 v7 q5.1 :: Res.sl Ek.c128 28 v3 q1.1 :: ow) := hp
  refine ⟨_, rfl, ?_⟩
  clear hf; intro a hf
  refine st_move hf rfl rfl (by decide) ?_
  clear hf; intro a ha hf; clear ha
  refine st_extract hf (by decide) rfl rfl rfl ?_
  clear hf; intro a ha hf; clear ha
  refine st_extract hf (by decide) rfl rfl rfl ?_
  clear hf; intro a ha hf; clear ha
  refine st_assign hf rfl rfl (by decide) ?_
  clear hf; intro a ha hf; clear ha
  refine st_assign hf rfl rfl (by decide) ?_
  clear hf; intro a ha hf; clear ha
  refine st_nil hf ?_
  refine th_n ?_
  refine wp_seq ?_
  refine wp_reg ?_
  obtain ⟨hc49, h⟩ := chk h
  refine st_make (E := (Ek.pair Ek.c128 Ek.bool)) hf (by decide) elt60 Try.underlying51 (by decide) hp rfl rfl rfl hc49.1 hc49.2.1 hc49.2.2 ?_
  clear hf; intro a w v50 hf hp0; clear hp; have hp := hp0; clear hp0
  replace hp : Hp _ _ _ (Res.sl (Ek.pair Ek.c128 Ek.bool) 60 v50 (List.replicate ((4 : Int)).toNat ((Fl.bits 0, Fl.bits 0), false)) :: Res.sl Ek.c128 28 v38 (mk0 (65536 : Int) (Fl.bits 0, Fl.bits 0)) :: Res.sl Ek.c128 28 v47 q40.1 :: Res.sl Ek.c128 28 v26 (mk0 (65540 : Int) (Fl.bits 0, Fl.bits 0)) :: Res.sl Ek.c128 28 v35 q28.1 :: Res.sl Ek.c128 28 v14 (List.replicate ((3 : Int)).toNat (Fl.bits 0, Fl.bits 0)) :: Res.sl Ek.c128 28 v23 q16.1 :: Res.sl Ek.c128 28 v11 q9.1 :: Res.sl Ek.c128 28 v7 q5.1 :: Res.sl Ek.c128 28 v3 q1.1 :: ow) := hp
  obtain ⟨q52, hcall53, h⟩ := bnd h
  obtain ⟨S54, hp55, rd56, up57, bk58⟩ := Hp.lendS hp (i := 0) rfl
  refine st_call hf (by decide) Try.func18 rfl rfl rfl rfl rfl (f_tones_Heard_c hp55 _ _ _ rd56 hcall53) ?_
  rintro _ w ⟨v59, v60, rfl, hp0⟩
  have hp0 := bk58 _ _ hp0
  clear hp; have hp := hp0; clear hp0
  replace hp : Hp _ _ _ (Res.sl (Ek.pair Ek.c128 Ek.bool) 60 v50 (List.replicate ((4 : Int)).toNat ((Fl.bits 0, Fl.bits 0), false)) :: Res.sl Ek.c128 28 v59 q52.1 :: Res.sl Ek.bool 4 v60 q52.2.1 :: Res.sl Ek.c128 28 v38 (mk0 (65536 : Int) (Fl.bits 0, Fl.bits 0)) :: Res.sl Ek.c128 28 v47 q40.1 :: Res.sl Ek.c128 28 v26 (mk0 (65540 : Int) (Fl.bits 0, Fl.bits 0)) :: Res.sl Ek.c128 28 v35 q28.1 :: Res.sl Ek.c128 28 v14 (List.replicate ((3 : Int)).toNat (Fl.bits 0, Fl.bits 0)) :: Res.sl Ek.c128 28 v23 q16.1 :: Res.sl Ek.c128 28 v11 q9.1 :: Res.sl Ek.c128 28 v7 q5.1 :: Res.sl Ek.c128 28 v3 q1.1 :: ow) := hp
  refine ⟨_, rfl, ?_⟩
  clear hf; intro a hf
  refine st_move hf rfl rfl (by decide) ?_
  clear hf; intro a ha hf; clear ha
  refine st_extract hf (by decide) rfl rfl rfl ?_
  clear hf; intro a ha hf; clear ha
  refine st_extract hf (by decide) rfl rfl rfl ?_
  clear hf; intro a ha hf; clear ha
  refine st_extract hf (by decide) rfl rfl rfl ?_
  clear hf; intro a ha hf; clear ha
  refine st_assign hf rfl rfl (by decide) ?_
  clear hf; intro a ha hf; clear ha
  refine st_assign hf rfl rfl (by decide) ?_
  clear hf; intro a ha hf; clear ha
  refine st_assign hf rfl rfl (by decide) ?_
  clear hf; intro a ha hf; clear ha
  refine st_nil hf ?_
  refine th_n ?_
  refine wp_seq ?_
  refine wp_reg ?_
  obtain ⟨q63, hcall64, h⟩ := bnd h
  refine st_call hf (by decide) Try.func15 rfl rfl rfl rfl rfl (f_tones_Entry_c hp _ _ _ hcall64) ?_
  rintro _ w ⟨rfl, hp0⟩
  clear hp; have hp := hp0; clear hp0
  replace hp : Hp _ _ _ (Res.sl (Ek.pair Ek.c128 Ek.bool) 60 v50 (List.replicate ((4 : Int)).toNat ((Fl.bits 0, Fl.bits 0), false)) :: Res.sl Ek.c128 28 v59 q52.1 :: Res.sl Ek.bool 4 v60 q52.2.1 :: Res.sl Ek.c128 28 v38 (mk0 (65536 : Int) (Fl.bits 0, Fl.bits 0)) :: Res.sl Ek.c128 28 v47 q40.1 :: Res.sl Ek.c128 28 v26 (mk0 (65540 : Int) (Fl.bits 0, Fl.bits 0)) :: Res.sl Ek.c128 28 v35 q28.1 :: Res.sl Ek.c128 28 v14 (List.replicate ((3 : Int)).toNat (Fl.bits 0, Fl.bits 0)) :: Res.sl Ek.c128 28 v23 q16.1 :: Res.sl Ek.c128 28 v11 q9.1 :: Res.sl Ek.c128 28 v7 q5.1 :: Res.sl Ek.c128 28 v3 q1.1 :: ow) := hp
  refine ⟨_, rfl, ?_⟩
  clear hf; intro a hf
  refine st_move hf rfl rfl (by decide) ?_
  clear hf; intro a ha hf; clear ha
  refine st_extract hf (by decide) rfl rfl rfl ?_
  clear hf; intro a ha hf; clear ha
  refine st_extract hf (by decide) rfl rfl rfl ?_
  clear hf; intro a ha hf; clear ha
  refine st_assign hf rfl rfl (by decide) ?_
  clear hf; intro a ha hf; clear ha
  refine st_assign hf rfl rfl (by decide) ?_
  clear hf; intro a ha hf; clear ha
  refine st_nil hf ?_
  refine th_n ?_
  refine wp_seq ?_
  refine wp_reg ?_
  obtain ⟨q65, hcall66, h⟩ := bnd h
  refine st_call hf (by decide) Try.func15 rfl rfl rfl rfl rfl (f_tones_Entry_c hp _ _ _ hcall66) ?_
  rintro _ w ⟨rfl, hp0⟩
  clear hp; have hp := hp0; clear hp0
  replace hp : Hp _ _ _ (Res.sl (Ek.pair Ek.c128 Ek.bool) 60 v50 (List.replicate ((4 : Int)).toNat ((Fl.bits 0, Fl.bits 0), false)) :: Res.sl Ek.c128 28 v59 q52.1 :: Res.sl Ek.bool 4 v60 q52.2.1 :: Res.sl Ek.c128 28 v38 (mk0 (65536 : Int) (Fl.bits 0, Fl.bits 0)) :: Res.sl Ek.c128 28 v47 q40.1 :: Res.sl Ek.c128 28 v26 (mk0 (65540 : Int) (Fl.bits 0, Fl.bits 0)) :: Res.sl Ek.c128 28 v35 q28.1 :: Res.sl Ek.c128 28 v14 (List.replicate ((3 : Int)).toNat (Fl.bits 0, Fl.bits 0)) :: Res.sl Ek.c128 28 v23 q16.1 :: Res.sl Ek.c128 28 v11 q9.1 :: Res.sl Ek.c128 28 v7 q5.1 :: Res.sl Ek.c128 28 v3 q1.1 :: ow) := hp
  refine ⟨_, rfl, ?_⟩
  clear hf; intro a hf
  refine st_move hf rfl rfl (by decide) ?_
  clear hf; intro a ha hf; clear ha
  refine st_extract hf (by decide) rfl rfl rfl ?_
  clear hf; intro a ha hf; clear ha
  refine st_extract hf (by decide) rfl rfl rfl ?_
  clear hf; intro a ha hf; clear ha
  refine st_assign hf rfl rfl (by decide) ?_
  clear hf; intro a ha hf; clear ha
  refine st_assign hf rfl rfl (by decide) ?_
  clear hf; intro a ha hf; clear ha
  refine st_nil hf ?_
  refine th_n ?_
  refine wp_seq ?_
  refine wp_reg ?_
  obtain ⟨q67, hcall68, h⟩ := bnd h
  refine st_call hf (by decide) Try.func15 rfl rfl rfl rfl rfl (f_tones_Entry_c hp _ _ _ hcall68) ?_
  rintro _ w ⟨rfl, hp0⟩
  clear hp; have hp := hp0; clear hp0
  replace hp : Hp _ _ _ (Res.sl (Ek.pair Ek.c128 Ek.bool) 60 v50 (List.replicate ((4 : Int)).toNat ((Fl.bits 0, Fl.bits 0), false)) :: Res.sl Ek.c128 28 v59 q52.1 :: Res.sl Ek.bool 4 v60 q52.2.1 :: Res.sl Ek.c128 28 v38 (mk0 (65536 : Int) (Fl.bits 0, Fl.bits 0)) :: Res.sl Ek.c128 28 v47 q40.1 :: Res.sl Ek.c128 28 v26 (mk0 (65540 : Int) (Fl.bits 0, Fl.bits 0)) :: Res.sl Ek.c128 28 v35 q28.1 :: Res.sl Ek.c128 28 v14 (List.replicate ((3 : Int)).toNat (Fl.bits 0, Fl.bits 0)) :: Res.sl Ek.c128 28 v23 q16.1 :: Res.sl Ek.c128 28 v11 q9.1 :: Res.sl Ek.c128 28 v7 q5.1 :: Res.sl Ek.c128 28 v3 q1.1 :: ow) := hp
  refine ⟨_, rfl, ?_⟩
  clear hf; intro a hf
  refine st_move hf rfl rfl (by decide) ?_
  clear hf; intro a ha hf; clear ha
  refine st_extract hf (by decide) rfl rfl rfl ?_
  clear hf; intro a ha hf; clear ha
  refine st_extract hf (by decide) rfl rfl rfl ?_
  clear hf; intro a ha hf; clear ha
  refine st_assign hf rfl rfl (by decide) ?_
  clear hf; intro a ha hf; clear ha
  refine st_assign hf rfl rfl (by decide) ?_
  clear hf; intro a ha hf; clear ha
  refine st_nil hf ?_
  refine th_n ?_
  refine wp_seq ?_
  refine wp_reg ?_
  obtain ⟨q69, hcall70, h⟩ := bnd h
  refine st_call hf (by decide) Try.func14 rfl rfl rfl rfl rfl (f_tones_Pure_c hp _ _ hcall70) ?_
  rintro _ w ⟨v71, rfl, hp0⟩
  clear hp; have hp := hp0; clear hp0
  replace hp : Hp _ _ _ (Res.sl Ek.c128 28 v71 q69.1 :: Res.sl (Ek.pair Ek.c128 Ek.bool) 60 v50 (List.replicate ((4 : Int)).toNat ((Fl.bits 0, Fl.bits 0), false)) :: Res.sl Ek.c128 28 v59 q52.1 :: Res.sl Ek.bool 4 v60 q52.2.1 :: Res.sl Ek.c128 28 v38 (mk0 (65536 : Int) (Fl.bits 0, Fl.bits 0)) :: Res.sl Ek.c128 28 v47 q40.1 :: Res.sl Ek.c128 28 v26 (mk0 (65540 : Int) (Fl.bits 0, Fl.bits 0)) :: Res.sl Ek.c128 28 v35 q28.1 :: Res.sl Ek.c128 28 v14 (List.replicate ((3 : Int)).toNat (Fl.bits 0, Fl.bits 0)) :: Res.sl Ek.c128 28 v23 q16.1 :: Res.sl Ek.c128 28 v11 q9.1 :: Res.sl Ek.c128 28 v7 q5.1 :: Res.sl Ek.c128 28 v3 q1.1 :: ow) := hp
  refine ⟨_, rfl, ?_⟩
  clear hf; intro a hf
  refine st_move hf rfl rfl (by decide) ?_
  clear hf; intro a ha hf; clear ha
  refine st_extract hf (by decide) rfl rfl rfl ?_
  clear hf; intro a ha hf; clear ha
  refine st_extract hf (by decide) rfl rfl rfl ?_
  clear hf; intro a ha hf; clear ha
  refine st_assign hf rfl rfl (by decide) ?_
  clear hf; intro a ha hf; clear ha
  refine st_assign hf rfl rfl (by decide) ?_
  clear hf; intro a ha hf; clear ha
  refine st_nil hf ?_
  refine th_n ?_
  refine wp_seq ?_
  refine wp_reg ?_
  obtain ⟨hc73, h⟩ := chk h
  refine st_make (E := Ek.c128) hf (by decide) elt28 Try.underlying26 (by decide) hp rfl rfl rfl hc73.1 hc73.2.1 hc73.2.2 ?_
  clear hf; intro a w v74 hf hp0; clear hp; have hp := hp0; clear hp0
  replace hp : Hp _ _ _ (Res.sl Ek.c128 28 v74 (List.replicate ((2 : Int)).toNat (Fl.bits 0, Fl.bits 0)) :: Res.sl Ek.c128 28 v71 q69.1 :: Res.sl (Ek.pair Ek.c128 Ek.bool) 60 v50 (List.replicate ((4 : Int)).toNat ((Fl.bits 0, Fl.bits 0), false)) :: Res.sl Ek.c128 28 v59 q52.1 :: Res.sl Ek.bool 4 v60 q52.2.1 :: Res.sl Ek.c128 28 v38 (mk0 (65536 : Int) (Fl.bits 0, Fl.bits 0)) :: Res.sl Ek.c128 28 v47 q40.1 :: Res.sl Ek.c128 28 v26 (mk0 (65540 : Int) (Fl.bits 0, Fl.bits 0)) :: Res.sl Ek.c128 28 v35 q28.1 :: Res.sl Ek.c128 28 v14 (List.replicate ((3 : Int)).toNat (Fl.bits 0, Fl.bits 0)) :: Res.sl Ek.c128 28 v23 q16.1 :: Res.sl Ek.c128 28 v11 q9.1 :: Res.sl Ek.c128 28 v7 q5.1 :: Res.sl Ek.c128 28 v3 q1.1 :: ow) := hp
  obtain ⟨q76, hcall77, h⟩ := bnd h
  obtain ⟨S78, hp79, rd80, up81, bk82⟩ := Hp.lendS hp (i := 0) rfl
  refine st_call hf (by decide) Try.func19 rfl rfl rfl rfl rfl (f_tones_Round_c hp79 _ _ _ rd80 _ hcall77) ?_
  rintro _ w ⟨v83, rfl, hp0⟩
  have hp0 := bk82 _ _ hp0
  clear hp; have hp := hp0; clear hp0
  replace hp : Hp _ _ _ (Res.sl Ek.c128 28 v74 (List.replicate ((2 : Int)).toNat (Fl.bits 0, Fl.bits 0)) :: Res.sl Ek.c128 28 v83 q76.1 :: Res.sl Ek.c128 28 v71 q69.1 :: Res.sl (Ek.pair Ek.c128 Ek.bool) 60 v50 (List.replicate ((4 : Int)).toNat ((Fl.bits 0, Fl.bits 0), false)) :: Res.sl Ek.c128 28 v59 q52.1 :: Res.sl Ek.bool 4 v60 q52.2.1 :: Res.sl Ek.c128 28 v38 (mk0 (65536 : Int) (Fl.bits 0, Fl.bits 0)) :: Res.sl Ek.c128 28 v47 q40.1 :: Res.sl Ek.c128 28 v26 (mk0 (65540 : Int) (Fl.bits 0, Fl.bits 0)) :: Res.sl Ek.c128 28 v35 q28.1 :: Res.sl Ek.c128 28 v14 (List.replicate ((3 : Int)).toNat (Fl.bits 0, Fl.bits 0)) :: Res.sl Ek.c128 28 v23 q16.1 :: Res.sl Ek.c128 28 v11 q9.1 :: Res.sl Ek.c128 28 v7 q5.1 :: Res.sl Ek.c128 28 v3 q1.1 :: ow) := hp
  refine ⟨_, rfl, ?_⟩
  clear hf; intro a hf
  refine st_move hf rfl rfl (by decide) ?_
  clear hf; intro a ha hf; clear ha
  refine st_extract hf (by decide) rfl rfl rfl ?_
  clear hf; intro a ha hf; clear ha
  refine st_extract hf (by decide) rfl rfl rfl ?_
  clear hf; intro a ha hf; clear ha
  refine st_assign hf rfl rfl (by decide) ?_
  clear hf; intro a ha hf; clear ha
  refine st_assign hf rfl rfl (by decide) ?_
  clear hf; intro a ha hf; clear ha
  refine st_nil hf ?_
  refine th_n ?_
  refine wp_seq ?_
  refine wp_reg ?_
  obtain ⟨q85, hcall86, h⟩ := bnd h
  refine st_call hf (by decide) Try.func12 rfl rfl rfl rfl rfl (f_tones_Energy_c hp _ _ (RdS.nil _ _ _) hcall86) ?_
  rintro _ w ⟨v87, rfl, y88, hp0⟩
  clear hp; have hp := hp0; clear hp0
  replace hp : Hp _ _ _ (Res.sl Ek.c128 28 v74 (List.replicate ((2 : Int)).toNat (Fl.bits 0, Fl.bits 0)) :: Res.sl Ek.c128 28 v83 q76.1 :: Res.sl Ek.c128 28 v71 q69.1 :: Res.sl (Ek.pair Ek.c128 Ek.bool) 60 v50 (List.replicate ((4 : Int)).toNat ((Fl.bits 0, Fl.bits 0), false)) :: Res.sl Ek.c128 28 v59 q52.1 :: Res.sl Ek.bool 4 v60 q52.2.1 :: Res.sl Ek.c128 28 v38 (mk0 (65536 : Int) (Fl.bits 0, Fl.bits 0)) :: Res.sl Ek.c128 28 v47 q40.1 :: Res.sl Ek.c128 28 v26 (mk0 (65540 : Int) (Fl.bits 0, Fl.bits 0)) :: Res.sl Ek.c128 28 v35 q28.1 :: Res.sl Ek.c128 28 v14 (List.replicate ((3 : Int)).toNat (Fl.bits 0, Fl.bits 0)) :: Res.sl Ek.c128 28 v23 q16.1 :: Res.sl Ek.c128 28 v11 q9.1 :: Res.sl Ek.c128 28 v7 q5.1 :: Res.sl Ek.c128 28 v3 q1.1 :: ow) := hp
  refine ⟨_, rfl, ?_⟩
  clear hf; intro a hf
  refine st_move hf rfl rfl (by decide) ?_
  clear hf; intro a ha hf; clear ha
  refine st_extract hf (by decide) rfl rfl rfl ?_
  clear hf; intro a ha hf; clear ha
  refine st_extract hf (by decide) rfl rfl rfl ?_
  clear hf; intro a ha hf; clear ha
  refine st_assign hf rfl rfl (by decide) ?_
  clear hf; intro a ha hf; clear ha
  refine st_assign hf rfl rfl (by decide) ?_
  clear hf; intro a ha hf; clear ha
  refine st_nil hf ?_
  refine th_n ?_
  refine wp_seq ?_
  refine wp_reg ?_
  obtain ⟨hc89, h⟩ := chk h
  refine st_make (E := Ek.c128) hf (by decide) elt28 Try.underlying26 (by decide) hp rfl rfl rfl hc89.1 hc89.2.1 hc89.2.2 ?_
  clear hf; intro a w v90 hf hp0; clear hp; have hp := hp0; clear hp0
  rw [← mk0_eq] at hp
  replace hp : Hp _ _ _ (Res.sl Ek.c128 28 v90 (mk0 (65537 : Int) (Fl.bits 0, Fl.bits 0)) :: Res.sl Ek.c128 28 v74 (List.replicate ((2 : Int)).toNat (Fl.bits 0, Fl.bits 0)) :: Res.sl Ek.c128 28 v83 q76.1 :: Res.sl Ek.c128 28 v71 q69.1 :: Res.sl (Ek.pair Ek.c128 Ek.bool) 60 v50 (List.replicate ((4 : Int)).toNat ((Fl.bits 0, Fl.bits 0), false)) :: Res.sl Ek.c128 28 v59 q52.1 :: Res.sl Ek.bool 4 v60 q52.2.1 :: Res.sl Ek.c128 28 v38 (mk0 (65536 : Int) (Fl.bits 0, Fl.bits 0)) :: Res.sl Ek.c128 28 v47 q40.1 :: Res.sl Ek.c128 28 v26 (mk0 (65540 : Int) (Fl.bits 0, Fl.bits 0)) :: Res.sl Ek.c128 28 v35 q28.1 :: Res.sl Ek.c128 28 v14 (List.replicate ((3 : Int)).toNat (Fl.bits 0, Fl.bits 0)) :: Res.sl Ek.c128 28 v23 q16.1 :: Res.sl Ek.c128 28 v11 q9.1 :: Res.sl Ek.c128 28 v7 q5.1 :: Res.sl Ek.c128 28 v3 q1.1 :: ow) := hp
  obtain ⟨q92, hcall93, h⟩ := bnd h
  obtain ⟨S94, hp95, rd96, up97, bk98⟩ := Hp.lendS hp (i := 0) rfl
  refine st_call hf (by decide) Try.func12 rfl rfl rfl rfl rfl (f_tones_Energy_c hp95 _ _ rd96 hcall93) ?_
  rintro _ w ⟨v99, rfl, y100, hp0⟩
  have hp0 := bk98 _ _ hp0
  clear hp; have hp := hp0; clear hp0
  replace hp : Hp _ _ _ (Res.sl Ek.c128 28 v90 (mk0 (65537 : Int) (Fl.bits 0, Fl.bits 0)) :: Res.sl Ek.c128 28 v74 (List.replicate ((2 : Int)).toNat (Fl.bits 0, Fl.bits 0)) :: Res.sl Ek.c128 28 v83 q76.1 :: Res.sl Ek.c128 28 v71 q69.1 :: Res.sl (Ek.pair Ek.c128 Ek.bool) 60 v50 (List.replicate ((4 : Int)).toNat ((Fl.bits 0, Fl.bits 0), false)) :: Res.sl Ek.c128 28 v59 q52.1 :: Res.sl Ek.bool 4 v60 q52.2.1 :: Res.sl Ek.c128 28 v38 (mk0 (65536 : Int) (Fl.bits 0, Fl.bits 0)) :: Res.sl Ek.c128 28 v47 q40.1 :: Res.sl Ek.c128 28 v26 (mk0 (65540 : Int) (Fl.bits 0, Fl.bits 0)) :: Res.sl Ek.c128 28 v35 q28.1 :: Res.sl Ek.c128 28 v14 (List.replicate ((3 : Int)).toNat (Fl.bits 0, Fl.bits 0)) :: Res.sl Ek.c128 28 v23 q16.1 :: Res.sl Ek.c128 28 v11 q9.1 :: Res.sl Ek.c128 28 v7 q5.1 :: Res.sl Ek.c128 28 v3 q1.1 :: ow) := hp
  refine ⟨_, rfl, ?_⟩
  clear hf; intro a hf
  refine st_move hf rfl rfl (by decide) ?_
  clear hf; intro a ha hf; clear ha
  refine st_extract hf (by decide) rfl rfl rfl ?_
  clear hf; intro a ha hf; clear ha
  refine st_extract hf (by decide) rfl rfl rfl ?_
  clear hf; intro a ha hf; clear ha
  refine st_assign hf rfl rfl (by decide) ?_
  clear hf; intro a ha hf; clear ha
  refine st_assign hf rfl rfl (by decide) ?_
  clear hf; intro a ha hf; clear ha
  refine st_nil hf ?_
  refine th_n ?_
  refine wp_seq ?_
  refine wp_reg ?_
  refine st_move hf rfl rfl (by decide) ?_
  clear hf; intro a ha hf; clear ha
  refine st_ieql hf (by decide) rfl rfl rfl ?_
  clear hf; intro a ha hf; clear ha
  refine st_move hf rfl rfl (by decide) ?_
  clear hf; intro a ha hf; clear ha
  refine wpList_cut 3 (fun a w => Fr 168 a [(5, v11), (6, .int .i64 q9.2), (8, .int .i64 q16.2), (10, .int .i64 q28.2), (11, v47), (12, .int .i64 q40.2), (15, .int .i64 q52.2.2), (17, .int .i64 q63.2), (19, .int .i64 q65.2), (20, .int .i64 q67.1), (21, .int .i64 q67.2), (23, .int .i64 q69.2), (25, .int .i64 q76.2), (26, .float .f64 v87), (27, .int .i64 q85.2), (29, .int .i64 q92.2), (98, .bool ((q1.2 == (1 : Int)) && (q5.2 == (1 : Int))))] ∧ Hp S w0 w (Res.sl Ek.c128 28 v90 (mk0 (65537 : Int) (Fl.bits 0, Fl.bits 0)) :: Res.sl Ek.c128 28 v74 (List.replicate ((2 : Int)).toNat (Fl.bits 0, Fl.bits 0)) :: Res.sl Ek.c128 28 v83 q76.1 :: Res.sl Ek.c128 28 v71 q69.1 :: Res.sl (Ek.pair Ek.c128 Ek.bool) 60 v50 (List.replicate ((4 : Int)).toNat ((Fl.bits 0, Fl.bits 0), false)) :: Res.sl Ek.c128 28 v59 q52.1 :: Res.sl Ek.bool 4 v60 q52.2.1 :: Res.sl Ek.c128 28 v38 (mk0 (65536 : Int) (Fl.bits 0, Fl.bits 0)) :: Res.sl Ek.c128 28 v47 q40.1 :: Res.sl Ek.c128 28 v26 (mk0 (65540 : Int) (Fl.bits 0, Fl.bits 0)) :: Res.sl Ek.c128 28 v35 q28.1 :: Res.sl Ek.c128 28 v14 (List.replicate ((3 : Int)).toNat (Fl.bits 0, Fl.bits 0)) :: Res.sl Ek.c128 28 v23 q16.1 :: Res.sl Ek.c128 28 v11 q9.1 :: Res.sl Ek.c128 28 v7 q5.1 :: Res.sl Ek.c128 28 v3 q1.1 :: ow)) ?_ ?_
  · rcases Bool.eq_false_or_eq_true (q1.2 == (1 : Int)) with hb102 | hb102
    · skip
      refine st_move hf (wantY hf rfl rfl hb102) rfl (by decide) ?_
      clear hf; intro a ha hf; clear ha
      refine st_ieql hf (by decide) (wantY hf rfl rfl hb102) rfl rfl ?_
      clear hf; intro a ha hf; clear ha
      refine st_pick (v := .bool (q5.2 == (1 : Int))) hf rfl rfl (fun hb' => ?_) (fun hb' => ?_) (by decide) ?_
      · rfl
      · exact absurd (hb102.symm.trans hb') (by decide)
      clear hf; intro a ha hf; clear ha
      refine st_nil hf (th_n ?_)
      exact ⟨hf.sub ⟨rfl, rfl, rfl, rfl, rfl, rfl, rfl, rfl, rfl, rfl, rfl, rfl, rfl, rfl, rfl, rfl, (by rw [hb102]; rfl), trivial⟩, hp⟩
    refine st_skip hf (wantN hf rfl rfl hb102) rfl (by decide) ?_ rfl
    clear hf; intro a hf
    refine st_skip hf (wantN hf rfl rfl hb102) rfl (by decide) ?_ rfl
    clear hf; intro a hf
    refine st_pick (v := .bool false) hf rfl rfl (fun hb' => ?_) (fun hb' => ?_) (by decide) ?_
    · exact absurd (hb102.symm.trans hb') (by decide)
    · rfl
    clear hf; intro a ha hf; clear ha
    refine st_nil hf (th_n ?_)
    exact ⟨hf.sub ⟨rfl, rfl, rfl, rfl, rfl, rfl, rfl, rfl, rfl, rfl, rfl, rfl, rfl, rfl, rfl, rfl, (by rw [hb102]; rfl), trivial⟩, hp⟩
  rintro a w ⟨hf, hp⟩
  refine st_move hf rfl rfl (by decide) ?_
  clear hf; intro a ha hf; clear ha
  refine wpList_cut 4 (fun a w => Fr 168 a [(6, .int .i64 q9.2), (8, .int .i64 q16.2), (10, .int .i64 q28.2), (11, v47), (12, .int .i64 q40.2), (15, .int .i64 q52.2.2), (17, .int .i64 q63.2), (19, .int .i64 q65.2), (20, .int .i64 q67.1), (21, .int .i64 q67.2), (23, .int .i64 q69.2), (25, .int .i64 q76.2), (26, .float .f64 v87), (27, .int .i64 q85.2), (29, .int .i64 q92.2), (103, .bool (((q1.2 == (1 : Int)) && (q5.2 == (1 : Int))) && ((q9.1.length : Int) == (0 : Int))))] ∧ Hp S w0 w (Res.sl Ek.c128 28 v90 (mk0 (65537 : Int) (Fl.bits 0, Fl.bits 0)) :: Res.sl Ek.c128 28 v74 (List.replicate ((2 : Int)).toNat (Fl.bits 0, Fl.bits 0)) :: Res.sl Ek.c128 28 v83 q76.1 :: Res.sl Ek.c128 28 v71 q69.1 :: Res.sl (Ek.pair Ek.c128 Ek.bool) 60 v50 (List.replicate ((4 : Int)).toNat ((Fl.bits 0, Fl.bits 0), false)) :: Res.sl Ek.c128 28 v59 q52.1 :: Res.sl Ek.bool 4 v60 q52.2.1 :: Res.sl Ek.c128 28 v38 (mk0 (65536 : Int) (Fl.bits 0, Fl.bits 0)) :: Res.sl Ek.c128 28 v47 q40.1 :: Res.sl Ek.c128 28 v26 (mk0 (65540 : Int) (Fl.bits 0, Fl.bits 0)) :: Res.sl Ek.c128 28 v35 q28.1 :: Res.sl Ek.c128 28 v14 (List.replicate ((3 : Int)).toNat (Fl.bits 0, Fl.bits 0)) :: Res.sl Ek.c128 28 v23 q16.1 :: Res.sl Ek.c128 28 v11 q9.1 :: Res.sl Ek.c128 28 v7 q5.1 :: Res.sl Ek.c128 28 v3 q1.1 :: ow)) ?_ ?_
  · rcases Bool.eq_false_or_eq_true ((q1.2 == (1 : Int)) && (q5.2 == (1 : Int))) with hb104 | hb104
    · skip
      refine st_move hf (wantY hf rfl rfl hb104) rfl (by decide) ?_
      clear hf; intro a ha hf; clear ha
      refine st_len (E := Ek.c128) hf (by decide) Try.underlying26 (wantY hf rfl rfl hb104) rfl (hp.sl (i := 13) rfl) ?_
      clear hf; intro a ha hf; clear ha
      refine st_ieql hf (by decide) (wantY hf rfl rfl hb104) rfl rfl ?_
      clear hf; intro a ha hf; clear ha
      refine st_pick (v := .bool ((q9.1.length : Int) == (0 : Int))) hf rfl rfl (fun hb' => ?_) (fun hb' => ?_) (by decide) ?_
      · rfl
      · exact absurd (hb104.symm.trans hb') (by decide)
      clear hf; intro a ha hf; clear ha
      refine st_nil hf (th_n ?_)
      exact ⟨hf.sub ⟨rfl, rfl, rfl, rfl, rfl, rfl, rfl, rfl, rfl, rfl, rfl, rfl, rfl, rfl, rfl, (by rw [hb104]; rfl), trivial⟩, hp⟩
    refine st_skip hf (wantN hf rfl rfl hb104) rfl (by decide) ?_ rfl
    clear hf; intro a hf
    refine st_skip hf (wantN hf rfl rfl hb104) rfl (by decide) ?_ rfl
    clear hf; intro a hf
    refine st_skip hf (wantN hf rfl rfl hb104) rfl (by decide) ?_ rfl
    clear hf; intro a hf
    refine st_pick (v := .bool false) hf rfl rfl (fun hb' => ?_) (fun hb' => ?_) (by decide) ?_
    · exact absurd (hb104.symm.trans hb') (by decide)
    · rfl
    clear hf; intro a ha hf; clear ha
    refine st_nil hf (th_n ?_)
    exact ⟨hf.sub ⟨rfl, rfl, rfl, rfl, rfl, rfl, rfl, rfl, rfl, rfl, rfl, rfl, rfl, rfl, rfl, (by rw [hb104]; rfl), trivial⟩, hp⟩
  rintro a w ⟨hf, hp⟩
  refine st_move hf rfl rfl (by decide) ?_
  clear hf; intro a ha hf; clear ha
  refine wpList_cut 3 (fun a w => Fr 168 a [(8, .int .i64 q16.2), (10, .int .i64 q28.2), (11, v47), (12, .int .i64 q40.2), (15, .int .i64 q52.2.2), (17, .int .i64 q63.2), (19, .int .i64 q65.2), (20, .int .i64 q67.1), (21, .int .i64 q67.2), (23, .int .i64 q69.2), (25, .int .i64 q76.2), (26, .float .f64 v87), (27, .int .i64 q85.2), (29, .int .i64 q92.2), (107, .bool ((((q1.2 == (1 : Int)) && (q5.2 == (1 : Int))) && ((q9.1.length : Int) == (0 : Int))) && (q9.2 == (0 : Int))))] ∧ Hp S w0 w (Res.sl Ek.c128 28 v90 (mk0 (65537 : Int) (Fl.bits 0, Fl.bits 0)) :: Res.sl Ek.c128 28 v74 (List.replicate ((2 : Int)).toNat (Fl.bits 0, Fl.bits 0)) :: Res.sl Ek.c128 28 v83 q76.1 :: Res.sl Ek.c128 28 v71 q69.1 :: Res.sl (Ek.pair Ek.c128 Ek.bool) 60 v50 (List.replicate ((4 : Int)).toNat ((Fl.bits 0, Fl.bits 0), false)) :: Res.sl Ek.c128 28 v59 q52.1 :: Res.sl Ek.bool 4 v60 q52.2.1 :: Res.sl Ek.c128 28 v38 (mk0 (65536 : Int) (Fl.bits 0, Fl.bits 0)) :: Res.sl Ek.c128 28 v47 q40.1 :: Res.sl Ek.c128 28 v26 (mk0 (65540 : Int) (Fl.bits 0, Fl.bits 0)) :: Res.sl Ek.c128 28 v35 q28.1 :: Res.sl Ek.c128 28 v14 (List.replicate ((3 : Int)).toNat (Fl.bits 0, Fl.bits 0)) :: Res.sl Ek.c128 28 v23 q16.1 :: Res.sl Ek.c128 28 v11 q9.1 :: Res.sl Ek.c128 28 v7 q5.1 :: Res.sl Ek.c128 28 v3 q1.1 :: ow)) ?_ ?_
  · rcases Bool.eq_false_or_eq_true (((q1.2 == (1 : Int)) && (q5.2 == (1 : Int))) && ((q9.1.length : Int) == (0 : Int))) with hb106 | hb106
    · skip
      refine st_move hf (wantY hf rfl rfl hb106) rfl (by decide) ?_
      clear hf; intro a ha hf; clear ha
      refine st_ieql hf (by decide) (wantY hf rfl rfl hb106) rfl rfl ?_
      clear hf; intro a ha hf; clear ha
      refine st_pick (v := .bool (q9.2 == (0 : Int))) hf rfl rfl (fun hb' => ?_) (fun hb' => ?_) (by decide) ?_
      · rfl
      · exact absurd (hb106.symm.trans hb') (by decide)
      clear hf; intro a ha hf; clear ha
      refine st_nil hf (th_n ?_)
      exact ⟨hf.sub ⟨rfl, rfl, rfl, rfl, rfl, rfl, rfl, rfl, rfl, rfl, rfl, rfl, rfl, rfl, (by rw [hb106]; rfl), trivial⟩, hp⟩
    refine st_skip hf (wantN hf rfl rfl hb106) rfl (by decide) ?_ rfl
    clear hf; intro a hf
    refine st_skip hf (wantN hf rfl rfl hb106) rfl (by decide) ?_ rfl
    clear hf; intro a hf
    refine st_pick (v := .bool false) hf rfl rfl (fun hb' => ?_) (fun hb' => ?_) (by decide) ?_
    · exact absurd (hb106.symm.trans hb') (by decide)
    · rfl
    clear hf; intro a ha hf; clear ha
    refine st_nil hf (th_n ?_)
    exact ⟨hf.sub ⟨rfl, rfl, rfl, rfl, rfl, rfl, rfl, rfl, rfl, rfl, rfl, rfl, rfl, rfl, (by rw [hb106]; rfl), trivial⟩, hp⟩
  rintro a w ⟨hf, hp⟩
  refine st_move hf rfl rfl (by decide) ?_
  clear hf; intro a ha hf; clear ha
  refine wpList_cut 3 (fun a w => Fr 168 a [(10, .int .i64 q28.2), (11, v47), (12, .int .i64 q40.2), (15, .int .i64 q52.2.2), (17, .int .i64 q63.2), (19, .int .i64 q65.2), (20, .int .i64 q67.1), (21, .int .i64 q67.2), (23, .int .i64 q69.2), (25, .int .i64 q76.2), (26, .float .f64 v87), (27, .int .i64 q85.2), (29, .int .i64 q92.2), (111, .bool (((((q1.2 == (1 : Int)) && (q5.2 == (1 : Int))) && ((q9.1.length : Int) == (0 : Int))) && (q9.2 == (0 : Int))) && (q16.2 == (1 : Int))))] ∧ Hp S w0 w (Res.sl Ek.c128 28 v90 (mk0 (65537 : Int) (Fl.bits 0, Fl.bits 0)) :: Res.sl Ek.c128 28 v74 (List.replicate ((2 : Int)).toNat (Fl.bits 0, Fl.bits 0)) :: Res.sl Ek.c128 28 v83 q76.1 :: Res.sl Ek.c128 28 v71 q69.1 :: Res.sl (Ek.pair Ek.c128 Ek.bool) 60 v50 (List.replicate ((4 : Int)).toNat ((Fl.bits 0, Fl.bits 0), false)) :: Res.sl Ek.c128 28 v59 q52.1 :: Res.sl Ek.bool 4 v60 q52.2.1 :: Res.sl Ek.c128 28 v38 (mk0 (65536 : Int) (Fl.bits 0, Fl.bits 0)) :: Res.sl Ek.c128 28 v47 q40.1 :: Res.sl Ek.c128 28 v26 (mk0 (65540 : Int) (Fl.bits 0, Fl.bits 0)) :: Res.sl Ek.c128 28 v35 q28.1 :: Res.sl Ek.c128 28 v14 (List.replicate ((3 : Int)).toNat (Fl.bits 0, Fl.bits 0)) :: Res.sl Ek.c128 28 v23 q16.1 :: Res.sl Ek.c128 28 v11 q9.1 :: Res.sl Ek.c128 28 v7 q5.1 :: Res.sl Ek.c128 28 v3 q1.1 :: ow)) ?_ ?_
  · rcases Bool.eq_false_or_eq_true ((((q1.2 == (1 : Int)) && (q5.2 == (1 : Int))) && ((q9.1.length : Int) == (0 : Int))) && (q9.2 == (0 : Int))) with hb108 | hb108
    · skip
      refine st_move hf (wantY hf rfl rfl hb108) rfl (by decide) ?_
      clear hf; intro a ha hf; clear ha
      refine st_ieql hf (by decide) (wantY hf rfl rfl hb108) rfl rfl ?_
      clear hf; intro a ha hf; clear ha
      refine st_pick (v := .bool (q16.2 == (1 : Int))) hf rfl rfl (fun hb' => ?_) (fun hb' => ?_) (by decide) ?_
      · rfl
      · exact absurd (hb108.symm.trans hb') (by decide)
      clear hf; intro a ha hf; clear ha
      refine st_nil hf (th_n ?_)
      exact ⟨hf.sub ⟨rfl, rfl, rfl, rfl, rfl, rfl, rfl, rfl, rfl, rfl, rfl, rfl, rfl, (by rw [hb108]; rfl), trivial⟩, hp⟩
    refine st_skip hf (wantN hf rfl rfl hb108) rfl (by decide) ?_ rfl
    clear hf; intro a hf
    refine st_skip hf (wantN hf rfl rfl hb108) rfl (by decide) ?_ rfl
    clear hf; intro a hf
    refine st_pick (v := .bool false) hf rfl rfl (fun hb' => ?_) (fun hb' => ?_) (by decide) ?_
    · exact absurd (hb108.symm.trans hb') (by decide)
    · rfl
    clear hf; intro a ha hf; clear ha
    refine st_nil hf (th_n ?_)
    exact ⟨hf.sub ⟨rfl, rfl, rfl, rfl, rfl, rfl, rfl, rfl, rfl, rfl, rfl, rfl, rfl, (by rw [hb108]; rfl), trivial⟩, hp⟩
  rintro a w ⟨hf, hp⟩
  refine st_move hf rfl rfl (by decide) ?_
  clear hf; intro a ha hf; clear ha
  refine wpList_cut 3 (fun a w => Fr 168 a [(11, v47), (12, .int .i64 q40.2), (15, .int .i64 q52.2.2), (17, .int .i64 q63.2), (19, .int .i64 q65.2), (20, .int .i64 q67.1), (21, .int .i64 q67.2), (23, .int .i64 q69.2), (25, .int .i64 q76.2), (26, .float .f64 v87), (27, .int .i64 q85.2), (29, .int .i64 q92.2), (115, .bool ((((((q1.2 == (1 : Int)) && (q5.2 == (1 : Int))) && ((q9.1.length : Int) == (0 : Int))) && (q9.2 == (0 : Int))) && (q16.2 == (1 : Int))) && (q28.2 == (1 : Int))))] ∧ Hp S w0 w (Res.sl Ek.c128 28 v90 (mk0 (65537 : Int) (Fl.bits 0, Fl.bits 0)) :: Res.sl Ek.c128 28 v74 (List.replicate ((2 : Int)).toNat (Fl.bits 0, Fl.bits 0)) :: Res.sl Ek.c128 28 v83 q76.1 :: Res.sl Ek.c128 28 v71 q69.1 :: Res.sl (Ek.pair Ek.c128 Ek.bool) 60 v50 (List.replicate ((4 : Int)).toNat ((Fl.bits 0, Fl.bits 0), false)) :: Res.sl Ek.c128 28 v59 q52.1 :: Res.sl Ek.bool 4 v60 q52.2.1 :: Res.sl Ek.c128 28 v38 (mk0 (65536 : Int) (Fl.bits 0, Fl.bits 0)) :: Res.sl Ek.c128 28 v47 q40.1 :: Res.sl Ek.c128 28 v26 (mk0 (65540 : Int) (Fl.bits 0, Fl.bits 0)) :: Res.sl Ek.c128 28 v35 q28.1 :: Res.sl Ek.c128 28 v14 (List.replicate ((3 : Int)).toNat (Fl.bits 0, Fl.bits 0)) :: Res.sl Ek.c128 28 v23 q16.1 :: Res.sl Ek.c128 28 v11 q9.1 :: Res.sl Ek.c128 28 v7 q5.1 :: Res.sl Ek.c128 28 v3 q1.1 :: ow)) ?_ ?_
  · rcases Bool.eq_false_or_eq_true (((((q1.2 == (1 : Int)) && (q5.2 == (1 : Int))) && ((q9.1.length : Int) == (0 : Int))) && (q9.2 == (0 : Int))) && (q16.2 == (1 : Int))) with hb110 | hb110
    · skip
      refine st_move hf (wantY hf rfl rfl hb110) rfl (by decide) ?_
      clear hf; intro a ha hf; clear ha
      refine st_ieql hf (by decide) (wantY hf rfl rfl hb110) rfl rfl ?_
      clear hf; intro a ha hf; clear ha
      refine st_pick (v := .bool (q28.2 == (1 : Int))) hf rfl rfl (fun hb' => ?_) (fun hb' => ?_) (by decide) ?_
      · rfl
      · exact absurd (hb110.symm.trans hb') (by decide)
      clear hf; intro a ha hf; clear ha
      refine st_nil hf (th_n ?_)
      exact ⟨hf.sub ⟨rfl, rfl, rfl, rfl, rfl, rfl, rfl, rfl, rfl, rfl, rfl, rfl, (by rw [hb110]; rfl), trivial⟩, hp⟩
    refine st_skip hf (wantN hf rfl rfl hb110) rfl (by decide) ?_ rfl
    clear hf; intro a hf
    refine st_skip hf (wantN hf rfl rfl hb110) rfl (by decide) ?_ rfl
    clear hf; intro a hf
    refine st_pick (v := .bool false) hf rfl rfl (fun hb' => ?_) (fun hb' => ?_) (by decide) ?_
    · exact absurd (hb110.symm.trans hb') (by decide)
    · rfl
    clear hf; intro a ha hf; clear ha
    refine st_nil hf (th_n ?_)
    exact ⟨hf.sub ⟨rfl, rfl, rfl, rfl, rfl, rfl, rfl, rfl, rfl, rfl, rfl, rfl, (by rw [hb110]; rfl), trivial⟩, hp⟩
  rintro a w ⟨hf, hp⟩
  refine st_move hf rfl rfl (by decide) ?_
  clear hf; intro a ha hf; clear ha
  refine wpList_cut 4 (fun a w => Fr 168 a [(12, .int .i64 q40.2), (15, .int .i64 q52.2.2), (17, .int .i64 q63.2), (19, .int .i64 q65.2), (20, .int .i64 q67.1), (21, .int .i64 q67.2), (23, .int .i64 q69.2), (25, .int .i64 q76.2), (26, .float .f64 v87), (27, .int .i64 q85.2), (29, .int .i64 q92.2), (120, .bool (((((((q1.2 == (1 : Int)) && (q5.2 == (1 : Int))) && ((q9.1.length : Int) == (0 : Int))) && (q9.2 == (0 : Int))) && (q16.2 == (1 : Int))) && (q28.2 == (1 : Int))) && ((q40.1.length : Int) == (65536 : Int))))] ∧ Hp S w0 w (Res.sl Ek.c128 28 v90 (mk0 (65537 : Int) (Fl.bits 0, Fl.bits 0)) :: Res.sl Ek.c128 28 v74 (List.replicate ((2 : Int)).toNat (Fl.bits 0, Fl.bits 0)) :: Res.sl Ek.c128 28 v83 q76.1 :: Res.sl Ek.c128 28 v71 q69.1 :: Res.sl (Ek.pair Ek.c128 Ek.bool) 60 v50 (List.replicate ((4 : Int)).toNat ((Fl.bits 0, Fl.bits 0), false)) :: Res.sl Ek.c128 28 v59 q52.1 :: Res.sl Ek.bool 4 v60 q52.2.1 :: Res.sl Ek.c128 28 v38 (mk0 (65536 : Int) (Fl.bits 0, Fl.bits 0)) :: Res.sl Ek.c128 28 v47 q40.1 :: Res.sl Ek.c128 28 v26 (mk0 (65540 : Int) (Fl.bits 0, Fl.bits 0)) :: Res.sl Ek.c128 28 v35 q28.1 :: Res.sl Ek.c128 28 v14 (List.replicate ((3 : Int)).toNat (Fl.bits 0, Fl.bits 0)) :: Res.sl Ek.c128 28 v23 q16.1 :: Res.sl Ek.c128 28 v11 q9.1 :: Res.sl Ek.c128 28 v7 q5.1 :: Res.sl Ek.c128 28 v3 q1.1 :: ow)) ?_ ?_
  · rcases Bool.eq_false_or_eq_true ((((((q1.2 == (1 : Int)) && (q5.2 == (1 : Int))) && ((q9.1.length : Int) == (0 : Int))) && (q9.2 == (0 : Int))) && (q16.2 == (1 : Int))) && (q28.2 == (1 : Int))) with hb112 | hb112
    · skip
      refine st_move hf (wantY hf rfl rfl hb112) rfl (by decide) ?_
      clear hf; intro a ha hf; clear ha
      refine st_len (E := Ek.c128) hf (by decide) Try.underlying26 (wantY hf rfl rfl hb112) rfl (hp.sl (i := 8) rfl) ?_
      clear hf; intro a ha hf; clear ha
      refine st_ieql hf (by decide) (wantY hf rfl rfl hb112) rfl rfl ?_
      clear hf; intro a ha hf; clear ha
      refine st_pick (v := .bool ((q40.1.length : Int) == (65536 : Int))) hf rfl rfl (fun hb' => ?_) (fun hb' => ?_) (by decide) ?_
      · rfl
      · exact absurd (hb112.symm.trans hb') (by decide)
      clear hf; intro a ha hf; clear ha
      refine st_nil hf (th_n ?_)
      exact ⟨hf.sub ⟨rfl, rfl, rfl, rfl, rfl, rfl, rfl, rfl, rfl, rfl, rfl, (by rw [hb112]; rfl), trivial⟩, hp⟩
    refine st_skip hf (wantN hf rfl rfl hb112) rfl (by decide) ?_ rfl
    clear hf; intro a hf
    refine st_skip hf (wantN hf rfl rfl hb112) rfl (by decide) ?_ rfl
    clear hf; intro a hf
    refine st_skip hf (wantN hf rfl rfl hb112) rfl (by decide) ?_ rfl
    clear hf; intro a hf
    refine st_pick (v := .bool false) hf rfl rfl (fun hb' => ?_) (fun hb' => ?_) (by decide) ?_
    · exact absurd (hb112.symm.trans hb') (by decide)
    · rfl
    clear hf; intro a ha hf; clear ha
    refine st_nil hf (th_n ?_)
    exact ⟨hf.sub ⟨rfl, rfl, rfl, rfl, rfl, rfl, rfl, rfl, rfl, rfl, rfl, (by rw [hb112]; rfl), trivial⟩, hp⟩
  rintro a w ⟨hf, hp⟩
  refine st_move hf rfl rfl (by decide) ?_
  clear hf; intro a ha hf; clear ha
  refine wpList_cut 3 (fun a w => Fr 168 a [(15, .int .i64 q52.2.2), (17, .int .i64 q63.2), (19, .int .i64 q65.2), (20, .int .i64 q67.1), (21, .int .i64 q67.2), (23, .int .i64 q69.2), (25, .int .i64 q76.2), (26, .float .f64 v87), (27, .int .i64 q85.2), (29, .int .i64 q92.2), (124, .bool ((((((((q1.2 == (1 : Int)) && (q5.2 == (1 : Int))) && ((q9.1.length : Int) == (0 : Int))) && (q9.2 == (0 : Int))) && (q16.2 == (1 : Int))) && (q28.2 == (1 : Int))) && ((q40.1.length : Int) == (65536 : Int))) && (q40.2 == (0 : Int))))] ∧ Hp S w0 w (Res.sl Ek.c128 28 v90 (mk0 (65537 : Int) (Fl.bits 0, Fl.bits 0)) :: Res.sl Ek.c128 28 v74 (List.replicate ((2 : Int)).toNat (Fl.bits 0, Fl.bits 0)) :: Res.sl Ek.c128 28 v83 q76.1 :: Res.sl Ek.c128 28 v71 q69.1 :: Res.sl (Ek.pair Ek.c128 Ek.bool) 60 v50 (List.replicate ((4 : Int)).toNat ((Fl.bits 0, Fl.bits 0), false)) :: Res.sl Ek.c128 28 v59 q52.1 :: Res.sl Ek.bool 4 v60 q52.2.1 :: Res.sl Ek.c128 28 v38 (mk0 (65536 : Int) (Fl.bits 0, Fl.bits 0)) :: Res.sl Ek.c128 28 v47 q40.1 :: Res.sl Ek.c128 28 v26 (mk0 (65540 : Int) (Fl.bits 0, Fl.bits 0)) :: Res.sl Ek.c128 28 v35 q28.1 :: Res.sl Ek.c128 28 v14 (List.replicate ((3 : Int)).toNat (Fl.bits 0, Fl.bits 0)) :: Res.sl Ek.c128 28 v23 q16.1 :: Res.sl Ek.c128 28 v11 q9.1 :: Res.sl Ek.c128 28 v7 q5.1 :: Res.sl Ek.c128 28 v3 q1.1 :: ow)) ?_ ?_
  · rcases Bool.eq_false_or_eq_true (((((((q1.2 == (1 : Int)) && (q5.2 == (1 : Int))) && ((q9.1.length : Int) == (0 : Int))) && (q9.2 == (0 : Int))) && (q16.2 == (1 : Int))) && (q28.2 == (1 : Int))) && ((q40.1.length : Int) == (65536 : Int))) with hb114 | hb114
    · skip
      refine st_move hf (wantY hf rfl rfl hb114) rfl (by decide) ?_
      clear hf; intro a ha hf; clear ha
      refine st_ieql hf (by decide) (wantY hf rfl rfl hb114) rfl rfl ?_
      clear hf; intro a ha hf; clear ha
      refine st_pick (v := .bool (q40.2 == (0 : Int))) hf rfl rfl (fun hb' => ?_) (fun hb' => ?_) (by decide) ?_
      · rfl
      · exact absurd (hb114.symm.trans hb') (by decide)
      clear hf; intro a ha hf; clear ha
      refine st_nil hf (th_n ?_)
      exact ⟨hf.sub ⟨rfl, rfl, rfl, rfl, rfl, rfl, rfl, rfl, rfl, rfl, (by rw [hb114]; rfl), trivial⟩, hp⟩
    refine st_skip hf (wantN hf rfl rfl hb114) rfl (by decide) ?_ rfl
    clear hf; intro a hf
    refine st_skip hf (wantN hf rfl rfl hb114) rfl (by decide) ?_ rfl
    clear hf; intro a hf
    refine st_pick (v := .bool false) hf rfl rfl (fun hb' => ?_) (fun hb' => ?_) (by decide) ?_
    · exact absurd (hb114.symm.trans hb') (by decide)
    · rfl
    clear hf; intro a ha hf; clear ha
    refine st_nil hf (th_n ?_)
    exact ⟨hf.sub ⟨rfl, rfl, rfl, rfl, rfl, rfl, rfl, rfl, rfl, rfl, (by rw [hb114]; rfl), trivial⟩, hp⟩
  rintro a w ⟨hf, hp⟩
  refine st_move hf rfl rfl (by decide) ?_
  clear hf; intro a ha hf; clear ha
  refine wpList_cut 3 (fun a w => Fr 168 a [(17, .int .i64 q63.2), (19, .int .i64 q65.2), (20, .int .i64 q67.1), (21, .int .i64 q67.2), (23, .int .i64 q69.2), (25, .int .i64 q76.2), (26, .float .f64 v87), (27, .int .i64 q85.2), (29, .int .i64 q92.2), (128, .bool (((((((((q1.2 == (1 : Int)) && (q5.2 == (1 : Int))) && ((q9.1.length : Int) == (0 : Int))) && (q9.2 == (0 : Int))) && (q16.2 == (1 : Int))) && (q28.2 == (1 : Int))) && ((q40.1.length : Int) == (65536 : Int))) && (q40.2 == (0 : Int))) && (q52.2.2 == (1 : Int))))] ∧ Hp S w0 w (Res.sl Ek.c128 28 v90 (mk0 (65537 : Int) (Fl.bits 0, Fl.bits 0)) :: Res.sl Ek.c128 28 v74 (List.replicate ((2 : Int)).toNat (Fl.bits 0, Fl.bits 0)) :: Res.sl Ek.c128 28 v83 q76.1 :: Res.sl Ek.c128 28 v71 q69.1 :: Res.sl (Ek.pair Ek.c128 Ek.bool) 60 v50 (List.replicate ((4 : Int)).toNat ((Fl.bits 0, Fl.bits 0), false)) :: Res.sl Ek.c128 28 v59 q52.1 :: Res.sl Ek.bool 4 v60 q52.2.1 :: Res.sl Ek.c128 28 v38 (mk0 (65536 : Int) (Fl.bits 0, Fl.bits 0)) :: Res.sl Ek.c128 28 v47 q40.1 :: Res.sl Ek.c128 28 v26 (mk0 (65540 : Int) (Fl.bits 0, Fl.bits 0)) :: Res.sl Ek.c128 28 v35 q28.1 :: Res.sl Ek.c128 28 v14 (List.replicate ((3 : Int)).toNat (Fl.bits 0, Fl.bits 0)) :: Res.sl Ek.c128 28 v23 q16.1 :: Res.sl Ek.c128 28 v11 q9.1 :: Res.sl Ek.c128 28 v7 q5.1 :: Res.sl Ek.c128 28 v3 q1.1 :: ow)) ?_ ?_
  · rcases Bool.eq_false_or_eq_true ((((((((q1.2 == (1 : Int)) && (q5.2 == (1 : Int))) && ((q9.1.length : Int) == (0 : Int))) && (q9.2 == (0 : Int))) && (q16.2 == (1 : Int))) && (q28.2 == (1 : Int))) && ((q40.1.length : Int) == (65536 : Int))) && (q40.2 == (0 : Int))) with hb116 | hb116
    · skip
      refine st_move hf (wantY hf rfl rfl hb116) rfl (by decide) ?_
      clear hf; intro a ha hf; clear ha
      refine st_ieql hf (by decide) (wantY hf rfl rfl hb116) rfl rfl ?_
      clear hf; intro a ha hf; clear ha
      refine st_pick (v := .bool (q52.2.2 == (1 : Int))) hf rfl rfl (fun hb' => ?_) (fun hb' => ?_) (by decide) ?_
      · rfl
      · exact absurd (hb116.symm.trans hb') (by decide)
      clear hf; intro a ha hf; clear ha
      refine st_nil hf (th_n ?_)
      exact ⟨hf.sub ⟨rfl, rfl, rfl, rfl, rfl, rfl, rfl, rfl, rfl, (by rw [hb116]; rfl), trivial⟩, hp⟩
    refine st_skip hf (wantN hf rfl rfl hb116) rfl (by decide) ?_ rfl
    clear hf; intro a hf
    refine st_skip hf (wantN hf rfl rfl hb116) rfl (by decide) ?_ rfl
    clear hf; intro a hf
    refine st_pick (v := .bool false) hf rfl rfl (fun hb' => ?_) (fun hb' => ?_) (by decide) ?_
    · exact absurd (hb116.symm.trans hb') (by decide)
    · rfl
    clear hf; intro a ha hf; clear ha
    refine st_nil hf (th_n ?_)
    exact ⟨hf.sub ⟨rfl, rfl, rfl, rfl, rfl, rfl, rfl, rfl, rfl, (by rw [hb116]; rfl), trivial⟩, hp⟩
  rintro a w ⟨hf, hp⟩
  refine st_move hf rfl rfl (by decide) ?_
  clear hf; intro a ha hf; clear ha
  refine wpList_cut 3 (fun a w => Fr 168 a [(19, .int .i64 q65.2), (20, .int .i64 q67.1), (21, .int .i64 q67.2), (23, .int .i64 q69.2), (25, .int .i64 q76.2), (26, .float .f64 v87), (27, .int .i64 q85.2), (29, .int .i64 q92.2), (132, .bool ((((((((((q1.2 == (1 : Int)) && (q5.2 == (1 : Int))) && ((q9.1.length : Int) == (0 : Int))) && (q9.2 == (0 : Int))) && (q16.2 == (1 : Int))) && (q28.2 == (1 : Int))) && ((q40.1.length : Int) == (65536 : Int))) && (q40.2 == (0 : Int))) && (q52.2.2 == (1 : Int))) && (q63.2 == (1 : Int))))] ∧ Hp S w0 w (Res.sl Ek.c128 28 v90 (mk0 (65537 : Int) (Fl.bits 0, Fl.bits 0)) :: Res.sl Ek.c128 28 v74 (List.replicate ((2 : Int)).toNat (Fl.bits 0, Fl.bits 0)) :: Res.sl Ek.c128 28 v83 q76.1 :: Res.sl Ek.c128 28 v71 q69.1 :: Res.sl (Ek.pair Ek.c128 Ek.bool) 60 v50 (List.replicate ((4 : Int)).toNat ((Fl.bits 0, Fl.bits 0), false)) :: Res.sl Ek.c128 28 v59 q52.1 :: Res.sl Ek.bool 4 v60 q52.2.1 :: Res.sl Ek.c128 28 v38 (mk0 (65536 : Int) (Fl.bits 0, Fl.bits 0)) :: Res.sl Ek.c128 28 v47 q40.1 :: Res.sl Ek.c128 28 v26 (mk0 (65540 : Int) (Fl.bits 0, Fl.bits 0)) :: Res.sl Ek.c128 28 v35 q28.1 :: Res.sl Ek.c128 28 v14 (List.replicate ((3 : Int)).toNat (Fl.bits 0, Fl.bits 0)) :: Res.sl Ek.c128 28 v23 q16.1 :: Res.sl Ek.c128 28 v11 q9.1 :: Res.sl Ek.c128 28 v7 q5.1 :: Res.sl Ek.c128 28 v3 q1.1 :: ow)) ?_ ?_
  · rcases Bool.eq_false_or_eq_true (((((((((q1.2 == (1 : Int)) && (q5.2 == (1 : Int))) && ((q9.1.length : Int) == (0 : Int))) && (q9.2 == (0 : Int))) && (q16.2 == (1 : Int))) && (q28.2 == (1 : Int))) && ((q40.1.length : Int) == (65536 : Int))) && (q40.2 == (0 : Int))) && (q52.2.2 == (1 : Int))) with hb118 | hb118
    · skip
      refine st_move hf (wantY hf rfl rfl hb118) rfl (by decide) ?_
      clear hf; intro a ha hf; clear ha
      refine st_ieql hf (by decide) (wantY hf rfl rfl hb118) rfl rfl ?_
      clear hf; intro a ha hf; clear ha
      refine st_pick (v := .bool (q63.2 == (1 : Int))) hf rfl rfl (fun hb' => ?_) (fun hb' => ?_) (by decide) ?_
      · rfl
      · exact absurd (hb118.symm.trans hb') (by decide)
      clear hf; intro a ha hf; clear ha
      refine st_nil hf (th_n ?_)
      exact ⟨hf.sub ⟨rfl, rfl, rfl, rfl, rfl, rfl, rfl, rfl, (by rw [hb118]; rfl), trivial⟩, hp⟩
    refine st_skip hf (wantN hf rfl rfl hb118) rfl (by decide) ?_ rfl
    clear hf; intro a hf
    refine st_skip hf (wantN hf rfl rfl hb118) rfl (by decide) ?_ rfl
    clear hf; intro a hf
    refine st_pick (v := .bool false) hf rfl rfl (fun hb' => ?_) (fun hb' => ?_) (by decide) ?_
    · exact absurd (hb118.symm.trans hb') (by decide)
    · rfl
    clear hf; intro a ha hf; clear ha
    refine st_nil hf (th_n ?_)
    exact ⟨hf.sub ⟨rfl, rfl, rfl, rfl, rfl, rfl, rfl, rfl, (by rw [hb118]; rfl), trivial⟩, hp⟩
  rintro a w ⟨hf, hp⟩
  refine st_move hf rfl rfl (by decide) ?_
  clear hf; intro a ha hf; clear ha
  refine wpList_cut 3 (fun a w => Fr 168 a [(20, .int .i64 q67.1), (21, .int .i64 q67.2), (23, .int .i64 q69.2), (25, .int .i64 q76.2), (26, .float .f64 v87), (27, .int .i64 q85.2), (29, .int .i64 q92.2), (136, .bool (((((((((((q1.2 == (1 : Int)) && (q5.2 == (1 : Int))) && ((q9.1.length : Int) == (0 : Int))) && (q9.2 == (0 : Int))) && (q16.2 == (1 : Int))) && (q28.2 == (1 : Int))) && ((q40.1.length : Int) == (65536 : Int))) && (q40.2 == (0 : Int))) && (q52.2.2 == (1 : Int))) && (q63.2 == (1 : Int))) && (q65.2 == (1 : Int))))] ∧ Hp S w0 w (Res.sl Ek.c128 28 v90 (mk0 (65537 : Int) (Fl.bits 0, Fl.bits 0)) :: Res.sl Ek.c128 28 v74 (List.replicate ((2 : Int)).toNat (Fl.bits 0, Fl.bits 0)) :: Res.sl Ek.c128 28 v83 q76.1 :: Res.sl Ek.c128 28 v71 q69.1 :: Res.sl (Ek.pair Ek.c128 Ek.bool) 60 v50 (List.replicate ((4 : Int)).toNat ((Fl.bits 0, Fl.bits 0), false)) :: Res.sl Ek.c128 28 v59 q52.1 :: Res.sl Ek.bool 4 v60 q52.2.1 :: Res.sl Ek.c128 28 v38 (mk0 (65536 : Int) (Fl.bits 0, Fl.bits 0)) :: Res.sl Ek.c128 28 v47 q40.1 :: Res.sl Ek.c128 28 v26 (mk0 (65540 : Int) (Fl.bits 0, Fl.bits 0)) :: Res.sl Ek.c128 28 v35 q28.1 :: Res.sl Ek.c128 28 v14 (List.replicate ((3 : Int)).toNat (Fl.bits 0, Fl.bits 0)) :: Res.sl Ek.c128 28 v23 q16.1 :: Res.sl Ek.c128 28 v11 q9.1 :: Res.sl Ek.c128 28 v7 q5.1 :: Res.sl Ek.c128 28 v3 q1.1 :: ow)) ?_ ?_
  · rcases Bool.eq_false_or_eq_true ((((((((((q1.2 == (1 : Int)) && (q5.2 == (1 : Int))) && ((q9.1.length : Int) == (0 : Int))) && (q9.2 == (0 : Int))) && (q16.2 == (1 : Int))) && (q28.2 == (1 : Int))) && ((q40.1.length : Int) == (65536 : Int))) && (q40.2 == (0 : Int))) && (q52.2.2 == (1 : Int))) && (q63.2 == (1 : Int))) with hb120 | hb120
    · skip
      refine st_move hf (wantY hf rfl rfl hb120) rfl (by decide) ?_
      clear hf; intro a ha hf; clear ha
      refine st_ieql hf (by decide) (wantY hf rfl rfl hb120) rfl rfl ?_
      clear hf; intro a ha hf; clear ha
      refine st_pick (v := .bool (q65.2 == (1 : Int))) hf rfl rfl (fun hb' => ?_) (fun hb' => ?_) (by decide) ?_
      · rfl
      · exact absurd (hb120.symm.trans hb') (by decide)
      clear hf; intro a ha hf; clear ha
      refine st_nil hf (th_n ?_)
      exact ⟨hf.sub ⟨rfl, rfl, rfl, rfl, rfl, rfl, rfl, (by rw [hb120]; rfl), trivial⟩, hp⟩
    refine st_skip hf (wantN hf rfl rfl hb120) rfl (by decide) ?_ rfl
    clear hf; intro a hf
    refine st_skip hf (wantN hf rfl rfl hb120) rfl (by decide) ?_ rfl
    clear hf; intro a hf
    refine st_pick (v := .bool false) hf rfl rfl (fun hb' => ?_) (fun hb' => ?_) (by decide) ?_
    · exact absurd (hb120.symm.trans hb') (by decide)
    · rfl
    clear hf; intro a ha hf; clear ha
    refine st_nil hf (th_n ?_)
    exact ⟨hf.sub ⟨rfl, rfl, rfl, rfl, rfl, rfl, rfl, (by rw [hb120]; rfl), trivial⟩, hp⟩
  rintro a w ⟨hf, hp⟩
  refine st_move hf rfl rfl (by decide) ?_
  clear hf; intro a ha hf; clear ha
  refine wpList_cut 3 (fun a w => Fr 168 a [(21, .int .i64 q67.2), (23, .int .i64 q69.2), (25, .int .i64 q76.2), (26, .float .f64 v87), (27, .int .i64 q85.2), (29, .int .i64 q92.2), (140, .bool ((((((((((((q1.2 == (1 : Int)) && (q5.2 == (1 : Int))) && ((q9.1.length : Int) == (0 : Int))) && (q9.2 == (0 : Int))) && (q16.2 == (1 : Int))) && (q28.2 == (1 : Int))) && ((q40.1.length : Int) == (65536 : Int))) && (q40.2 == (0 : Int))) && (q52.2.2 == (1 : Int))) && (q63.2 == (1 : Int))) && (q65.2 == (1 : Int))) && (q67.1 == (3 : Int))))] ∧ Hp S w0 w (Res.sl Ek.c128 28 v90 (mk0 (65537 : Int) (Fl.bits 0, Fl.bits 0)) :: Res.sl Ek.c128 28 v74 (List.replicate ((2 : Int)).toNat (Fl.bits 0, Fl.bits 0)) :: Res.sl Ek.c128 28 v83 q76.1 :: Res.sl Ek.c128 28 v71 q69.1 :: Res.sl (Ek.pair Ek.c128 Ek.bool) 60 v50 (List.replicate ((4 : Int)).toNat ((Fl.bits 0, Fl.bits 0), false)) :: Res.sl Ek.c128 28 v59 q52.1 :: Res.sl Ek.bool 4 v60 q52.2.1 :: Res.sl Ek.c128 28 v38 (mk0 (65536 : Int) (Fl.bits 0, Fl.bits 0)) :: Res.sl Ek.c128 28 v47 q40.1 :: Res.sl Ek.c128 28 v26 (mk0 (65540 : Int) (Fl.bits 0, Fl.bits 0)) :: Res.sl Ek.c128 28 v35 q28.1 :: Res.sl Ek.c128 28 v14 (List.replicate ((3 : Int)).toNat (Fl.bits 0, Fl.bits 0)) :: Res.sl Ek.c128 28 v23 q16.1 :: Res.sl Ek.c128 28 v11 q9.1 :: Res.sl Ek.c128 28 v7 q5.1 :: Res.sl Ek.c128 28 v3 q1.1 :: ow)) ?_ ?_
  · rcases Bool.eq_false_or_eq_true (((((((((((q1.2 == (1 : Int)) && (q5.2 == (1 : Int))) && ((q9.1.length : Int) == (0 : Int))) && (q9.2 == (0 : Int))) && (q16.2 == (1 : Int))) && (q28.2 == (1 : Int))) && ((q40.1.length : Int) == (65536 : Int))) && (q40.2 == (0 : Int))) && (q52.2.2 == (1 : Int))) && (q63.2 == (1 : Int))) && (q65.2 == (1 : Int))) with hb122 | hb122
    · skip
      refine st_move hf (wantY hf rfl rfl hb122) rfl (by decide) ?_
      clear hf; intro a ha hf; clear ha
      refine st_ieql hf (by decide) (wantY hf rfl rfl hb122) rfl rfl ?_
      clear hf; intro a ha hf; clear ha
      refine st_pick (v := .bool (q67.1 == (3 : Int))) hf rfl rfl (fun hb' => ?_) (fun hb' => ?_) (by decide) ?_
      · rfl
      · exact absurd (hb122.symm.trans hb') (by decide)
      clear hf; intro a ha hf; clear ha
      refine st_nil hf (th_n ?_)
      exact ⟨hf.sub ⟨rfl, rfl, rfl, rfl, rfl, rfl, (by rw [hb122]; rfl), trivial⟩, hp⟩
    refine st_skip hf (wantN hf rfl rfl hb122) rfl (by decide) ?_ rfl
    clear hf; intro a hf
    refine st_skip hf (wantN hf rfl rfl hb122) rfl (by decide) ?_ rfl
    clear hf; intro a hf
    refine st_pick (v := .bool false) hf rfl rfl (fun hb' => ?_) (fun hb' => ?_) (by decide) ?_
    · exact absurd (hb122.symm.trans hb') (by decide)
    · rfl
    clear hf; intro a ha hf; clear ha
    refine st_nil hf (th_n ?_)
    exact ⟨hf.sub ⟨rfl, rfl, rfl, rfl, rfl, rfl, (by rw [hb122]; rfl), trivial⟩, hp⟩
  rintro a w ⟨hf, hp⟩
  refine st_move hf rfl rfl (by decide) ?_
  clear hf; intro a ha hf; clear ha
  refine wpList_cut 3 (fun a w => Fr 168 a [(23, .int .i64 q69.2), (25, .int .i64 q76.2), (26, .float .f64 v87), (27, .int .i64 q85.2), (29, .int .i64 q92.2), (144, .bool (((((((((((((q1.2 == (1 : Int)) && (q5.2 == (1 : Int))) && ((q9.1.length : Int) == (0 : Int))) && (q9.2 == (0 : Int))) && (q16.2 == (1 : Int))) && (q28.2 == (1 : Int))) && ((q40.1.length : Int) == (65536 : Int))) && (q40.2 == (0 : Int))) && (q52.2.2 == (1 : Int))) && (q63.2 == (1 : Int))) && (q65.2 == (1 : Int))) && (q67.1 == (3 : Int))) && (q67.2 == (0 : Int))))] ∧ Hp S w0 w (Res.sl Ek.c128 28 v90 (mk0 (65537 : Int) (Fl.bits 0, Fl.bits 0)) :: Res.sl Ek.c128 28 v74 (List.replicate ((2 : Int)).toNat (Fl.bits 0, Fl.bits 0)) :: Res.sl Ek.c128 28 v83 q76.1 :: Res.sl Ek.c128 28 v71 q69.1 :: Res.sl (Ek.pair Ek.c128 Ek.bool) 60 v50 (List.replicate ((4 : Int)).toNat ((Fl.bits 0, Fl.bits 0), false)) :: Res.sl Ek.c128 28 v59 q52.1 :: Res.sl Ek.bool 4 v60 q52.2.1 :: Res.sl Ek.c128 28 v38 (mk0 (65536 : Int) (Fl.bits 0, Fl.bits 0)) :: Res.sl Ek.c128 28 v47 q40.1 :: Res.sl Ek.c128 28 v26 (mk0 (65540 : Int) (Fl.bits 0, Fl.bits 0)) :: Res.sl Ek.c128 28 v35 q28.1 :: Res.sl Ek.c128 28 v14 (List.replicate ((3 : Int)).toNat (Fl.bits 0, Fl.bits 0)) :: Res.sl Ek.c128 28 v23 q16.1 :: Res.sl Ek.c128 28 v11 q9.1 :: Res.sl Ek.c128 28 v7 q5.1 :: Res.sl Ek.c128 28 v3 q1.1 :: ow)) ?_ ?_
  · rcases Bool.eq_false_or_eq_true ((((((((((((q1.2 == (1 : Int)) && (q5.2 == (1 : Int))) && ((q9.1.length : Int) == (0 : Int))) && (q9.2 == (0 : Int))) && (q16.2 == (1 : Int))) && (q28.2 == (1 : Int))) && ((q40.1.length : Int) == (65536 : Int))) && (q40.2 == (0 : Int))) && (q52.2.2 == (1 : Int))) && (q63.2 == (1 : Int))) && (q65.2 == (1 : Int))) && (q67.1 == (3 : Int))) with hb124 | hb124
    · skip
      refine st_move hf (wantY hf rfl rfl hb124) rfl (by decide) ?_
      clear hf; intro a ha hf; clear ha
      refine st_ieql hf (by decide) (wantY hf rfl rfl hb124) rfl rfl ?_
      clear hf; intro a ha hf; clear ha
      refine st_pick (v := .bool (q67.2 == (0 : Int))) hf rfl rfl (fun hb' => ?_) (fun hb' => ?_) (by decide) ?_
      · rfl
      · exact absurd (hb124.symm.trans hb') (by decide)
      clear hf; intro a ha hf; clear ha
      refine st_nil hf (th_n ?_)
      exact ⟨hf.sub ⟨rfl, rfl, rfl, rfl, rfl, (by rw [hb124]; rfl), trivial⟩, hp⟩
    refine st_skip hf (wantN hf rfl rfl hb124) rfl (by decide) ?_ rfl
    clear hf; intro a hf
    refine st_skip hf (wantN hf rfl rfl hb124) rfl (by decide) ?_ rfl
    clear hf; intro a hf
    refine st_pick (v := .bool false) hf rfl rfl (fun hb' => ?_) (fun hb' => ?_) (by decide) ?_
    · exact absurd (hb124.symm.trans hb') (by decide)
    · rfl
    clear hf; intro a ha hf; clear ha
    refine st_nil hf (th_n ?_)
    exact ⟨hf.sub ⟨rfl, rfl, rfl, rfl, rfl, (by rw [hb124]; rfl), trivial⟩, hp⟩
  rintro a w ⟨hf, hp⟩
  refine st_move hf rfl rfl (by decide) ?_
  clear hf; intro a ha hf; clear ha
  refine wpList_cut 3 (fun a w => Fr 168 a [(25, .int .i64 q76.2), (26, .float .f64 v87), (27, .int .i64 q85.2), (29, .int .i64 q92.2), (148, .bool ((((((((((((((q1.2 == (1 : Int)) && (q5.2 == (1 : Int))) && ((q9.1.length : Int) == (0 : Int))) && (q9.2 == (0 : Int))) && (q16.2 == (1 : Int))) && (q28.2 == (1 : Int))) && ((q40.1.length : Int) == (65536 : Int))) && (q40.2 == (0 : Int))) && (q52.2.2 == (1 : Int))) && (q63.2 == (1 : Int))) && (q65.2 == (1 : Int))) && (q67.1 == (3 : Int))) && (q67.2 == (0 : Int))) && (q69.2 == (1 : Int))))] ∧ Hp S w0 w (Res.sl Ek.c128 28 v90 (mk0 (65537 : Int) (Fl.bits 0, Fl.bits 0)) :: Res.sl Ek.c128 28 v74 (List.replicate ((2 : Int)).toNat (Fl.bits 0, Fl.bits 0)) :: Res.sl Ek.c128 28 v83 q76.1 :: Res.sl Ek.c128 28 v71 q69.1 :: Res.sl (Ek.pair Ek.c128 Ek.bool) 60 v50 (List.replicate ((4 : Int)).toNat ((Fl.bits 0, Fl.bits 0), false)) :: Res.sl Ek.c128 28 v59 q52.1 :: Res.sl Ek.bool 4 v60 q52.2.1 :: Res.sl Ek.c128 28 v38 (mk0 (65536 : Int) (Fl.bits 0, Fl.bits 0)) :: Res.sl Ek.c128 28 v47 q40.1 :: Res.sl Ek.c128 28 v26 (mk0 (65540 : Int) (Fl.bits 0, Fl.bits 0)) :: Res.sl Ek.c128 28 v35 q28.1 :: Res.sl Ek.c128 28 v14 (List.replicate ((3 : Int)).toNat (Fl.bits 0, Fl.bits 0)) :: Res.sl Ek.c128 28 v23 q16.1 :: Res.sl Ek.c128 28 v11 q9.1 :: Res.sl Ek.c128 28 v7 q5.1 :: Res.sl Ek.c128 28 v3 q1.1 :: ow)) ?_ ?_
  · rcases Bool.eq_false_or_eq_true (((((((((((((q1.2 == (1 : Int)) && (q5.2 == (1 : Int))) && ((q9.1.length : Int) == (0 : Int))) && (q9.2 == (0 : Int))) && (q16.2 == (1 : Int))) && (q28.2 == (1 : Int))) && ((q40.1.length : Int) == (65536 : Int))) && (q40.2 == (0 : Int))) && (q52.2.2 == (1 : Int))) && (q63.2 == (1 : Int))) && (q65.2 == (1 : Int))) && (q67.1 == (3 : Int))) && (q67.2 == (0 : Int))) with hb126 | hb126
    · skip
      refine st_move hf (wantY hf rfl rfl hb126) rfl (by decide) ?_
      clear hf; intro a ha hf; clear ha
      refine st_ieql hf (by decide) (wantY hf rfl rfl hb126) rfl rfl ?_
      clear hf; intro a ha hf; clear ha
      refine st_pick (v := .bool (q69.2 == (1 : Int))) hf rfl rfl (fun hb' => ?_) (fun hb' => ?_) (by decide) ?_
      · rfl
      · exact absurd (hb126.symm.trans hb') (by decide)
      clear hf; intro a ha hf; clear ha
      refine st_nil hf (th_n ?_)
      exact ⟨hf.sub ⟨rfl, rfl, rfl, rfl, (by rw [hb126]; rfl), trivial⟩, hp⟩
    refine st_skip hf (wantN hf rfl rfl hb126) rfl (by decide) ?_ rfl
    clear hf; intro a hf
    refine st_skip hf (wantN hf rfl rfl hb126) rfl (by decide) ?_ rfl
    clear hf; intro a hf
    refine st_pick (v := .bool false) hf rfl rfl (fun hb' => ?_) (fun hb' => ?_) (by decide) ?_
    · exact absurd (hb126.symm.trans hb') (by decide)
    · rfl
    clear hf; intro a ha hf; clear ha
    refine st_nil hf (th_n ?_)
    exact ⟨hf.sub ⟨rfl, rfl, rfl, rfl, (by rw [hb126]; rfl), trivial⟩, hp⟩
  rintro a w ⟨hf, hp⟩
  refine st_move hf rfl rfl (by decide) ?_
  clear hf; intro a ha hf; clear ha
  refine wpList_cut 3 (fun a w => Fr 168 a [(26, .float .f64 v87), (27, .int .i64 q85.2), (29, .int .i64 q92.2), (152, .bool (((((((((((((((q1.2 == (1 : Int)) && (q5.2 == (1 : Int))) && ((q9.1.length : Int) == (0 : Int))) && (q9.2 == (0 : Int))) && (q16.2 == (1 : Int))) && (q28.2 == (1 : Int))) && ((q40.1.length : Int) == (65536 : Int))) && (q40.2 == (0 : Int))) && (q52.2.2 == (1 : Int))) && (q63.2 == (1 : Int))) && (q65.2 == (1 : Int))) && (q67.1 == (3 : Int))) && (q67.2 == (0 : Int))) && (q69.2 == (1 : Int))) && (q76.2 == (1 : Int))))] ∧ Hp S w0 w (Res.sl Ek.c128 28 v90 (mk0 (65537 : Int) (Fl.bits 0, Fl.bits 0)) :: Res.sl Ek.c128 28 v74 (List.replicate ((2 : Int)).toNat (Fl.bits 0, Fl.bits 0)) :: Res.sl Ek.c128 28 v83 q76.1 :: Res.sl Ek.c128 28 v71 q69.1 :: Res.sl (Ek.pair Ek.c128 Ek.bool) 60 v50 (List.replicate ((4 : Int)).toNat ((Fl.bits 0, Fl.bits 0), false)) :: Res.sl Ek.c128 28 v59 q52.1 :: Res.sl Ek.bool 4 v60 q52.2.1 :: Res.sl Ek.c128 28 v38 (mk0 (65536 : Int) (Fl.bits 0, Fl.bits 0)) :: Res.sl Ek.c128 28 v47 q40.1 :: Res.sl Ek.c128 28 v26 (mk0 (65540 : Int) (Fl.bits 0, Fl.bits 0)) :: Res.sl Ek.c128 28 v35 q28.1 :: Res.sl Ek.c128 28 v14 (List.replicate ((3 : Int)).toNat (Fl.bits 0, Fl.bits 0)) :: Res.sl Ek.c128 28 v23 q16.1 :: Res.sl Ek.c128 28 v11 q9.1 :: Res.sl Ek.c128 28 v7 q5.1 :: Res.sl Ek.c128 28 v3 q1.1 :: ow)) ?_ ?_
  · rcases Bool.eq_false_or_eq_true ((((((((((((((q1.2 == (1 : Int)) && (q5.2 == (1 : Int))) && ((q9.1.length : Int) == (0 : Int))) && (q9.2 == (0 : Int))) && (q16.2 == (1 : Int))) && (q28.2 == (1 : Int))) && ((q40.1.length : Int) == (65536 : Int))) && (q40.2 == (0 : Int))) && (q52.2.2 == (1 : Int))) && (q63.2 == (1 : Int))) && (q65.2 == (1 : Int))) && (q67.1 == (3 : Int))) && (q67.2 == (0 : Int))) && (q69.2 == (1 : Int))) with hb128 | hb128
    · skip
      refine st_move hf (wantY hf rfl rfl hb128) rfl (by decide) ?_
      clear hf; intro a ha hf; clear ha
      refine st_ieql hf (by decide) (wantY hf rfl rfl hb128) rfl rfl ?_
      clear hf; intro a ha hf; clear ha
      refine st_pick (v := .bool (q76.2 == (1 : Int))) hf rfl rfl (fun hb' => ?_) (fun hb' => ?_) (by decide) ?_
      · rfl
      · exact absurd (hb128.symm.trans hb') (by decide)
      clear hf; intro a ha hf; clear ha
      refine st_nil hf (th_n ?_)
      exact ⟨hf.sub ⟨rfl, rfl, rfl, (by rw [hb128]; rfl), trivial⟩, hp⟩
    refine st_skip hf (wantN hf rfl rfl hb128) rfl (by decide) ?_ rfl
    clear hf; intro a hf
    refine st_skip hf (wantN hf rfl rfl hb128) rfl (by decide) ?_ rfl
    clear hf; intro a hf
    refine st_pick (v := .bool false) hf rfl rfl (fun hb' => ?_) (fun hb' => ?_) (by decide) ?_
    · exact absurd (hb128.symm.trans hb') (by decide)
    · rfl
    clear hf; intro a ha hf; clear ha
    refine st_nil hf (th_n ?_)
    exact ⟨hf.sub ⟨rfl, rfl, rfl, (by rw [hb128]; rfl), trivial⟩, hp⟩
  rintro a w ⟨hf, hp⟩
  refine st_move hf rfl rfl (by decide) ?_
  clear hf; intro a ha hf; clear ha
  refine wpList_cut 3 (fun a w => Fr 168 a [(27, .int .i64 q85.2), (29, .int .i64 q92.2), (156, .bool ((((((((((((((((q1.2 == (1 : Int)) && (q5.2 == (1 : Int))) && ((q9.1.length : Int) == (0 : Int))) && (q9.2 == (0 : Int))) && (q16.2 == (1 : Int))) && (q28.2 == (1 : Int))) && ((q40.1.length : Int) == (65536 : Int))) && (q40.2 == (0 : Int))) && (q52.2.2 == (1 : Int))) && (q63.2 == (1 : Int))) && (q65.2 == (1 : Int))) && (q67.1 == (3 : Int))) && (q67.2 == (0 : Int))) && (q69.2 == (1 : Int))) && (q76.2 == (1 : Int))) && (feq q85.1 (Fl.bits 0))))] ∧ Hp S w0 w (Res.sl Ek.c128 28 v90 (mk0 (65537 : Int) (Fl.bits 0, Fl.bits 0)) :: Res.sl Ek.c128 28 v74 (List.replicate ((2 : Int)).toNat (Fl.bits 0, Fl.bits 0)) :: Res.sl Ek.c128 28 v83 q76.1 :: Res.sl Ek.c128 28 v71 q69.1 :: Res.sl (Ek.pair Ek.c128 Ek.bool) 60 v50 (List.replicate ((4 : Int)).toNat ((Fl.bits 0, Fl.bits 0), false)) :: Res.sl Ek.c128 28 v59 q52.1 :: Res.sl Ek.bool 4 v60 q52.2.1 :: Res.sl Ek.c128 28 v38 (mk0 (65536 : Int) (Fl.bits 0, Fl.bits 0)) :: Res.sl Ek.c128 28 v47 q40.1 :: Res.sl Ek.c128 28 v26 (mk0 (65540 : Int) (Fl.bits 0, Fl.bits 0)) :: Res.sl Ek.c128 28 v35 q28.1 :: Res.sl Ek.c128 28 v14 (List.replicate ((3 : Int)).toNat (Fl.bits 0, Fl.bits 0)) :: Res.sl Ek.c128 28 v23 q16.1 :: Res.sl Ek.c128 28 v11 q9.1 :: Res.sl Ek.c128 28 v7 q5.1 :: Res.sl Ek.c128 28 v3 q1.1 :: ow)) ?_ ?_
  · rcases Bool.eq_false_or_eq_true (((((((((((((((q1.2 == (1 : Int)) && (q5.2 == (1 : Int))) && ((q9.1.length : Int) == (0 : Int))) && (q9.2 == (0 : Int))) && (q16.2 == (1 : Int))) && (q28.2 == (1 : Int))) && ((q40.1.length : Int) == (65536 : Int))) && (q40.2 == (0 : Int))) && (q52.2.2 == (1 : Int))) && (q63.2 == (1 : Int))) && (q65.2 == (1 : Int))) && (q67.1 == (3 : Int))) && (q67.2 == (0 : Int))) && (q69.2 == (1 : Int))) && (q76.2 == (1 : Int))) with hb130 | hb130
    · skip
      refine st_move hf (wantY hf rfl rfl hb130) rfl (by decide) ?_
      clear hf; intro a ha hf; clear ha
      refine st_fcmp (r_feq (fx := q85.1) (fy := (Fl.bits 0)) y88 rfl) hf (by decide) (wantY hf rfl rfl hb130) rfl rfl ?_
      clear hf; intro a ha hf; clear ha
      refine st_pick (v := .bool (feq q85.1 (Fl.bits 0))) hf rfl rfl (fun hb' => ?_) (fun hb' => ?_) (by decide) ?_
      · rfl
      · exact absurd (hb130.symm.trans hb') (by decide)
      clear hf; intro a ha hf; clear ha
      refine st_nil hf (th_n ?_)
      exact ⟨hf.sub ⟨rfl, rfl, (by rw [hb130]; rfl), trivial⟩, hp⟩
    refine st_skip hf (wantN hf rfl rfl hb130) rfl (by decide) ?_ rfl
    clear hf; intro a hf
    refine st_skip hf (wantN hf rfl rfl hb130) rfl (by decide) ?_ rfl
    clear hf; intro a hf
    refine st_pick (v := .bool false) hf rfl rfl (fun hb' => ?_) (fun hb' => ?_) (by decide) ?_
    · exact absurd (hb130.symm.trans hb') (by decide)
    · rfl
    clear hf; intro a ha hf; clear ha
    refine st_nil hf (th_n ?_)
    exact ⟨hf.sub ⟨rfl, rfl, (by rw [hb130]; rfl), trivial⟩, hp⟩
  rintro a w ⟨hf, hp⟩
  refine st_move hf rfl rfl (by decide) ?_
  clear hf; intro a ha hf; clear ha
  refine wpList_cut 3 (fun a w => Fr 168 a [(29, .int .i64 q92.2), (160, .bool (((((((((((((((((q1.2 == (1 : Int)) && (q5.2 == (1 : Int))) && ((q9.1.length : Int) == (0 : Int))) && (q9.2 == (0 : Int))) && (q16.2 == (1 : Int))) && (q28.2 == (1 : Int))) && ((q40.1.length : Int) == (65536 : Int))) && (q40.2 == (0 : Int))) && (q52.2.2 == (1 : Int))) && (q63.2 == (1 : Int))) && (q65.2 == (1 : Int))) && (q67.1 == (3 : Int))) && (q67.2 == (0 : Int))) && (q69.2 == (1 : Int))) && (q76.2 == (1 : Int))) && (feq q85.1 (Fl.bits 0))) && (q85.2 == (0 : Int))))] ∧ Hp S w0 w (Res.sl Ek.c128 28 v90 (mk0 (65537 : Int) (Fl.bits 0, Fl.bits 0)) :: Res.sl Ek.c128 28 v74 (List.replicate ((2 : Int)).toNat (Fl.bits 0, Fl.bits 0)) :: Res.sl Ek.c128 28 v83 q76.1 :: Res.sl Ek.c128 28 v71 q69.1 :: Res.sl (Ek.pair Ek.c128 Ek.bool) 60 v50 (List.replicate ((4 : Int)).toNat ((Fl.bits 0, Fl.bits 0), false)) :: Res.sl Ek.c128 28 v59 q52.1 :: Res.sl Ek.bool 4 v60 q52.2.1 :: Res.sl Ek.c128 28 v38 (mk0 (65536 : Int) (Fl.bits 0, Fl.bits 0)) :: Res.sl Ek.c128 28 v47 q40.1 :: Res.sl Ek.c128 28 v26 (mk0 (65540 : Int) (Fl.bits 0, Fl.bits 0)) :: Res.sl Ek.c128 28 v35 q28.1 :: Res.sl Ek.c128 28 v14 (List.replicate ((3 : Int)).toNat (Fl.bits 0, Fl.bits 0)) :: Res.sl Ek.c128 28 v23 q16.1 :: Res.sl Ek.c128 28 v11 q9.1 :: Res.sl Ek.c128 28 v7 q5.1 :: Res.sl Ek.c128 28 v3 q1.1 :: ow)) ?_ ?_
  · rcases Bool.eq_false_or_eq_true ((((((((((((((((q1.2 == (1 : Int)) && (q5.2 == (1 : Int))) && ((q9.1.length : Int) == (0 : Int))) && (q9.2 == (0 : Int))) && (q16.2 == (1 : Int))) && (q28.2 == (1 : Int))) && ((q40.1.length : Int) == (65536 : Int))) && (q40.2 == (0 : Int))) && (q52.2.2 == (1 : Int))) && (q63.2 == (1 : Int))) && (q65.2 == (1 : Int))) && (q67.1 == (3 : Int))) && (q67.2 == (0 : Int))) && (q69.2 == (1 : Int))) && (q76.2 == (1 : Int))) && (feq q85.1 (Fl.bits 0))) with hb132 | hb132
    · skip
      refine st_move hf (wantY hf rfl rfl hb132) rfl (by decide) ?_
      clear hf; intro a ha hf; clear ha
      refine st_ieql hf (by decide) (wantY hf rfl rfl hb132) rfl rfl ?_
      clear hf; intro a ha hf; clear ha
      refine st_pick (v := .bool (q85.2 == (0 : Int))) hf rfl rfl (fun hb' => ?_) (fun hb' => ?_) (by decide) ?_
      · rfl
      · exact absurd (hb132.symm.trans hb') (by decide)
      clear hf; intro a ha hf; clear ha
      refine st_nil hf (th_n ?_)
      exact ⟨hf.sub ⟨rfl, (by rw [hb132]; rfl), trivial⟩, hp⟩
    refine st_skip hf (wantN hf rfl rfl hb132) rfl (by decide) ?_ rfl
    clear hf; intro a hf
    refine st_skip hf (wantN hf rfl rfl hb132) rfl (by decide) ?_ rfl
    clear hf; intro a hf
    refine st_pick (v := .bool false) hf rfl rfl (fun hb' => ?_) (fun hb' => ?_) (by decide) ?_
    · exact absurd (hb132.symm.trans hb') (by decide)
    · rfl
    clear hf; intro a ha hf; clear ha
    refine st_nil hf (th_n ?_)
    exact ⟨hf.sub ⟨rfl, (by rw [hb132]; rfl), trivial⟩, hp⟩
  rintro a w ⟨hf, hp⟩
  refine st_move hf rfl rfl (by decide) ?_
  clear hf; intro a ha hf; clear ha
  refine wpList_cut 3 (fun a w => Fr 168 a [(164, .bool ((((((((((((((((((q1.2 == (1 : Int)) && (q5.2 == (1 : Int))) && ((q9.1.length : Int) == (0 : Int))) && (q9.2 == (0 : Int))) && (q16.2 == (1 : Int))) && (q28.2 == (1 : Int))) && ((q40.1.length : Int) == (65536 : Int))) && (q40.2 == (0 : Int))) && (q52.2.2 == (1 : Int))) && (q63.2 == (1 : Int))) && (q65.2 == (1 : Int))) && (q67.1 == (3 : Int))) && (q67.2 == (0 : Int))) && (q69.2 == (1 : Int))) && (q76.2 == (1 : Int))) && (feq q85.1 (Fl.bits 0))) && (q85.2 == (0 : Int))) && (q92.2 == (1 : Int))))] ∧ Hp S w0 w (Res.sl Ek.c128 28 v90 (mk0 (65537 : Int) (Fl.bits 0, Fl.bits 0)) :: Res.sl Ek.c128 28 v74 (List.replicate ((2 : Int)).toNat (Fl.bits 0, Fl.bits 0)) :: Res.sl Ek.c128 28 v83 q76.1 :: Res.sl Ek.c128 28 v71 q69.1 :: Res.sl (Ek.pair Ek.c128 Ek.bool) 60 v50 (List.replicate ((4 : Int)).toNat ((Fl.bits 0, Fl.bits 0), false)) :: Res.sl Ek.c128 28 v59 q52.1 :: Res.sl Ek.bool 4 v60 q52.2.1 :: Res.sl Ek.c128 28 v38 (mk0 (65536 : Int) (Fl.bits 0, Fl.bits 0)) :: Res.sl Ek.c128 28 v47 q40.1 :: Res.sl Ek.c128 28 v26 (mk0 (65540 : Int) (Fl.bits 0, Fl.bits 0)) :: Res.sl Ek.c128 28 v35 q28.1 :: Res.sl Ek.c128 28 v14 (List.replicate ((3 : Int)).toNat (Fl.bits 0, Fl.bits 0)) :: Res.sl Ek.c128 28 v23 q16.1 :: Res.sl Ek.c128 28 v11 q9.1 :: Res.sl Ek.c128 28 v7 q5.1 :: Res.sl Ek.c128 28 v3 q1.1 :: ow)) ?_ ?_
  · rcases Bool.eq_false_or_eq_true (((((((((((((((((q1.2 == (1 : Int)) && (q5.2 == (1 : Int))) && ((q9.1.length : Int) == (0 : Int))) && (q9.2 == (0 : Int))) && (q16.2 == (1 : Int))) && (q28.2 == (1 : Int))) && ((q40.1.length : Int) == (65536 : Int))) && (q40.2 == (0 : Int))) && (q52.2.2 == (1 : Int))) && (q63.2 == (1 : Int))) && (q65.2 == (1 : Int))) && (q67.1 == (3 : Int))) && (q67.2 == (0 : Int))) && (q69.2 == (1 : Int))) && (q76.2 == (1 : Int))) && (feq q85.1 (Fl.bits 0))) && (q85.2 == (0 : Int))) with hb134 | hb134
    · skip
      refine st_move hf (wantY hf rfl rfl hb134) rfl (by decide) ?_
      clear hf; intro a ha hf; clear ha
      refine st_ieql hf (by decide) (wantY hf rfl rfl hb134) rfl rfl ?_
      clear hf; intro a ha hf; clear ha
      refine st_pick (v := .bool (q92.2 == (1 : Int))) hf rfl rfl (fun hb' => ?_) (fun hb' => ?_) (by decide) ?_
      · rfl
      · exact absurd (hb134.symm.trans hb') (by decide)
      clear hf; intro a ha hf; clear ha
      refine st_nil hf (th_n ?_)
      exact ⟨hf.sub ⟨(by rw [hb134]; rfl), trivial⟩, hp⟩
    refine st_skip hf (wantN hf rfl rfl hb134) rfl (by decide) ?_ rfl
    clear hf; intro a hf
    refine st_skip hf (wantN hf rfl rfl hb134) rfl (by decide) ?_ rfl
    clear hf; intro a hf
    refine st_pick (v := .bool false) hf rfl rfl (fun hb' => ?_) (fun hb' => ?_) (by decide) ?_
    · exact absurd (hb134.symm.trans hb') (by decide)
    · rfl
    clear hf; intro a ha hf; clear ha
    refine st_nil hf (th_n ?_)
    exact ⟨hf.sub ⟨(by rw [hb134]; rfl), trivial⟩, hp⟩
  rintro a w ⟨hf, hp⟩
  refine st_move hf rfl rfl (by decide) ?_
  clear hf; intro a ha hf; clear ha
  obtain ⟨z137, hz135, h⟩ := bnd h
  refine wpList_cut 2 (fun a w => Fr 168 a [(167, .bool z137)] ∧ Hp S w0 w (Res.sl Ek.c128 28 v90 (mk0 (65537 : Int) (Fl.bits 0, Fl.bits 0)) :: Res.sl Ek.c128 28 v74 (List.replicate ((2 : Int)).toNat (Fl.bits 0, Fl.bits 0)) :: Res.sl Ek.c128 28 v83 q76.1 :: Res.sl Ek.c128 28 v71 q69.1 :: Res.sl (Ek.pair Ek.c128 Ek.bool) 60 v50 (List.replicate ((4 : Int)).toNat ((Fl.bits 0, Fl.bits 0), false)) :: Res.sl Ek.c128 28 v59 q52.1 :: Res.sl Ek.bool 4 v60 q52.2.1 :: Res.sl Ek.c128 28 v38 (mk0 (65536 : Int) (Fl.bits 0, Fl.bits 0)) :: Res.sl Ek.c128 28 v47 q40.1 :: Res.sl Ek.c128 28 v26 (mk0 (65540 : Int) (Fl.bits 0, Fl.bits 0)) :: Res.sl Ek.c128 28 v35 q28.1 :: Res.sl Ek.c128 28 v14 (List.replicate ((3 : Int)).toNat (Fl.bits 0, Fl.bits 0)) :: Res.sl Ek.c128 28 v23 q16.1 :: Res.sl Ek.c128 28 v11 q9.1 :: Res.sl Ek.c128 28 v7 q5.1 :: Res.sl Ek.c128 28 v3 q1.1 :: ow)) ?_ ?_
  · rcases Bool.eq_false_or_eq_true ((((((((((((((((((q1.2 == (1 : Int)) && (q5.2 == (1 : Int))) && ((q9.1.length : Int) == (0 : Int))) && (q9.2 == (0 : Int))) && (q16.2 == (1 : Int))) && (q28.2 == (1 : Int))) && ((q40.1.length : Int) == (65536 : Int))) && (q40.2 == (0 : Int))) && (q52.2.2 == (1 : Int))) && (q63.2 == (1 : Int))) && (q65.2 == (1 : Int))) && (q67.1 == (3 : Int))) && (q67.2 == (0 : Int))) && (q69.2 == (1 : Int))) && (q76.2 == (1 : Int))) && (feq q85.1 (Fl.bits 0))) && (q85.2 == (0 : Int))) && (q92.2 == (1 : Int))) with hb136 | hb136
    · skip
      replace hz135 := ifT hz135 hb136
      obtain ⟨q138, hcall139, hz135⟩ := bnd hz135
      refine st_call hf (by decide) Try.func13 rfl rfl (wantY hf rfl rfl hb136) rfl rfl (f_foghornlaw09_awake_c hp  hcall139) ?_
      rintro _ w ⟨rfl, hp0⟩
      clear hp; have hp := hp0; clear hp0
      replace hp : Hp _ _ _ (Res.sl Ek.c128 28 v90 (mk0 (65537 : Int) (Fl.bits 0, Fl.bits 0)) :: Res.sl Ek.c128 28 v74 (List.replicate ((2 : Int)).toNat (Fl.bits 0, Fl.bits 0)) :: Res.sl Ek.c128 28 v83 q76.1 :: Res.sl Ek.c128 28 v71 q69.1 :: Res.sl (Ek.pair Ek.c128 Ek.bool) 60 v50 (List.replicate ((4 : Int)).toNat ((Fl.bits 0, Fl.bits 0), false)) :: Res.sl Ek.c128 28 v59 q52.1 :: Res.sl Ek.bool 4 v60 q52.2.1 :: Res.sl Ek.c128 28 v38 (mk0 (65536 : Int) (Fl.bits 0, Fl.bits 0)) :: Res.sl Ek.c128 28 v47 q40.1 :: Res.sl Ek.c128 28 v26 (mk0 (65540 : Int) (Fl.bits 0, Fl.bits 0)) :: Res.sl Ek.c128 28 v35 q28.1 :: Res.sl Ek.c128 28 v14 (List.replicate ((3 : Int)).toNat (Fl.bits 0, Fl.bits 0)) :: Res.sl Ek.c128 28 v23 q16.1 :: Res.sl Ek.c128 28 v11 q9.1 :: Res.sl Ek.c128 28 v7 q5.1 :: Res.sl Ek.c128 28 v3 q1.1 :: ow) := hp
      refine ⟨_, rfl, ?_⟩
      clear hf; intro a hf
      obtain rfl := Option.some.inj hz135
      refine st_pick (v := .bool q138) hf rfl rfl (fun hb' => ?_) (fun hb' => ?_) (by decide) ?_
      · rfl
      · exact absurd (hb136.symm.trans hb') (by decide)
      clear hf; intro a ha hf; clear ha
      refine st_nil hf (th_n ?_)
      exact ⟨hf.sub ⟨rfl, trivial⟩, hp⟩
    replace hz135 := ifF hz135 hb136
    refine st_skip hf (wantN hf rfl rfl hb136) rfl (by decide) ?_ rfl
    clear hf; intro a hf
    obtain rfl := Option.some.inj hz135
    refine st_pick (v := .bool false) hf rfl rfl (fun hb' => ?_) (fun hb' => ?_) (by decide) ?_
    · exact absurd (hb136.symm.trans hb') (by decide)
    · rfl
    clear hf; intro a ha hf; clear ha
    refine st_nil hf (th_n ?_)
    exact ⟨hf.sub ⟨rfl, trivial⟩, hp⟩
  rintro a w ⟨hf, hp⟩
  refine st_assign hf rfl rfl (by decide) ?_
  clear hf; intro a ha hf; clear ha
  refine st_nil hf ?_
  refine th_n ?_
  refine wp_ret ?_
  obtain rfl := Option.some.inj h
  have hp : Hp _ _ _ (ow) := Hp.sel (pre := [Res.sl Ek.c128 28 v90 (mk0 (65537 : Int) (Fl.bits 0, Fl.bits 0)), Res.sl Ek.c128 28 v74 (List.replicate ((2 : Int)).toNat (Fl.bits 0, Fl.bits 0)), Res.sl Ek.c128 28 v83 q76.1, Res.sl Ek.c128 28 v71 q69.1, Res.sl (Ek.pair Ek.c128 Ek.bool) 60 v50 (List.replicate ((4 : Int)).toNat ((Fl.bits 0, Fl.bits 0), false)), Res.sl Ek.c128 28 v59 q52.1, Res.sl Ek.bool 4 v60 q52.2.1, Res.sl Ek.c128 28 v38 (mk0 (65536 : Int) (Fl.bits 0, Fl.bits 0)), Res.sl Ek.c128 28 v47 q40.1, Res.sl Ek.c128 28 v26 (mk0 (65540 : Int) (Fl.bits 0, Fl.bits 0)), Res.sl Ek.c128 28 v35 q28.1, Res.sl Ek.c128 28 v14 (List.replicate ((3 : Int)).toNat (Fl.bits 0, Fl.bits 0)), Res.sl Ek.c128 28 v23 q16.1, Res.sl Ek.c128 28 v11 q9.1, Res.sl Ek.c128 28 v7 q5.1, Res.sl Ek.c128 28 v3 q1.1]) (tail := ow) (rs' := []) hp [] (by decide) (by simp) rfl
  exact ⟨rfl, ⟨hf.sub ⟨rfl, trivial⟩, hp⟩⟩

end Go.Proofs.Ythmobhgjojgipaa
