/- The functions foghorn foghornlaw06.TurnsNone: what each answers, as a plain function, and that its call answers it; printed by gen.py. -/
import Derived.Test.YtienojgmpjpcjaaProg
import Derived.Test.YtienojgmpjpcjaaGlN
import Derived.KernelRfl
import Derived.Test.YtienojgmpjpcjaaG2p1
set_option linter.unusedVariables false
set_option maxRecDepth 100000
set_option maxHeartbeats 4000000
namespace Go.Proofs.Ytienojgmpjpcjaa
open GL
noncomputable def f_foghornlaw06_TurnsNone  : Option Bool := ((f_turns_Into ([])).bind fun q1 => ((f_turns_Into ([(4 : Int)])).bind fun q7 => (if 0 ≤ (65537 : Int) ∧ (65537 : Int) ≤ (65537 : Int) ∧ (65537 : Int) * 1 ≤ 281474976710656 then ((f_turns_Out (mk0 (65537 : Int) (0 : Int))).bind fun q19 => (if 0 ≤ (65536 : Int) ∧ (65536 : Int) ≤ (65536 : Int) ∧ (65536 : Int) * 1 ≤ 281474976710656 then ((f_turns_Out (mk0 (65536 : Int) (0 : Int))).bind fun q31 => (if 0 ≤ (16385 : Int) ∧ (16385 : Int) ≤ (16385 : Int) ∧ (16385 : Int) * 1 ≤ 281474976710656 then ((f_turns_Bits (mk0 (16385 : Int) (0 : Int))).bind fun q43 => (if 0 ≤ (32769 : Int) ∧ (32769 : Int) ≤ (32769 : Int) ∧ (32769 : Int) * 1 ≤ 281474976710656 then ((f_turns_Of (mk0 (32769 : Int) false)).bind fun q55 => (if 0 ≤ (32770 : Int) ∧ (32770 : Int) ≤ (32770 : Int) ∧ (32770 : Int) * 1 ≤ 281474976710656 then ((f_turns_Of (mk0 (32770 : Int) false)).bind fun q67 => ((f_turns_Marked ([(1 : Int)]) ([])).bind fun q78 => ((f_turns_Points ([]) (Fl.bits 0)).bind fun q89 => ((f_turns_Points ([]) (Fl.bits 4553139223271571456)).bind fun q93 => ((f_turns_Points ([]) (Fl.bits 4652220614096977920)).bind fun q97 => ((f_turns_Found ([]) ([])).bind fun q101 => (if 0 ≤ (1 : Int) ∧ (1 : Int) ≤ (1 : Int) ∧ (1 : Int) * 16 ≤ 281474976710656 then ((f_turns_Found ([]) (List.replicate ((1 : Int)).toNat (Fl.bits 0, Fl.bits 0))).bind fun q106 => ((f_turns_Near (Fl.bits 0, Fl.bits 0)).bind fun q113 => ((if (((((((((((((((((((q1.1.length : Int) == (0 : Int)) && (q1.2 == (0 : Int))) && (q7.2 == (1 : Int))) && (q19.2 == (1 : Int))) && ((q31.1.length : Int) == (65536 : Int))) && (q31.2 == (0 : Int))) && (q43.2 == (1 : Int))) && (q55.2 == (1 : Int))) && (q67.2 == (1 : Int))) && (q78.2.2 == (1 : Int))) && (q89.2 == (1 : Int))) && (q93.2 == (0 : Int))) && (q97.2 == (1 : Int))) && (q101.1 == (0 : Int))) && (q101.2 == (0 : Int))) && (q106.2 == (1 : Int))) && (q113.1 == (0 : Int))) && (!q113.2)) = true then ((f_foghornlaw06_awake).bind fun q152 => (some q152)) else (some false)).bind fun z151 => (some z151)))) else none))))))) else none)) else none)) else none)) else none)) else none)))
theorem f_foghornlaw06_TurnsNone_c {S : Nat → Prop} {w0 w : World} {ow : List Res} (hp : Hp S w0 w ow) {r : Bool} (h : f_foghornlaw06_TurnsNone = some r) :
    Calls Try.prog 7 #[] w (fun e w' => e = .returned (.bool r) ∧ Hp S w0 w' (ow)) := by
  unfold f_foghornlaw06_TurnsNone at h
  refine enter (n := 170) (args := []) Try.func7 rfl rfl (Nat.le_of_ble_eq_true rfl) fun a hf => ?_
  replace hf : Fr 170 a [] := hf
  refine wp_mono (Q := fun e a w => e = .ret ∧ Fr 170 a [(0, .bool r)] ∧ Hp S w0 w (ow)) ?_ ?_
  rotate_left
  · rintro e a w ⟨rfl, hf, hp⟩
    exact ret1 hf rfl rfl ⟨rfl, hp⟩
  refine wp_seq ?_
  refine wp_reg ?_
  refine st_assign hf rfl rfl (by decide) ?_
  clear hf; intro a ha hf; clear ha
  refine st_nil hf ?_
  refine th_n ?_
  refine wp_seq ?_
  refine wp_reg ?_
  obtain ⟨q1, hcall2, h⟩ := bnd h
  refine st_call hf (by decide) Try.func9 rfl rfl rfl rfl rfl (f_turns_Into_c hp _ _ (RdS.nil _ _ _) hcall2) ?_
  rintro _ w ⟨v3, rfl, hp0⟩
  clear hp; have hp := hp0; clear hp0
  replace hp : Hp _ _ w (Res.sl (Ek.int .u8) 5 v3 q1.1 :: ow) := hp
  refine ⟨_, rfl, ?_⟩
  clear hf; intro a hf
  refine st_move hf rfl rfl (by decide) ?_
  clear hf; intro a ha hf; clear ha
  refine st_extract hf (by decide) rfl rfl rfl ?_
  clear hf; intro a ha hf; clear ha
  refine st_extract hf (by decide) rfl rfl rfl ?_
  clear hf; intro a ha hf; clear ha
  refine st_assign hf rfl rfl (by decide) ?_
  clear hf; intro a ha hf; clear ha
  refine st_assign hf rfl rfl (by decide) ?_
  clear hf; intro a ha hf; clear ha
  refine st_nil hf ?_
  refine th_n ?_
  refine wp_seq ?_
  refine wp_reg ?_
  refine st_build (E := (Ek.int .u8)) (xs := [(4 : Int)]) hf (by decide) elt5 Try.underlying22 hp (vals := #[(0, .int .u8 (4 : Int))]) (cells := #[.int .u8 (4 : Int)]) rfl (by simp [hf.ev (x := (Operand.const (.int .u8 (4 : Int)))) rfl]) (by decide) (by decide) (z := .int .u8 0) (by kernel_rfl) (by kernel_rfl) rfl (reps_cons (cs := [.int .u8 (4 : Int)]) rfl (reps_nil _)) ?_
  clear hf; intro a w v5 hf hp0; clear hp; have hp := hp0; clear hp0
  replace hp : Hp _ _ w (Res.sl (Ek.int .u8) 5 v5 ([(4 : Int)]) :: Res.sl (Ek.int .u8) 5 v3 q1.1 :: ow) := hp
  obtain ⟨q7, hcall8, h⟩ := bnd h
  obtain ⟨S9, hp10, rd11, up12, bk13⟩ := Hp.lendS hp (i := 0) rfl
  refine st_call hf (by decide) Try.func9 rfl rfl rfl rfl rfl (f_turns_Into_c hp10 _ _ rd11 hcall8) ?_
  rintro _ w ⟨v14, rfl, hp0⟩
  have hp0 := bk13 _ _ hp0
  clear hp; have hp := hp0; clear hp0
  replace hp : Hp _ _ w (Res.sl (Ek.int .u8) 5 v5 ([(4 : Int)]) :: Res.sl (Ek.int .u8) 5 v14 q7.1 :: Res.sl (Ek.int .u8) 5 v3 q1.1 :: ow) := hp
  refine ⟨_, rfl, ?_⟩
  clear hf; intro a hf
  refine st_move hf rfl rfl (by decide) ?_
  clear hf; intro a ha hf; clear ha
  refine st_extract hf (by decide) rfl rfl rfl ?_
  clear hf; intro a ha hf; clear ha
  refine st_extract hf (by decide) rfl rfl rfl ?_
  clear hf; intro a ha hf; clear ha
  refine st_assign hf rfl rfl (by decide) ?_
  clear hf; intro a ha hf; clear ha
  refine st_assign hf rfl rfl (by decide) ?_
  clear hf; intro a ha hf; clear ha
  refine st_nil hf ?_
  refine th_n ?_
  refine wp_seq ?_
  refine wp_reg ?_
  obtain ⟨hc16, h⟩ := chk h
  refine st_make (E := (Ek.int .u8)) hf (by decide) elt5 Try.underlying22 (by decide) hp rfl rfl rfl hc16.1 hc16.2.1 hc16.2.2 ?_
  clear hf; intro a w v17 hf hp0; clear hp; have hp := hp0; clear hp0
  rw [← mk0_eq] at hp
  replace hp : Hp _ _ w (Res.sl (Ek.int .u8) 5 v17 (mk0 (65537 : Int) (0 : Int)) :: Res.sl (Ek.int .u8) 5 v5 ([(4 : Int)]) :: Res.sl (Ek.int .u8) 5 v14 q7.1 :: Res.sl (Ek.int .u8) 5 v3 q1.1 :: ow) := hp
  obtain ⟨q19, hcall20, h⟩ := bnd h
  obtain ⟨S21, hp22, rd23, up24, bk25⟩ := Hp.lendS hp (i := 0) rfl
  refine st_call hf (by decide) Try.func10 rfl rfl rfl rfl rfl (f_turns_Out_c hp22 _ _ rd23 hcall20) ?_
  rintro _ w ⟨v26, rfl, hp0⟩
  have hp0 := bk25 _ _ hp0
  clear hp; have hp := hp0; clear hp0
  replace hp : Hp _ _ w (Res.sl (Ek.int .u8) 5 v17 (mk0 (65537 : Int) (0 : Int)) :: Res.sl (Ek.int .u8) 5 v26 q19.1 :: Res.sl (Ek.int .u8) 5 v5 ([(4 : Int)]) :: Res.sl (Ek.int .u8) 5 v14 q7.1 :: Res.sl (Ek.int .u8) 5 v3 q1.1 :: ow) := hp
  refine ⟨_, rfl, ?_⟩
  clear hf; intro a hf
  refine st_move hf rfl rfl (by decide) ?_
  clear hf; intro a ha hf; clear ha
  refine st_extract hf (by decide) rfl rfl rfl ?_
  clear hf; intro a ha hf; clear ha
  refine st_extract hf (by decide) rfl rfl rfl ?_
  clear hf; intro a ha hf; clear ha
  refine st_assign hf rfl rfl (by decide) ?_
  clear hf; intro a ha hf; clear ha
  refine st_assign hf rfl rfl (by decide) ?_
  clear hf; intro a ha hf; clear ha
  refine st_nil hf ?_
  refine th_n ?_
  refine wp_seq ?_
  refine wp_reg ?_
  obtain ⟨hc28, h⟩ := chk h
  refine st_make (E := (Ek.int .u8)) hf (by decide) elt5 Try.underlying22 (by decide) hp rfl rfl rfl hc28.1 hc28.2.1 hc28.2.2 ?_
  clear hf; intro a w v29 hf hp0; clear hp; have hp := hp0; clear hp0
  rw [← mk0_eq] at hp
  replace hp : Hp _ _ w (Res.sl (Ek.int .u8) 5 v29 (mk0 (65536 : Int) (0 : Int)) :: Res.sl (Ek.int .u8) 5 v17 (mk0 (65537 : Int) (0 : Int)) :: Res.sl (Ek.int .u8) 5 v26 q19.1 :: Res.sl (Ek.int .u8) 5 v5 ([(4 : Int)]) :: Res.sl (Ek.int .u8) 5 v14 q7.1 :: Res.sl (Ek.int .u8) 5 v3 q1.1 :: ow) := hp
  obtain ⟨q31, hcall32, h⟩ := bnd h
  obtain ⟨S33, hp34, rd35, up36, bk37⟩ := Hp.lendS hp (i := 0) rfl
  refine st_call hf (by decide) Try.func10 rfl rfl rfl rfl rfl (f_turns_Out_c hp34 _ _ rd35 hcall32) ?_
  rintro _ w ⟨v38, rfl, hp0⟩
  have hp0 := bk37 _ _ hp0
  clear hp; have hp := hp0; clear hp0
  replace hp : Hp _ _ w (Res.sl (Ek.int .u8) 5 v29 (mk0 (65536 : Int) (0 : Int)) :: Res.sl (Ek.int .u8) 5 v38 q31.1 :: Res.sl (Ek.int .u8) 5 v17 (mk0 (65537 : Int) (0 : Int)) :: Res.sl (Ek.int .u8) 5 v26 q19.1 :: Res.sl (Ek.int .u8) 5 v5 ([(4 : Int)]) :: Res.sl (Ek.int .u8) 5 v14 q7.1 :: Res.sl (Ek.int .u8) 5 v3 q1.1 :: ow) := hp
  refine ⟨_, rfl, ?_⟩
  clear hf; intro a hf
  refine st_move hf rfl rfl (by decide) ?_
  clear hf; intro a ha hf; clear ha
  refine st_extract hf (by decide) rfl rfl rfl ?_
  clear hf; intro a ha hf; clear ha
  refine st_extract hf (by decide) rfl rfl rfl ?_
  clear hf; intro a ha hf; clear ha
  refine st_assign hf rfl rfl (by decide) ?_
  clear hf; intro a ha hf; clear ha
  refine st_assign hf rfl rfl (by decide) ?_
  clear hf; intro a ha hf; clear ha
  refine st_nil hf ?_
  refine th_n ?_
  refine wp_seq ?_
  refine wp_reg ?_
  obtain ⟨hc40, h⟩ := chk h
  refine st_make (E := (Ek.int .u8)) hf (by decide) elt5 Try.underlying22 (by decide) hp rfl rfl rfl hc40.1 hc40.2.1 hc40.2.2 ?_
  clear hf; intro a w v41 hf hp0; clear hp; have hp := hp0; clear hp0
  rw [← mk0_eq] at hp
  replace hp : Hp _ _ w (Res.sl (Ek.int .u8) 5 v41 (mk0 (16385 : Int) (0 : Int)) :: Res.sl (Ek.int .u8) 5 v29 (mk0 (65536 : Int) (0 : Int)) :: Res.sl (Ek.int .u8) 5 v38 q31.1 :: Res.sl (Ek.int .u8) 5 v17 (mk0 (65537 : Int) (0 : Int)) :: Res.sl (Ek.int .u8) 5 v26 q19.1 :: Res.sl (Ek.int .u8) 5 v5 ([(4 : Int)]) :: Res.sl (Ek.int .u8) 5 v14 q7.1 :: Res.sl (Ek.int .u8) 5 v3 q1.1 :: ow) := hp
  obtain ⟨q43, hcall44, h⟩ := bnd h
  obtain ⟨S45, hp46, rd47, up48, bk49⟩ := Hp.lendS hp (i := 0) rfl
  refine st_call hf (by decide) Try.func11 rfl rfl rfl rfl rfl (f_turns_Bits_c hp46 _ _ rd47 hcall44) ?_
  rintro _ w ⟨v50, rfl, hp0⟩
  have hp0 := bk49 _ _ hp0
  clear hp; have hp := hp0; clear hp0
  replace hp : Hp _ _ w (Res.sl (Ek.int .u8) 5 v41 (mk0 (16385 : Int) (0 : Int)) :: Res.sl Ek.bool 4 v50 q43.1 :: Res.sl (Ek.int .u8) 5 v29 (mk0 (65536 : Int) (0 : Int)) :: Res.sl (Ek.int .u8) 5 v38 q31.1 :: Res.sl (Ek.int .u8) 5 v17 (mk0 (65537 : Int) (0 : Int)) :: Res.sl (Ek.int .u8) 5 v26 q19.1 :: Res.sl (Ek.int .u8) 5 v5 ([(4 : Int)]) :: Res.sl (Ek.int .u8) 5 v14 q7.1 :: Res.sl (Ek.int .u8) 5 v3 q1.1 :: ow) := hp
  refine ⟨_, rfl, ?_⟩
  clear hf; intro a hf
  refine st_move hf rfl rfl (by decide) ?_
  clear hf; intro a ha hf; clear ha
  refine st_extract hf (by decide) rfl rfl rfl ?_
  clear hf; intro a ha hf; clear ha
  refine st_extract hf (by decide) rfl rfl rfl ?_
  clear hf; intro a ha hf; clear ha
  refine st_assign hf rfl rfl (by decide) ?_
  clear hf; intro a ha hf; clear ha
  refine st_assign hf rfl rfl (by decide) ?_
  clear hf; intro a ha hf; clear ha
  refine st_nil hf ?_
  refine th_n ?_
  refine wp_seq ?_
  refine wp_reg ?_
  obtain ⟨hc52, h⟩ := chk h
  refine st_make (E := Ek.bool) hf (by decide) elt4 Try.underlying27 (by decide) hp rfl rfl rfl hc52.1 hc52.2.1 hc52.2.2 ?_
  clear hf; intro a w v53 hf hp0; clear hp; have hp := hp0; clear hp0
  rw [← mk0_eq] at hp
  replace hp : Hp _ _ w (Res.sl Ek.bool 4 v53 (mk0 (32769 : Int) false) :: Res.sl (Ek.int .u8) 5 v41 (mk0 (16385 : Int) (0 : Int)) :: Res.sl Ek.bool 4 v50 q43.1 :: Res.sl (Ek.int .u8) 5 v29 (mk0 (65536 : Int) (0 : Int)) :: Res.sl (Ek.int .u8) 5 v38 q31.1 :: Res.sl (Ek.int .u8) 5 v17 (mk0 (65537 : Int) (0 : Int)) :: Res.sl (Ek.int .u8) 5 v26 q19.1 :: Res.sl (Ek.int .u8) 5 v5 ([(4 : Int)]) :: Res.sl (Ek.int .u8) 5 v14 q7.1 :: Res.sl (Ek.int .u8) 5 v3 q1.1 :: ow) := hp
  obtain ⟨q55, hcall56, h⟩ := bnd h
  obtain ⟨S57, hp58, rd59, up60, bk61⟩ := Hp.lendS hp (i := 0) rfl
  refine st_call hf (by decide) Try.func12 rfl rfl rfl rfl rfl (f_turns_Of_c hp58 _ _ rd59 hcall56) ?_
  rintro _ w ⟨v62, rfl, hp0⟩
  have hp0 := bk61 _ _ hp0
  clear hp; have hp := hp0; clear hp0
  replace hp : Hp _ _ w (Res.sl Ek.bool 4 v53 (mk0 (32769 : Int) false) :: Res.sl (Ek.int .u8) 5 v62 q55.1 :: Res.sl (Ek.int .u8) 5 v41 (mk0 (16385 : Int) (0 : Int)) :: Res.sl Ek.bool 4 v50 q43.1 :: Res.sl (Ek.int .u8) 5 v29 (mk0 (65536 : Int) (0 : Int)) :: Res.sl (Ek.int .u8) 5 v38 q31.1 :: Res.sl (Ek.int .u8) 5 v17 (mk0 (65537 : Int) (0 : Int)) :: Res.sl (Ek.int .u8) 5 v26 q19.1 :: Res.sl (Ek.int .u8) 5 v5 ([(4 : Int)]) :: Res.sl (Ek.int .u8) 5 v14 q7.1 :: Res.sl (Ek.int .u8) 5 v3 q1.1 :: ow) := hp
  refine ⟨_, rfl, ?_⟩
  clear hf; intro a hf
  refine st_move hf rfl rfl (by decide) ?_
  clear hf; intro a ha hf; clear ha
  refine st_extract hf (by decide) rfl rfl rfl ?_
  clear hf; intro a ha hf; clear ha
  refine st_extract hf (by decide) rfl rfl rfl ?_
  clear hf; intro a ha hf; clear ha
  refine st_assign hf rfl rfl (by decide) ?_
  clear hf; intro a ha hf; clear ha
  refine st_assign hf rfl rfl (by decide) ?_
  clear hf; intro a ha hf; clear ha
  refine st_nil hf ?_
  refine th_n ?_
  refine wp_seq ?_
  refine wp_reg ?_
  obtain ⟨hc64, h⟩ := chk h
  refine st_make (E := Ek.bool) hf (by decide) elt4 Try.underlying27 (by decide) hp rfl rfl rfl hc64.1 hc64.2.1 hc64.2.2 ?_
  clear hf; intro a w v65 hf hp0; clear hp; have hp := hp0; clear hp0
  rw [← mk0_eq] at hp
  replace hp : Hp _ _ w (Res.sl Ek.bool 4 v65 (mk0 (32770 : Int) false) :: Res.sl Ek.bool 4 v53 (mk0 (32769 : Int) false) :: Res.sl (Ek.int .u8) 5 v62 q55.1 :: Res.sl (Ek.int .u8) 5 v41 (mk0 (16385 : Int) (0 : Int)) :: Res.sl Ek.bool 4 v50 q43.1 :: Res.sl (Ek.int .u8) 5 v29 (mk0 (65536 : Int) (0 : Int)) :: Res.sl (Ek.int .u8) 5 v38 q31.1 :: Res.sl (Ek.int .u8) 5 v17 (mk0 (65537 : Int) (0 : Int)) :: Res.sl (Ek.int .u8) 5 v26 q19.1 :: Res.sl (Ek.int .u8) 5 v5 ([(4 : Int)]) :: Res.sl (Ek.int .u8) 5 v14 q7.1 :: Res.sl (Ek.int .u8) 5 v3 q1.1 :: ow) := hp
  obtain ⟨q67, hcall68, h⟩ := bnd h
  obtain ⟨S69, hp70, rd71, up72, bk73⟩ := Hp.lendS hp (i := 0) rfl
  refine st_call hf (by decide) Try.func12 rfl rfl rfl rfl rfl (f_turns_Of_c hp70 _ _ rd71 hcall68) ?_
  rintro _ w ⟨v74, rfl, hp0⟩
  have hp0 := bk73 _ _ hp0
  clear hp; have hp := hp0; clear hp0
  replace hp : Hp _ _ w (Res.sl Ek.bool 4 v65 (mk0 (32770 : Int) false) :: Res.sl (Ek.int .u8) 5 v74 q67.1 :: Res.sl Ek.bool 4 v53 (mk0 (32769 : Int) false) :: Res.sl (Ek.int .u8) 5 v62 q55.1 :: Res.sl (Ek.int .u8) 5 v41 (mk0 (16385 : Int) (0 : Int)) :: Res.sl Ek.bool 4 v50 q43.1 :: Res.sl (Ek.int .u8) 5 v29 (mk0 (65536 : Int) (0 : Int)) :: Res.sl (Ek.int .u8) 5 v38 q31.1 :: Res.sl (Ek.int .u8) 5 v17 (mk0 (65537 : Int) (0 : Int)) :: Res.sl (Ek.int .u8) 5 v26 q19.1 :: Res.sl (Ek.int .u8) 5 v5 ([(4 : Int)]) :: Res.sl (Ek.int .u8) 5 v14 q7.1 :: Res.sl (Ek.int .u8) 5 v3 q1.1 :: ow) := hp
  refine ⟨_, rfl, ?_⟩
  clear hf; intro a hf
  refine st_move hf rfl rfl (by decide) ?_
  clear hf; intro a ha hf; clear ha
  refine st_extract hf (by decide) rfl rfl rfl ?_
  clear hf; intro a ha hf; clear ha
  refine st_extract hf (by decide) rfl rfl rfl ?_
  clear hf; intro a ha hf; clear ha
  refine st_assign hf rfl rfl (by decide) ?_
  clear hf; intro a ha hf; clear ha
  refine st_assign hf rfl rfl (by decide) ?_
  clear hf; intro a ha hf; clear ha
  refine st_nil hf ?_
  refine th_n ?_
  refine wp_seq ?_
  refine wp_reg ?_
  refine st_build (E := (Ek.int .u8)) (xs := [(1 : Int)]) hf (by decide) elt5 Try.underlying22 hp (vals := #[(0, .int .u8 (1 : Int))]) (cells := #[.int .u8 (1 : Int)]) rfl (by simp [hf.ev (x := (Operand.const (.int .u8 (1 : Int)))) rfl]) (by decide) (by decide) (z := .int .u8 0) (by kernel_rfl) (by kernel_rfl) rfl (reps_cons (cs := [.int .u8 (1 : Int)]) rfl (reps_nil _)) ?_
  clear hf; intro a w v76 hf hp0; clear hp; have hp := hp0; clear hp0
  replace hp : Hp _ _ w (Res.sl (Ek.int .u8) 5 v76 ([(1 : Int)]) :: Res.sl Ek.bool 4 v65 (mk0 (32770 : Int) false) :: Res.sl (Ek.int .u8) 5 v74 q67.1 :: Res.sl Ek.bool 4 v53 (mk0 (32769 : Int) false) :: Res.sl (Ek.int .u8) 5 v62 q55.1 :: Res.sl (Ek.int .u8) 5 v41 (mk0 (16385 : Int) (0 : Int)) :: Res.sl Ek.bool 4 v50 q43.1 :: Res.sl (Ek.int .u8) 5 v29 (mk0 (65536 : Int) (0 : Int)) :: Res.sl (Ek.int .u8) 5 v38 q31.1 :: Res.sl (Ek.int .u8) 5 v17 (mk0 (65537 : Int) (0 : Int)) :: Res.sl (Ek.int .u8) 5 v26 q19.1 :: Res.sl (Ek.int .u8) 5 v5 ([(4 : Int)]) :: Res.sl (Ek.int .u8) 5 v14 q7.1 :: Res.sl (Ek.int .u8) 5 v3 q1.1 :: ow) := hp
  obtain ⟨q78, hcall79, h⟩ := bnd h
  obtain ⟨S80, hp81, rd82, up83, bk84⟩ := Hp.lendS hp (i := 0) rfl
  refine st_call hf (by decide) Try.func32 rfl rfl rfl rfl rfl (f_turns_Marked_c hp81 _ _ rd82 _ _ (RdS.nil _ _ _) hcall79) ?_
  rintro _ w ⟨v85, v86, rfl, hp0⟩
  have hp0 := bk84 _ _ hp0
  clear hp; have hp := hp0; clear hp0
  replace hp : Hp _ _ w (Res.sl (Ek.int .u8) 5 v76 ([(1 : Int)]) :: Res.sl (Ek.int .u8) 5 v85 q78.1 :: Res.sl Ek.bool 4 v86 q78.2.1 :: Res.sl Ek.bool 4 v65 (mk0 (32770 : Int) false) :: Res.sl (Ek.int .u8) 5 v74 q67.1 :: Res.sl Ek.bool 4 v53 (mk0 (32769 : Int) false) :: Res.sl (Ek.int .u8) 5 v62 q55.1 :: Res.sl (Ek.int .u8) 5 v41 (mk0 (16385 : Int) (0 : Int)) :: Res.sl Ek.bool 4 v50 q43.1 :: Res.sl (Ek.int .u8) 5 v29 (mk0 (65536 : Int) (0 : Int)) :: Res.sl (Ek.int .u8) 5 v38 q31.1 :: Res.sl (Ek.int .u8) 5 v17 (mk0 (65537 : Int) (0 : Int)) :: Res.sl (Ek.int .u8) 5 v26 q19.1 :: Res.sl (Ek.int .u8) 5 v5 ([(4 : Int)]) :: Res.sl (Ek.int .u8) 5 v14 q7.1 :: Res.sl (Ek.int .u8) 5 v3 q1.1 :: ow) := hp
  refine ⟨_, rfl, ?_⟩
  clear hf; intro a hf
  refine st_move hf rfl rfl (by decide) ?_
  clear hf; intro a ha hf; clear ha
  refine st_extract hf (by decide) rfl rfl rfl ?_
  clear hf; intro a ha hf; clear ha
  refine st_extract hf (by decide) rfl rfl rfl ?_
  clear hf; intro a ha hf; clear ha
  refine st_extract hf (by decide) rfl rfl rfl ?_
  clear hf; intro a ha hf; clear ha
  refine st_assign hf rfl rfl (by decide) ?_
  clear hf; intro a ha hf; clear ha
  refine st_assign hf rfl rfl (by decide) ?_
  clear hf; intro a ha hf; clear ha
  refine st_assign hf rfl rfl (by decide) ?_
  clear hf; intro a ha hf; clear ha
  refine st_nil hf ?_
  refine th_n ?_
  refine wp_seq ?_
  refine wp_reg ?_
  obtain ⟨q89, hcall90, h⟩ := bnd h
  refine st_call hf (by decide) Try.func20 rfl rfl rfl rfl rfl (f_turns_Points_c hp _ _ (RdS.nil _ _ _) _ _ (show Fl.rep 0 (Fl.bits 0) from rfl) hcall90) ?_
  rintro _ w ⟨v91, rfl, hp0⟩
  clear hp; have hp := hp0; clear hp0
  replace hp : Hp _ _ w (Res.sl Ek.c128 49 v91 q89.1 :: Res.sl (Ek.int .u8) 5 v76 ([(1 : Int)]) :: Res.sl (Ek.int .u8) 5 v85 q78.1 :: Res.sl Ek.bool 4 v86 q78.2.1 :: Res.sl Ek.bool 4 v65 (mk0 (32770 : Int) false) :: Res.sl (Ek.int .u8) 5 v74 q67.1 :: Res.sl Ek.bool 4 v53 (mk0 (32769 : Int) false) :: Res.sl (Ek.int .u8) 5 v62 q55.1 :: Res.sl (Ek.int .u8) 5 v41 (mk0 (16385 : Int) (0 : Int)) :: Res.sl Ek.bool 4 v50 q43.1 :: Res.sl (Ek.int .u8) 5 v29 (mk0 (65536 : Int) (0 : Int)) :: Res.sl (Ek.int .u8) 5 v38 q31.1 :: Res.sl (Ek.int .u8) 5 v17 (mk0 (65537 : Int) (0 : Int)) :: Res.sl (Ek.int .u8) 5 v26 q19.1 :: Res.sl (Ek.int .u8) 5 v5 ([(4 : Int)]) :: Res.sl (Ek.int .u8) 5 v14 q7.1 :: Res.sl (Ek.int .u8) 5 v3 q1.1 :: ow) := hp
  refine ⟨_, rfl, ?_⟩
  clear hf; intro a hf
  refine st_move hf rfl rfl (by decide) ?_
  clear hf; intro a ha hf; clear ha
  refine st_extract hf (by decide) rfl rfl rfl ?_
  clear hf; intro a ha hf; clear ha
  refine st_extract hf (by decide) rfl rfl rfl ?_
  clear hf; intro a ha hf; clear ha
  refine st_assign hf rfl rfl (by decide) ?_
  clear hf; intro a ha hf; clear ha
  refine st_assign hf rfl rfl (by decide) ?_
  clear hf; intro a ha hf; clear ha
  refine st_nil hf ?_
  refine th_n ?_
  refine wp_seq ?_
  refine wp_reg ?_
  obtain ⟨q93, hcall94, h⟩ := bnd h
  refine st_call hf (by decide) Try.func20 rfl rfl rfl rfl rfl (f_turns_Points_c hp _ _ (RdS.nil _ _ _) _ _ (show Fl.rep 4553139223271571456 (Fl.bits 4553139223271571456) from rfl) hcall94) ?_
  rintro _ w ⟨v95, rfl, hp0⟩
  clear hp; have hp := hp0; clear hp0
  replace hp : Hp _ _ w (Res.sl Ek.c128 49 v95 q93.1 :: Res.sl Ek.c128 49 v91 q89.1 :: Res.sl (Ek.int .u8) 5 v76 ([(1 : Int)]) :: Res.sl (Ek.int .u8) 5 v85 q78.1 :: Res.sl Ek.bool 4 v86 q78.2.1 :: Res.sl Ek.bool 4 v65 (mk0 (32770 : Int) false) :: Res.sl (Ek.int .u8) 5 v74 q67.1 :: Res.sl Ek.bool 4 v53 (mk0 (32769 : Int) false) :: Res.sl (Ek.int .u8) 5 v62 q55.1 :: Res.sl (Ek.int .u8) 5 v41 (mk0 (16385 : Int) (0 : Int)) :: Res.sl Ek.bool 4 v50 q43.1 :: Res.sl (Ek.int .u8) 5 v29 (mk0 (65536 : Int) (0 : Int)) :: Res.sl (Ek.int .u8) 5 v38 q31.1 :: Res.sl (Ek.int .u8) 5 v17 (mk0 (65537 : Int) (0 : Int)) :: Res.sl (Ek.int .u8) 5 v26 q19.1 :: Res.sl (Ek.int .u8) 5 v5 ([(4 : Int)]) :: Res.sl (Ek.int .u8) 5 v14 q7.1 :: Res.sl (Ek.int .u8) 5 v3 q1.1 :: ow) := hp
  refine ⟨_, rfl, ?_⟩
  clear hf; intro a hf
  refine st_move hf rfl rfl (by decide) ?_
  clear hf; intro a ha hf; clear ha
  refine st_extract hf (by decide) rfl rfl rfl ?_
  clear hf; intro a ha hf; clear ha
  refine st_extract hf (by decide) rfl rfl rfl ?_
  clear hf; intro a ha hf; clear ha
  refine st_assign hf rfl rfl (by decide) ?_
  clear hf; intro a ha hf; clear ha
  refine st_assign hf rfl rfl (by decide) ?_
  clear hf; intro a ha hf; clear ha
  refine st_nil hf ?_
  refine th_n ?_
  refine wp_seq ?_
  refine wp_reg ?_
  obtain ⟨q97, hcall98, h⟩ := bnd h
  refine st_call hf (by decide) Try.func20 rfl rfl rfl rfl rfl (f_turns_Points_c hp _ _ (RdS.nil _ _ _) _ _ (show Fl.rep 4652220614096977920 (Fl.bits 4652220614096977920) from rfl) hcall98) ?_
  rintro _ w ⟨v99, rfl, hp0⟩
  clear hp; have hp := hp0; clear hp0
  replace hp : Hp _ _ w (Res.sl Ek.c128 49 v99 q97.1 :: Res.sl Ek.c128 49 v95 q93.1 :: Res.sl Ek.c128 49 v91 q89.1 :: Res.sl (Ek.int .u8) 5 v76 ([(1 : Int)]) :: Res.sl (Ek.int .u8) 5 v85 q78.1 :: Res.sl Ek.bool 4 v86 q78.2.1 :: Res.sl Ek.bool 4 v65 (mk0 (32770 : Int) false) :: Res.sl (Ek.int .u8) 5 v74 q67.1 :: Res.sl Ek.bool 4 v53 (mk0 (32769 : Int) false) :: Res.sl (Ek.int .u8) 5 v62 q55.1 :: Res.sl (Ek.int .u8) 5 v41 (mk0 (16385 : Int) (0 : Int)) :: Res.sl Ek.bool 4 v50 q43.1 :: Res.sl (Ek.int .u8) 5 v29 (mk0 (65536 : Int) (0 : Int)) :: Res.sl (Ek.int .u8) 5 v38 q31.1 :: Res.sl (Ek.int .u8) 5 v17 (mk0 (65537 : Int) (0 : Int)) :: Res.sl (Ek.int .u8) 5 v26 q19.1 :: Res.sl (Ek.int .u8) 5 v5 ([(4 : Int)]) :: Res.sl (Ek.int .u8) 5 v14 q7.1 :: Res.sl (Ek.int .u8) 5 v3 q1.1 :: ow) := hp
  refine ⟨_, rfl, ?_⟩
  clear hf; intro a hf
  refine st_move hf rfl rfl (by decide) ?_
  clear hf; intro a ha hf; clear ha
  refine st_extract hf (by decide) rfl rfl rfl ?_
  clear hf; intro a ha hf; clear ha
  refine st_extract hf (by decide) rfl rfl rfl ?_
  clear hf; intro a ha hf; clear ha
  refine st_assign hf rfl rfl (by decide) ?_
  clear hf; intro a ha hf; clear ha
  refine st_assign hf rfl rfl (by decide) ?_
  clear hf; intro a ha hf; clear ha
  refine st_nil hf ?_
  refine th_n ?_
  refine wp_seq ?_
  refine wp_reg ?_
  obtain ⟨q101, hcall102, h⟩ := bnd h
  refine st_call hf (by decide) Try.func30 rfl rfl rfl rfl rfl (f_turns_Found_c hp _ _ (RdS.nil _ _ _) _ _ (RdS.nil _ _ _) hcall102) ?_
  rintro _ w ⟨rfl, hp0⟩
  clear hp; have hp := hp0; clear hp0
  replace hp : Hp _ _ w (Res.sl Ek.c128 49 v99 q97.1 :: Res.sl Ek.c128 49 v95 q93.1 :: Res.sl Ek.c128 49 v91 q89.1 :: Res.sl (Ek.int .u8) 5 v76 ([(1 : Int)]) :: Res.sl (Ek.int .u8) 5 v85 q78.1 :: Res.sl Ek.bool 4 v86 q78.2.1 :: Res.sl Ek.bool 4 v65 (mk0 (32770 : Int) false) :: Res.sl (Ek.int .u8) 5 v74 q67.1 :: Res.sl Ek.bool 4 v53 (mk0 (32769 : Int) false) :: Res.sl (Ek.int .u8) 5 v62 q55.1 :: Res.sl (Ek.int .u8) 5 v41 (mk0 (16385 : Int) (0 : Int)) :: Res.sl Ek.bool 4 v50 q43.1 :: Res.sl (Ek.int .u8) 5 v29 (mk0 (65536 : Int) (0 : Int)) :: Res.sl (Ek.int .u8) 5 v38 q31.1 :: Res.sl (Ek.int .u8) 5 v17 (mk0 (65537 : Int) (0 : Int)) :: Res.sl (Ek.int .u8) 5 v26 q19.1 :: Res.sl (Ek.int .u8) 5 v5 ([(4 : Int)]) :: Res.sl (Ek.int .u8) 5 v14 q7.1 :: Res.sl (Ek.int .u8) 5 v3 q1.1 :: ow) := hp
  refine ⟨_, rfl, ?_⟩
  clear hf; intro a hf
  refine st_move hf rfl rfl (by decide) ?_
  clear hf; intro a ha hf; clear ha
  refine st_extract hf (by decide) rfl rfl rfl ?_
  clear hf; intro a ha hf; clear ha
  refine st_extract hf (by decide) rfl rfl rfl ?_
  clear hf; intro a ha hf; clear ha
  refine st_assign hf rfl rfl (by decide) ?_
  clear hf; intro a ha hf; clear ha
  refine st_assign hf rfl rfl (by decide) ?_
  clear hf; intro a ha hf; clear ha
  refine st_nil hf ?_
  refine th_n ?_
  refine wp_seq ?_
  refine wp_reg ?_
  obtain ⟨hc103, h⟩ := chk h
  refine st_make (E := Ek.c128) hf (by decide) elt49 Try.underlying44 (by decide) hp rfl rfl rfl hc103.1 hc103.2.1 hc103.2.2 ?_
  clear hf; intro a w v104 hf hp0; clear hp; have hp := hp0; clear hp0
  replace hp : Hp _ _ w (Res.sl Ek.c128 49 v104 (List.replicate ((1 : Int)).toNat (Fl.bits 0, Fl.bits 0)) :: Res.sl Ek.c128 49 v99 q97.1 :: Res.sl Ek.c128 49 v95 q93.1 :: Res.sl Ek.c128 49 v91 q89.1 :: Res.sl (Ek.int .u8) 5 v76 ([(1 : Int)]) :: Res.sl (Ek.int .u8) 5 v85 q78.1 :: Res.sl Ek.bool 4 v86 q78.2.1 :: Res.sl Ek.bool 4 v65 (mk0 (32770 : Int) false) :: Res.sl (Ek.int .u8) 5 v74 q67.1 :: Res.sl Ek.bool 4 v53 (mk0 (32769 : Int) false) :: Res.sl (Ek.int .u8) 5 v62 q55.1 :: Res.sl (Ek.int .u8) 5 v41 (mk0 (16385 : Int) (0 : Int)) :: Res.sl Ek.bool 4 v50 q43.1 :: Res.sl (Ek.int .u8) 5 v29 (mk0 (65536 : Int) (0 : Int)) :: Res.sl (Ek.int .u8) 5 v38 q31.1 :: Res.sl (Ek.int .u8) 5 v17 (mk0 (65537 : Int) (0 : Int)) :: Res.sl (Ek.int .u8) 5 v26 q19.1 :: Res.sl (Ek.int .u8) 5 v5 ([(4 : Int)]) :: Res.sl (Ek.int .u8) 5 v14 q7.1 :: Res.sl (Ek.int .u8) 5 v3 q1.1 :: ow) := hp
  obtain ⟨q106, hcall107, h⟩ := bnd h
  obtain ⟨S108, hp109, rd110, up111, bk112⟩ := Hp.lendS hp (i := 0) rfl
  refine st_call hf (by decide) Try.func30 rfl rfl rfl rfl rfl (f_turns_Found_c hp109 _ _ (RdS.nil _ _ _) _ _ rd110 hcall107) ?_
  rintro _ w ⟨rfl, hp0⟩
  have hp0 := bk112 _ _ hp0
  clear hp; have hp := hp0; clear hp0
  replace hp : Hp _ _ w (Res.sl Ek.c128 49 v104 (List.replicate ((1 : Int)).toNat (Fl.bits 0, Fl.bits 0)) :: Res.sl Ek.c128 49 v99 q97.1 :: Res.sl Ek.c128 49 v95 q93.1 :: Res.sl Ek.c128 49 v91 q89.1 :: Res.sl (Ek.int .u8) 5 v76 ([(1 : Int)]) :: Res.sl (Ek.int .u8) 5 v85 q78.1 :: Res.sl Ek.bool 4 v86 q78.2.1 :: Res.sl Ek.bool 4 v65 (mk0 (32770 : Int) false) :: Res.sl (Ek.int .u8) 5 v74 q67.1 :: Res.sl Ek.bool 4 v53 (mk0 (32769 : Int) false) :: Res.sl (Ek.int .u8) 5 v62 q55.1 :: Res.sl (Ek.int .u8) 5 v41 (mk0 (16385 : Int) (0 : Int)) :: Res.sl Ek.bool 4 v50 q43.1 :: Res.sl (Ek.int .u8) 5 v29 (mk0 (65536 : Int) (0 : Int)) :: Res.sl (Ek.int .u8) 5 v38 q31.1 :: Res.sl (Ek.int .u8) 5 v17 (mk0 (65537 : Int) (0 : Int)) :: Res.sl (Ek.int .u8) 5 v26 q19.1 :: Res.sl (Ek.int .u8) 5 v5 ([(4 : Int)]) :: Res.sl (Ek.int .u8) 5 v14 q7.1 :: Res.sl (Ek.int .u8) 5 v3 q1.1 :: ow) := hp
  refine ⟨_, rfl, ?_⟩
  clear hf; intro a hf
  refine st_move hf rfl rfl (by decide) ?_
  clear hf; intro a ha hf; clear ha
  refine st_extract hf (by decide) rfl rfl rfl ?_
  clear hf; intro a ha hf; clear ha
  refine st_extract hf (by decide) rfl rfl rfl ?_
  clear hf; intro a ha hf; clear ha
  refine st_assign hf rfl rfl (by decide) ?_
  clear hf; intro a ha hf; clear ha
  refine st_assign hf rfl rfl (by decide) ?_
  clear hf; intro a ha hf; clear ha
  refine st_nil hf ?_
  refine th_n ?_
  refine wp_seq ?_
  refine wp_reg ?_
  obtain ⟨q113, hcall114, h⟩ := bnd h
  refine st_call hf (by decide) Try.func26 rfl rfl rfl rfl rfl (f_turns_Near_c hp _ _ _ (show Fl.rep 0 ((Fl.bits 0, Fl.bits 0)).1 from rfl) (show Fl.rep 0 ((Fl.bits 0, Fl.bits 0)).2 from rfl) hcall114) ?_
  rintro _ w ⟨rfl, hp0⟩
  clear hp; have hp := hp0; clear hp0
  replace hp : Hp _ _ w (Res.sl Ek.c128 49 v104 (List.replicate ((1 : Int)).toNat (Fl.bits 0, Fl.bits 0)) :: Res.sl Ek.c128 49 v99 q97.1 :: Res.sl Ek.c128 49 v95 q93.1 :: Res.sl Ek.c128 49 v91 q89.1 :: Res.sl (Ek.int .u8) 5 v76 ([(1 : Int)]) :: Res.sl (Ek.int .u8) 5 v85 q78.1 :: Res.sl Ek.bool 4 v86 q78.2.1 :: Res.sl Ek.bool 4 v65 (mk0 (32770 : Int) false) :: Res.sl (Ek.int .u8) 5 v74 q67.1 :: Res.sl Ek.bool 4 v53 (mk0 (32769 : Int) false) :: Res.sl (Ek.int .u8) 5 v62 q55.1 :: Res.sl (Ek.int .u8) 5 v41 (mk0 (16385 : Int) (0 : Int)) :: Res.sl Ek.bool 4 v50 q43.1 :: Res.sl (Ek.int .u8) 5 v29 (mk0 (65536 : Int) (0 : Int)) :: Res.sl (Ek.int .u8) 5 v38 q31.1 :: Res.sl (Ek.int .u8) 5 v17 (mk0 (65537 : Int) (0 : Int)) :: Res.sl (Ek.int .u8) 5 v26 q19.1 :: Res.sl (Ek.int .u8) 5 v5 ([(4 : Int)]) :: Res.sl (Ek.int .u8) 5 v14 q7.1 :: Res.sl (Ek.int .u8) 5 v3 q1.1 :: ow) := hp
  refine ⟨_, rfl, ?_⟩
  clear hf; intro a hf
  refine st_move hf rfl rfl (by decide) ?_
  clear hf; intro a ha hf; clear ha
  refine st_extract hf (by decide) rfl rfl rfl ?_
  clear hf; intro a ha hf; clear ha
  refine st_extract hf (by decide) rfl rfl rfl ?_
  clear hf; intro a ha hf; clear ha
  refine st_assign hf rfl rfl (by decide) ?_
  clear hf; intro a ha hf; clear ha
  refine st_assign hf rfl rfl (by decide) ?_
  clear hf; intro a ha hf; clear ha
  refine st_nil hf ?_
  refine th_n ?_
  refine wp_seq ?_
  refine wp_reg ?_
  refine st_move hf rfl rfl (by decide) ?_
  clear hf; intro a ha hf; clear ha
  refine st_len (E := (Ek.int .u8)) hf (by decide) Try.underlying22 rfl rfl (hp.sl (i := 19) rfl) ?_
  clear hf; intro a ha hf; clear ha
  refine st_ieql hf (by decide) rfl rfl rfl ?_
  clear hf; intro a ha hf; clear ha
  refine st_move hf rfl rfl (by decide) ?_
  clear hf; intro a ha hf; clear ha
  refine wpList_cut 3 (fun a w => Fr 170 a [(4, .int .i64 q7.2), (6, .int .i64 q19.2), (7, v38), (8, .int .i64 q31.2), (10, .int .i64 q43.2), (12, .int .i64 q55.2), (14, .int .i64 q67.2), (17, .int .i64 q78.2.2), (19, .int .i64 q89.2), (21, .int .i64 q93.2), (23, .int .i64 q97.2), (24, .int .i64 q101.1), (25, .int .i64 q101.2), (27, .int .i64 q106.2), (28, .int .u8 q113.1), (29, .bool q113.2), (101, .bool (((q1.1.length : Int) == (0 : Int)) && (q1.2 == (0 : Int))))] ∧ Hp S w0 w (Res.sl Ek.c128 49 v104 (List.replicate ((1 : Int)).toNat (Fl.bits 0, Fl.bits 0)) :: Res.sl Ek.c128 49 v99 q97.1 :: Res.sl Ek.c128 49 v95 q93.1 :: Res.sl Ek.c128 49 v91 q89.1 :: Res.sl (Ek.int .u8) 5 v76 ([(1 : Int)]) :: Res.sl (Ek.int .u8) 5 v85 q78.1 :: Res.sl Ek.bool 4 v86 q78.2.1 :: Res.sl Ek.bool 4 v65 (mk0 (32770 : Int) false) :: Res.sl (Ek.int .u8) 5 v74 q67.1 :: Res.sl Ek.bool 4 v53 (mk0 (32769 : Int) false) :: Res.sl (Ek.int .u8) 5 v62 q55.1 :: Res.sl (Ek.int .u8) 5 v41 (mk0 (16385 : Int) (0 : Int)) :: Res.sl Ek.bool 4 v50 q43.1 :: Res.sl (Ek.int .u8) 5 v29 (mk0 (65536 : Int) (0 : Int)) :: Res.sl (Ek.int .u8) 5 v38 q31.1 :: Res.sl (Ek.int .u8) 5 v17 (mk0 (65537 : Int) (0 : Int)) :: Res.sl (Ek.int .u8) 5 v26 q19.1 :: Res.sl (Ek.int .u8) 5 v5 ([(4 : Int)]) :: Res.sl (Ek.int .u8) 5 v14 q7.1 :: Res.sl (Ek.int .u8) 5 v3 q1.1 :: ow)) ?_ ?_
  · rcases Bool.eq_false_or_eq_true ((q1.1.length : Int) == (0 : Int)) with hb116 | hb116
    · skip
      refine st_move hf (wantY hf rfl rfl hb116) rfl (by decide) ?_
      clear hf; intro a ha hf; clear ha
      refine st_ieql hf (by decide) (wantY hf rfl rfl hb116) rfl rfl ?_
      clear hf; intro a ha hf; clear ha
      refine st_pick (v := .bool (q1.2 == (0 : Int))) hf rfl rfl (fun hb' => ?_) (fun hb' => ?_) (by decide) ?_
      · rfl
      · exact absurd (hb116.symm.trans hb') (by decide)
      clear hf; intro a ha hf; clear ha
      refine st_nil hf (th_n ?_)
      exact ⟨hf.sub ⟨rfl, rfl, rfl, rfl, rfl, rfl, rfl, rfl, rfl, rfl, rfl, rfl, rfl, rfl, rfl, rfl, (by rw [hb116]; rfl), trivial⟩, hp⟩
    · skip
      refine st_skip hf (wantN hf rfl rfl hb116) rfl (by decide) ?_ rfl
      clear hf; intro a hf
      refine st_skip hf (wantN hf rfl rfl hb116) rfl (by decide) ?_ rfl
      clear hf; intro a hf
      refine st_pick (v := .bool false) hf rfl rfl (fun hb' => ?_) (fun hb' => ?_) (by decide) ?_
      · exact absurd (hb116.symm.trans hb') (by decide)
      · rfl
      clear hf; intro a ha hf; clear ha
      refine st_nil hf (th_n ?_)
      exact ⟨hf.sub ⟨rfl, rfl, rfl, rfl, rfl, rfl, rfl, rfl, rfl, rfl, rfl, rfl, rfl, rfl, rfl, rfl, (by rw [hb116]; rfl), trivial⟩, hp⟩
  · rintro a w ⟨hf, hp⟩
    refine st_move hf rfl rfl (by decide) ?_
    clear hf; intro a ha hf; clear ha
    refine wpList_cut 3 (fun a w => Fr 170 a [(6, .int .i64 q19.2), (7, v38), (8, .int .i64 q31.2), (10, .int .i64 q43.2), (12, .int .i64 q55.2), (14, .int .i64 q67.2), (17, .int .i64 q78.2.2), (19, .int .i64 q89.2), (21, .int .i64 q93.2), (23, .int .i64 q97.2), (24, .int .i64 q101.1), (25, .int .i64 q101.2), (27, .int .i64 q106.2), (28, .int .u8 q113.1), (29, .bool q113.2), (105, .bool ((((q1.1.length : Int) == (0 : Int)) && (q1.2 == (0 : Int))) && (q7.2 == (1 : Int))))] ∧ Hp S w0 w (Res.sl Ek.c128 49 v104 (List.replicate ((1 : Int)).toNat (Fl.bits 0, Fl.bits 0)) :: Res.sl Ek.c128 49 v99 q97.1 :: Res.sl Ek.c128 49 v95 q93.1 :: Res.sl Ek.c128 49 v91 q89.1 :: Res.sl (Ek.int .u8) 5 v76 ([(1 : Int)]) :: Res.sl (Ek.int .u8) 5 v85 q78.1 :: Res.sl Ek.bool 4 v86 q78.2.1 :: Res.sl Ek.bool 4 v65 (mk0 (32770 : Int) false) :: Res.sl (Ek.int .u8) 5 v74 q67.1 :: Res.sl Ek.bool 4 v53 (mk0 (32769 : Int) false) :: Res.sl (Ek.int .u8) 5 v62 q55.1 :: Res.sl (Ek.int .u8) 5 v41 (mk0 (16385 : Int) (0 : Int)) :: Res.sl Ek.bool 4 v50 q43.1 :: Res.sl (Ek.int .u8) 5 v29 (mk0 (65536 : Int) (0 : Int)) :: Res.sl (Ek.int .u8) 5 v38 q31.1 :: Res.sl (Ek.int .u8) 5 v17 (mk0 (65537 : Int) (0 : Int)) :: Res.sl (Ek.int .u8) 5 v26 q19.1 :: Res.sl (Ek.int .u8) 5 v5 ([(4 : Int)]) :: Res.sl (Ek.int .u8) 5 v14 q7.1 :: Res.sl (Ek.int .u8) 5 v3 q1.1 :: ow)) ?_ ?_
    · rcases Bool.eq_false_or_eq_true (((q1.1.length : Int) == (0 : Int)) && (q1.2 == (0 : Int))) with hb118 | hb118
      · skip
        refine st_move hf (wantY hf rfl rfl hb118) rfl (by decide) ?_
        clear hf; intro a ha hf; clear ha
        refine st_ieql hf (by decide) (wantY hf rfl rfl hb118) rfl rfl ?_
        clear hf; intro a ha hf; clear ha
        refine st_pick (v := .bool (q7.2 == (1 : Int))) hf rfl rfl (fun hb' => ?_) (fun hb' => ?_) (by decide) ?_
        · rfl
        · exact absurd (hb118.symm.trans hb') (by decide)
        clear hf; intro a ha hf; clear ha
        refine st_nil hf (th_n ?_)
        exact ⟨hf.sub ⟨rfl, rfl, rfl, rfl, rfl, rfl, rfl, rfl, rfl, rfl, rfl, rfl, rfl, rfl, rfl, (by rw [hb118]; rfl), trivial⟩, hp⟩
      · skip
        refine st_skip hf (wantN hf rfl rfl hb118) rfl (by decide) ?_ rfl
        clear hf; intro a hf
        refine st_skip hf (wantN hf rfl rfl hb118) rfl (by decide) ?_ rfl
        clear hf; intro a hf
        refine st_pick (v := .bool false) hf rfl rfl (fun hb' => ?_) (fun hb' => ?_) (by decide) ?_
        · exact absurd (hb118.symm.trans hb') (by decide)
        · rfl
        clear hf; intro a ha hf; clear ha
        refine st_nil hf (th_n ?_)
        exact ⟨hf.sub ⟨rfl, rfl, rfl, rfl, rfl, rfl, rfl, rfl, rfl, rfl, rfl, rfl, rfl, rfl, rfl, (by rw [hb118]; rfl), trivial⟩, hp⟩
    · rintro a w ⟨hf, hp⟩
      refine st_move hf rfl rfl (by decide) ?_
      clear hf; intro a ha hf; clear ha
      refine wpList_cut 3 (fun a w => Fr 170 a [(7, v38), (8, .int .i64 q31.2), (10, .int .i64 q43.2), (12, .int .i64 q55.2), (14, .int .i64 q67.2), (17, .int .i64 q78.2.2), (19, .int .i64 q89.2), (21, .int .i64 q93.2), (23, .int .i64 q97.2), (24, .int .i64 q101.1), (25, .int .i64 q101.2), (27, .int .i64 q106.2), (28, .int .u8 q113.1), (29, .bool q113.2), (109, .bool (((((q1.1.length : Int) == (0 : Int)) && (q1.2 == (0 : Int))) && (q7.2 == (1 : Int))) && (q19.2 == (1 : Int))))] ∧ Hp S w0 w (Res.sl Ek.c128 49 v104 (List.replicate ((1 : Int)).toNat (Fl.bits 0, Fl.bits 0)) :: Res.sl Ek.c128 49 v99 q97.1 :: Res.sl Ek.c128 49 v95 q93.1 :: Res.sl Ek.c128 49 v91 q89.1 :: Res.sl (Ek.int .u8) 5 v76 ([(1 : Int)]) :: Res.sl (Ek.int .u8) 5 v85 q78.1 :: Res.sl Ek.bool 4 v86 q78.2.1 :: Res.sl Ek.bool 4 v65 (mk0 (32770 : Int) false) :: Res.sl (Ek.int .u8) 5 v74 q67.1 :: Res.sl Ek.bool 4 v53 (mk0 (32769 : Int) false) :: Res.sl (Ek.int .u8) 5 v62 q55.1 :: Res.sl (Ek.int .u8) 5 v41 (mk0 (16385 : Int) (0 : Int)) :: Res.sl Ek.bool 4 v50 q43.1 :: Res.sl (Ek.int .u8) 5 v29 (mk0 (65536 : Int) (0 : Int)) :: Res.sl (Ek.int .u8) 5 v38 q31.1 :: Res.sl (Ek.int .u8) 5 v17 (mk0 (65537 : Int) (0 : Int)) :: Res.sl (Ek.int .u8) 5 v26 q19.1 :: Res.sl (Ek.int .u8) 5 v5 ([(4 : Int)]) :: Res.sl (Ek.int .u8) 5 v14 q7.1 :: Res.sl (Ek.int .u8) 5 v3 q1.1 :: ow)) ?_ ?_
      · rcases Bool.eq_false_or_eq_true ((((q1.1.length : Int) == (0 : Int)) && (q1.2 == (0 : Int))) && (q7.2 == (1 : Int))) with hb120 | hb120
        · skip
          refine st_move hf (wantY hf rfl rfl hb120) rfl (by decide) ?_
          clear hf; intro a ha hf; clear ha
          refine st_ieql hf (by decide) (wantY hf rfl rfl hb120) rfl rfl ?_
          clear hf; intro a ha hf; clear ha
          refine st_pick (v := .bool (q19.2 == (1 : Int))) hf rfl rfl (fun hb' => ?_) (fun hb' => ?_) (by decide) ?_
          · rfl
          · exact absurd (hb120.symm.trans hb') (by decide)
          clear hf; intro a ha hf; clear ha
          refine st_nil hf (th_n ?_)
          exact ⟨hf.sub ⟨rfl, rfl, rfl, rfl, rfl, rfl, rfl, rfl, rfl, rfl, rfl, rfl, rfl, rfl, (by rw [hb120]; rfl), trivial⟩, hp⟩
        · skip
          refine st_skip hf (wantN hf rfl rfl hb120) rfl (by decide) ?_ rfl
          clear hf; intro a hf
          refine st_skip hf (wantN hf rfl rfl hb120) rfl (by decide) ?_ rfl
          clear hf; intro a hf
          refine st_pick (v := .bool false) hf rfl rfl (fun hb' => ?_) (fun hb' => ?_) (by decide) ?_
          · exact absurd (hb120.symm.trans hb') (by decide)
          · rfl
          clear hf; intro a ha hf; clear ha
          refine st_nil hf (th_n ?_)
          exact ⟨hf.sub ⟨rfl, rfl, rfl, rfl, rfl, rfl, rfl, rfl, rfl, rfl, rfl, rfl, rfl, rfl, (by rw [hb120]; rfl), trivial⟩, hp⟩
      · rintro a w ⟨hf, hp⟩
        refine st_move hf rfl rfl (by decide) ?_
        clear hf; intro a ha hf; clear ha
        refine wpList_cut 4 (fun a w => Fr 170 a [(8, .int .i64 q31.2), (10, .int .i64 q43.2), (12, .int .i64 q55.2), (14, .int .i64 q67.2), (17, .int .i64 q78.2.2), (19, .int .i64 q89.2), (21, .int .i64 q93.2), (23, .int .i64 q97.2), (24, .int .i64 q101.1), (25, .int .i64 q101.2), (27, .int .i64 q106.2), (28, .int .u8 q113.1), (29, .bool q113.2), (114, .bool ((((((q1.1.length : Int) == (0 : Int)) && (q1.2 == (0 : Int))) && (q7.2 == (1 : Int))) && (q19.2 == (1 : Int))) && ((q31.1.length : Int) == (65536 : Int))))] ∧ Hp S w0 w (Res.sl Ek.c128 49 v104 (List.replicate ((1 : Int)).toNat (Fl.bits 0, Fl.bits 0)) :: Res.sl Ek.c128 49 v99 q97.1 :: Res.sl Ek.c128 49 v95 q93.1 :: Res.sl Ek.c128 49 v91 q89.1 :: Res.sl (Ek.int .u8) 5 v76 ([(1 : Int)]) :: Res.sl (Ek.int .u8) 5 v85 q78.1 :: Res.sl Ek.bool 4 v86 q78.2.1 :: Res.sl Ek.bool 4 v65 (mk0 (32770 : Int) false) :: Res.sl (Ek.int .u8) 5 v74 q67.1 :: Res.sl Ek.bool 4 v53 (mk0 (32769 : Int) false) :: Res.sl (Ek.int .u8) 5 v62 q55.1 :: Res.sl (Ek.int .u8) 5 v41 (mk0 (16385 : Int) (0 : Int)) :: Res.sl Ek.bool 4 v50 q43.1 :: Res.sl (Ek.int .u8) 5 v29 (mk0 (65536 : Int) (0 : Int)) :: Res.sl (Ek.int .u8) 5 v38 q31.1 :: Res.sl (Ek.int .u8) 5 v17 (mk0 (65537 : Int) (0 : Int)) :: Res.sl (Ek.int .u8) 5 v26 q19.1 :: Res.sl (Ek.int .u8) 5 v5 ([(4 : Int)]) :: Res.sl (Ek.int .u8) 5 v14 q7.1 :: Res.sl (Ek.int .u8) 5 v3 q1.1 :: ow)) ?_ ?_
        · rcases Bool.eq_false_or_eq_true (((((q1.1.length : Int) == (0 : Int)) && (q1.2 == (0 : Int))) && (q7.2 == (1 : Int))) && (q19.2 == (1 : Int))) with hb122 | hb122
          · skip
            refine st_move hf (wantY hf rfl rfl hb122) rfl (by decide) ?_
            clear hf; intro a ha hf; clear ha
            refine st_len (E := (Ek.int .u8)) hf (by decide) Try.underlying22 (wantY hf rfl rfl hb122) rfl (hp.sl (i := 14) rfl) ?_
            clear hf; intro a ha hf; clear ha
            refine st_ieql hf (by decide) (wantY hf rfl rfl hb122) rfl rfl ?_
            clear hf; intro a ha hf; clear ha
            refine st_pick (v := .bool ((q31.1.length : Int) == (65536 : Int))) hf rfl rfl (fun hb' => ?_) (fun hb' => ?_) (by decide) ?_
            · rfl
            · exact absurd (hb122.symm.trans hb') (by decide)
            clear hf; intro a ha hf; clear ha
            refine st_nil hf (th_n ?_)
            exact ⟨hf.sub ⟨rfl, rfl, rfl, rfl, rfl, rfl, rfl, rfl, rfl, rfl, rfl, rfl, rfl, (by rw [hb122]; rfl), trivial⟩, hp⟩
          · skip
            refine st_skip hf (wantN hf rfl rfl hb122) rfl (by decide) ?_ rfl
            clear hf; intro a hf
            refine st_skip hf (wantN hf rfl rfl hb122) rfl (by decide) ?_ rfl
            clear hf; intro a hf
            refine st_skip hf (wantN hf rfl rfl hb122) rfl (by decide) ?_ rfl
            clear hf; intro a hf
            refine st_pick (v := .bool false) hf rfl rfl (fun hb' => ?_) (fun hb' => ?_) (by decide) ?_
            · exact absurd (hb122.symm.trans hb') (by decide)
            · rfl
            clear hf; intro a ha hf; clear ha
            refine st_nil hf (th_n ?_)
            exact ⟨hf.sub ⟨rfl, rfl, rfl, rfl, rfl, rfl, rfl, rfl, rfl, rfl, rfl, rfl, rfl, (by rw [hb122]; rfl), trivial⟩, hp⟩
        · rintro a w ⟨hf, hp⟩
          refine st_move hf rfl rfl (by decide) ?_
          clear hf; intro a ha hf; clear ha
          refine wpList_cut 3 (fun a w => Fr 170 a [(10, .int .i64 q43.2), (12, .int .i64 q55.2), (14, .int .i64 q67.2), (17, .int .i64 q78.2.2), (19, .int .i64 q89.2), (21, .int .i64 q93.2), (23, .int .i64 q97.2), (24, .int .i64 q101.1), (25, .int .i64 q101.2), (27, .int .i64 q106.2), (28, .int .u8 q113.1), (29, .bool q113.2), (118, .bool (((((((q1.1.length : Int) == (0 : Int)) && (q1.2 == (0 : Int))) && (q7.2 == (1 : Int))) && (q19.2 == (1 : Int))) && ((q31.1.length : Int) == (65536 : Int))) && (q31.2 == (0 : Int))))] ∧ Hp S w0 w (Res.sl Ek.c128 49 v104 (List.replicate ((1 : Int)).toNat (Fl.bits 0, Fl.bits 0)) :: Res.sl Ek.c128 49 v99 q97.1 :: Res.sl Ek.c128 49 v95 q93.1 :: Res.sl Ek.c128 49 v91 q89.1 :: Res.sl (Ek.int .u8) 5 v76 ([(1 : Int)]) :: Res.sl (Ek.int .u8) 5 v85 q78.1 :: Res.sl Ek.bool 4 v86 q78.2.1 :: Res.sl Ek.bool 4 v65 (mk0 (32770 : Int) false) :: Res.sl (Ek.int .u8) 5 v74 q67.1 :: Res.sl Ek.bool 4 v53 (mk0 (32769 : Int) false) :: Res.sl (Ek.int .u8) 5 v62 q55.1 :: Res.sl (Ek.int .u8) 5 v41 (mk0 (16385 : Int) (0 : Int)) :: Res.sl Ek.bool 4 v50 q43.1 :: Res.sl (Ek.int .u8) 5 v29 (mk0 (65536 : Int) (0 : Int)) :: Res.sl (Ek.int .u8) 5 v38 q31.1 :: Res.sl (Ek.int .u8) 5 v17 (mk0 (65537 : Int) (0 : Int)) :: Res.sl (Ek.int .u8) 5 v26 q19.1 :: Res.sl (Ek.int .u8) 5 v5 ([(4 : Int)]) :: Res.sl (Ek.int .u8) 5 v14 q7.1 :: Res.sl (Ek.int .u8) 5 v3 q1.1 :: ow)) ?_ ?_
          · rcases Bool.eq_false_or_eq_true ((((((q1.1.length : Int) == (0 : Int)) && (q1.2 == (0 : Int))) && (q7.2 == (1 : Int))) && (q19.2 == (1 : Int))) && ((q31.1.length : Int) == (65536 : Int))) with hb124 | hb124
            · skip
              refine st_move hf (wantY hf rfl rfl hb124) rfl (by decide) ?_
              clear hf; intro a ha hf; clear ha
              refine st_ieql hf (by decide) (wantY hf rfl rfl hb124) rfl rfl ?_
              clear hf; intro a ha hf; clear ha
              refine st_pick (v := .bool (q31.2 == (0 : Int))) hf rfl rfl (fun hb' => ?_) (fun hb' => ?_) (by decide) ?_
              · rfl
              · exact absurd (hb124.symm.trans hb') (by decide)
              clear hf; intro a ha hf; clear ha
              refine st_nil hf (th_n ?_)
              exact ⟨hf.sub ⟨rfl, rfl, rfl, rfl, rfl, rfl, rfl, rfl, rfl, rfl, rfl, rfl, (by rw [hb124]; rfl), trivial⟩, hp⟩
            · skip
              refine st_skip hf (wantN hf rfl rfl hb124) rfl (by decide) ?_ rfl
              clear hf; intro a hf
              refine st_skip hf (wantN hf rfl rfl hb124) rfl (by decide) ?_ rfl
              clear hf; intro a hf
              refine st_pick (v := .bool false) hf rfl rfl (fun hb' => ?_) (fun hb' => ?_) (by decide) ?_
              · exact absurd (hb124.symm.trans hb') (by decide)
              · rfl
              clear hf; intro a ha hf; clear ha
              refine st_nil hf (th_n ?_)
              exact ⟨hf.sub ⟨rfl, rfl, rfl, rfl, rfl, rfl, rfl, rfl, rfl, rfl, rfl, rfl, (by rw [hb124]; rfl), trivial⟩, hp⟩
          · rintro a w ⟨hf, hp⟩
            refine st_move hf rfl rfl (by decide) ?_
            clear hf; intro a ha hf; clear ha
            refine wpList_cut 3 (fun a w => Fr 170 a [(12, .int .i64 q55.2), (14, .int .i64 q67.2), (17, .int .i64 q78.2.2), (19, .int .i64 q89.2), (21, .int .i64 q93.2), (23, .int .i64 q97.2), (24, .int .i64 q101.1), (25, .int .i64 q101.2), (27, .int .i64 q106.2), (28, .int .u8 q113.1), (29, .bool q113.2), (122, .bool ((((((((q1.1.length : Int) == (0 : Int)) && (q1.2 == (0 : Int))) && (q7.2 == (1 : Int))) && (q19.2 == (1 : Int))) && ((q31.1.length : Int) == (65536 : Int))) && (q31.2 == (0 : Int))) && (q43.2 == (1 : Int))))] ∧ Hp S w0 w (Res.sl Ek.c128 49 v104 (List.replicate ((1 : Int)).toNat (Fl.bits 0, Fl.bits 0)) :: Res.sl Ek.c128 49 v99 q97.1 :: Res.sl Ek.c128 49 v95 q93.1 :: Res.sl Ek.c128 49 v91 q89.1 :: Res.sl (Ek.int .u8) 5 v76 ([(1 : Int)]) :: Res.sl (Ek.int .u8) 5 v85 q78.1 :: Res.sl Ek.bool 4 v86 q78.2.1 :: Res.sl Ek.bool 4 v65 (mk0 (32770 : Int) false) :: Res.sl (Ek.int .u8) 5 v74 q67.1 :: Res.sl Ek.bool 4 v53 (mk0 (32769 : Int) false) :: Res.sl (Ek.int .u8) 5 v62 q55.1 :: Res.sl (Ek.int .u8) 5 v41 (mk0 (16385 : Int) (0 : Int)) :: Res.sl Ek.bool 4 v50 q43.1 :: Res.sl (Ek.int .u8) 5 v29 (mk0 (65536 : Int) (0 : Int)) :: Res.sl (Ek.int .u8) 5 v38 q31.1 :: Res.sl (Ek.int .u8) 5 v17 (mk0 (65537 : Int) (0 : Int)) :: Res.sl (Ek.int .u8) 5 v26 q19.1 :: Res.sl (Ek.int .u8) 5 v5 ([(4 : Int)]) :: Res.sl (Ek.int .u8) 5 v14 q7.1 :: Res.sl (Ek.int .u8) 5 v3 q1.1 :: ow)) ?_ ?_
            · rcases Bool.eq_false_or_eq_true (((((((q1.1.length : Int) == (0 : Int)) && (q1.2 == (0 : Int))) && (q7.2 == (1 : Int))) && (q19.2 == (1 : Int))) && ((q31.1.length : Int) == (65536 : Int))) && (q31.2 == (0 : Int))) with hb126 | hb126
              · skip
                refine st_move hf (wantY hf rfl rfl hb126) rfl (by decide) ?_
                clear hf; intro a ha hf; clear ha
                refine st_ieql hf (by decide) (wantY hf rfl rfl hb126) rfl rfl ?_
                clear hf; intro a ha hf; clear ha
                refine st_pick (v := .bool (q43.2 == (1 : Int))) hf rfl rfl (fun hb' => ?_) (fun hb' => ?_) (by decide) ?_
                · rfl
                · exact absurd (hb126.symm.trans hb') (by decide)
                clear hf; intro a ha hf; clear ha
                refine st_nil hf (th_n ?_)
                exact ⟨hf.sub ⟨rfl, rfl, rfl, rfl, rfl, rfl, rfl, rfl, rfl, rfl, rfl, (by rw [hb126]; rfl), trivial⟩, hp⟩
              · skip
                refine st_skip hf (wantN hf rfl rfl hb126) rfl (by decide) ?_ rfl
                clear hf; intro a hf
                refine st_skip hf (wantN hf rfl rfl hb126) rfl (by decide) ?_ rfl
                clear hf; intro a hf
                refine st_pick (v := .bool false) hf rfl rfl (fun hb' => ?_) (fun hb' => ?_) (by decide) ?_
                · exact absurd (hb126.symm.trans hb') (by decide)
                · rfl
                clear hf; intro a ha hf; clear ha
                refine st_nil hf (th_n ?_)
                exact ⟨hf.sub ⟨rfl, rfl, rfl, rfl, rfl, rfl, rfl, rfl, rfl, rfl, rfl, (by rw [hb126]; rfl), trivial⟩, hp⟩
            · rintro a w ⟨hf, hp⟩
              refine st_move hf rfl rfl (by decide) ?_
              clear hf; intro a ha hf; clear ha
              refine wpList_cut 3 (fun a w => Fr 170 a [(14, .int .i64 q67.2), (17, .int .i64 q78.2.2), (19, .int .i64 q89.2), (21, .int .i64 q93.2), (23, .int .i64 q97.2), (24, .int .i64 q101.1), (25, .int .i64 q101.2), (27, .int .i64 q106.2), (28, .int .u8 q113.1), (29, .bool q113.2), (126, .bool (((((((((q1.1.length : Int) == (0 : Int)) && (q1.2 == (0 : Int))) && (q7.2 == (1 : Int))) && (q19.2 == (1 : Int))) && ((q31.1.length : Int) == (65536 : Int))) && (q31.2 == (0 : Int))) && (q43.2 == (1 : Int))) && (q55.2 == (1 : Int))))] ∧ Hp S w0 w (Res.sl Ek.c128 49 v104 (List.replicate ((1 : Int)).toNat (Fl.bits 0, Fl.bits 0)) :: Res.sl Ek.c128 49 v99 q97.1 :: Res.sl Ek.c128 49 v95 q93.1 :: Res.sl Ek.c128 49 v91 q89.1 :: Res.sl (Ek.int .u8) 5 v76 ([(1 : Int)]) :: Res.sl (Ek.int .u8) 5 v85 q78.1 :: Res.sl Ek.bool 4 v86 q78.2.1 :: Res.sl Ek.bool 4 v65 (mk0 (32770 : Int) false) :: Res.sl (Ek.int .u8) 5 v74 q67.1 :: Res.sl Ek.bool 4 v53 (mk0 (32769 : Int) false) :: Res.sl (Ek.int .u8) 5 v62 q55.1 :: Res.sl (Ek.int .u8) 5 v41 (mk0 (16385 : Int) (0 : Int)) :: Res.sl Ek.bool 4 v50 q43.1 :: Res.sl (Ek.int .u8) 5 v29 (mk0 (65536 : Int) (0 : Int)) :: Res.sl (Ek.int .u8) 5 v38 q31.1 :: Res.sl (Ek.int .u8) 5 v17 (mk0 (65537 : Int) (0 : Int)) :: Res.sl (Ek.int .u8) 5 v26 q19.1 :: Res.sl (Ek.int .u8) 5 v5 ([(4 : Int)]) :: Res.sl (Ek.int .u8) 5 v14 q7.1 :: Res.sl (Ek.int .u8) 5 v3 q1.1 :: ow)) ?_ ?_
              · rcases Bool.eq_false_or_eq_true ((((((((q1.1.length : Int) == (0 : Int)) && (q1.2 == (0 : Int))) && (q7.2 == (1 : Int))) && (q19.2 == (1 : Int))) && ((q31.1.length : Int) == (65536 : Int))) && (q31.2 == (0 : Int))) && (q43.2 == (1 : Int))) with hb128 | hb128
                · skip
                  refine st_move hf (wantY hf rfl rfl hb128) rfl (by decide) ?_
                  clear hf; intro a ha hf; clear ha
                  refine st_ieql hf (by decide) (wantY hf rfl rfl hb128) rfl rfl ?_
                  clear hf; intro a ha hf; clear ha
                  refine st_pick (v := .bool (q55.2 == (1 : Int))) hf rfl rfl (fun hb' => ?_) (fun hb' => ?_) (by decide) ?_
                  · rfl
                  · exact absurd (hb128.symm.trans hb') (by decide)
                  clear hf; intro a ha hf; clear ha
                  refine st_nil hf (th_n ?_)
                  exact ⟨hf.sub ⟨rfl, rfl, rfl, rfl, rfl, rfl, rfl, rfl, rfl, rfl, (by rw [hb128]; rfl), trivial⟩, hp⟩
                · skip
                  refine st_skip hf (wantN hf rfl rfl hb128) rfl (by decide) ?_ rfl
                  clear hf; intro a hf
                  refine st_skip hf (wantN hf rfl rfl hb128) rfl (by decide) ?_ rfl
                  clear hf; intro a hf
                  refine st_pick (v := .bool false) hf rfl rfl (fun hb' => ?_) (fun hb' => ?_) (by decide) ?_
                  · exact absurd (hb128.symm.trans hb') (by decide)
                  · rfl
                  clear hf; intro a ha hf; clear ha
                  refine st_nil hf (th_n ?_)
                  exact ⟨hf.sub ⟨rfl, rfl, rfl, rfl, rfl, rfl, rfl, rfl, rfl, rfl, (by rw [hb128]; rfl), trivial⟩, hp⟩
              · rintro a w ⟨hf, hp⟩
                refine st_move hf rfl rfl (by decide) ?_
                clear hf; intro a ha hf; clear ha
                refine wpList_cut 3 (fun a w => Fr 170 a [(17, .int .i64 q78.2.2), (19, .int .i64 q89.2), (21, .int .i64 q93.2), (23, .int .i64 q97.2), (24, .int .i64 q101.1), (25, .int .i64 q101.2), (27, .int .i64 q106.2), (28, .int .u8 q113.1), (29, .bool q113.2), (130, .bool ((((((((((q1.1.length : Int) == (0 : Int)) && (q1.2 == (0 : Int))) && (q7.2 == (1 : Int))) && (q19.2 == (1 : Int))) && ((q31.1.length : Int) == (65536 : Int))) && (q31.2 == (0 : Int))) && (q43.2 == (1 : Int))) && (q55.2 == (1 : Int))) && (q67.2 == (1 : Int))))] ∧ Hp S w0 w (Res.sl Ek.c128 49 v104 (List.replicate ((1 : Int)).toNat (Fl.bits 0, Fl.bits 0)) :: Res.sl Ek.c128 49 v99 q97.1 :: Res.sl Ek.c128 49 v95 q93.1 :: Res.sl Ek.c128 49 v91 q89.1 :: Res.sl (Ek.int .u8) 5 v76 ([(1 : Int)]) :: Res.sl (Ek.int .u8) 5 v85 q78.1 :: Res.sl Ek.bool 4 v86 q78.2.1 :: Res.sl Ek.bool 4 v65 (mk0 (32770 : Int) false) :: Res.sl (Ek.int .u8) 5 v74 q67.1 :: Res.sl Ek.bool 4 v53 (mk0 (32769 : Int) false) :: Res.sl (Ek.int .u8) 5 v62 q55.1 :: Res.sl (Ek.int .u8) 5 v41 (mk0 (16385 : Int) (0 : Int)) :: Res.sl Ek.bool 4 v50 q43.1 :: Res.sl (Ek.int .u8) 5 v29 (mk0 (65536 : Int) (0 : Int)) :: Res.sl (Ek.int .u8) 5 v38 q31.1 :: Res.sl (Ek.int .u8) 5 v17 (mk0 (65537 : Int) (0 : Int)) :: Res.sl (Ek.int .u8) 5 v26 q19.1 :: Res.sl (Ek.int .u8) 5 v5 ([(4 : Int)]) :: Res.sl (Ek.int .u8) 5 v14 q7.1 :: Res.sl (Ek.int .u8) 5 v3 q1.1 :: ow)) ?_ ?_
                · rcases Bool.eq_false_or_eq_true (((((((((q1.1.length : Int) == (0 : Int)) && (q1.2 == (0 : Int))) && (q7.2 == (1 : Int))) && (q19.2 == (1 : Int))) && ((q31.1.length : Int) == (65536 : Int))) && (q31.2 == (0 : Int))) && (q43.2 == (1 : Int))) && (q55.2 == (1 : Int))) with hb130 | hb130
                  · skip
                    refine st_move hf (wantY hf rfl rfl hb130) rfl (by decide) ?_
                    clear hf; intro a ha hf; clear ha
                    refine st_ieql hf (by decide) (wantY hf rfl rfl hb130) rfl rfl ?_
                    clear hf; intro a ha hf; clear ha
                    refine st_pick (v := .bool (q67.2 == (1 : Int))) hf rfl rfl (fun hb' => ?_) (fun hb' => ?_) (by decide) ?_
                    · rfl
                    · exact absurd (hb130.symm.trans hb') (by decide)
                    clear hf; intro a ha hf; clear ha
                    refine st_nil hf (th_n ?_)
                    exact ⟨hf.sub ⟨rfl, rfl, rfl, rfl, rfl, rfl, rfl, rfl, rfl, (by rw [hb130]; rfl), trivial⟩, hp⟩
                  · skip
                    refine st_skip hf (wantN hf rfl rfl hb130) rfl (by decide) ?_ rfl
                    clear hf; intro a hf
                    refine st_skip hf (wantN hf rfl rfl hb130) rfl (by decide) ?_ rfl
                    clear hf; intro a hf
                    refine st_pick (v := .bool false) hf rfl rfl (fun hb' => ?_) (fun hb' => ?_) (by decide) ?_
                    · exact absurd (hb130.symm.trans hb') (by decide)
                    · rfl
                    clear hf; intro a ha hf; clear ha
                    refine st_nil hf (th_n ?_)
                    exact ⟨hf.sub ⟨rfl, rfl, rfl, rfl, rfl, rfl, rfl, rfl, rfl, (by rw [hb130]; rfl), trivial⟩, hp⟩
                · rintro a w ⟨hf, hp⟩
                  refine st_move hf rfl rfl (by decide) ?_
                  clear hf; intro a ha hf; clear ha
                  refine wpList_cut 3 (fun a w => Fr 170 a [(19, .int .i64 q89.2), (21, .int .i64 q93.2), (23, .int .i64 q97.2), (24, .int .i64 q101.1), (25, .int .i64 q101.2), (27, .int .i64 q106.2), (28, .int .u8 q113.1), (29, .bool q113.2), (134, .bool (((((((((((q1.1.length : Int) == (0 : Int)) && (q1.2 == (0 : Int))) && (q7.2 == (1 : Int))) && (q19.2 == (1 : Int))) && ((q31.1.length : Int) == (65536 : Int))) && (q31.2 == (0 : Int))) && (q43.2 == (1 : Int))) && (q55.2 == (1 : Int))) && (q67.2 == (1 : Int))) && (q78.2.2 == (1 : Int))))] ∧ Hp S w0 w (Res.sl Ek.c128 49 v104 (List.replicate ((1 : Int)).toNat (Fl.bits 0, Fl.bits 0)) :: Res.sl Ek.c128 49 v99 q97.1 :: Res.sl Ek.c128 49 v95 q93.1 :: Res.sl Ek.c128 49 v91 q89.1 :: Res.sl (Ek.int .u8) 5 v76 ([(1 : Int)]) :: Res.sl (Ek.int .u8) 5 v85 q78.1 :: Res.sl Ek.bool 4 v86 q78.2.1 :: Res.sl Ek.bool 4 v65 (mk0 (32770 : Int) false) :: Res.sl (Ek.int .u8) 5 v74 q67.1 :: Res.sl Ek.bool 4 v53 (mk0 (32769 : Int) false) :: Res.sl (Ek.int .u8) 5 v62 q55.1 :: Res.sl (Ek.int .u8) 5 v41 (mk0 (16385 : Int) (0 : Int)) :: Res.sl Ek.bool 4 v50 q43.1 :: Res.sl (Ek.int .u8) 5 v29 (mk0 (65536 : Int) (0 : Int)) :: Res.sl (Ek.int .u8) 5 v38 q31.1 :: Res.sl (Ek.int .u8) 5 v17 (mk0 (65537 : Int) (0 : Int)) :: Res.sl (Ek.int .u8) 5 v26 q19.1 :: Res.sl (Ek.int .u8) 5 v5 ([(4 : Int)]) :: Res.sl (Ek.int .u8) 5 v14 q7.1 :: Res.sl (Ek.int .u8) 5 v3 q1.1 :: ow)) ?_ ?_
                  · rcases Bool.eq_false_or_eq_true ((((((((((q1.1.length : Int) == (0 : Int)) && (q1.2 == (0 : Int))) && (q7.2 == (1 : Int))) && (q19.2 == (1 : Int))) && ((q31.1.length : Int) == (65536 : Int))) && (q31.2 == (0 : Int))) && (q43.2 == (1 : Int))) && (q55.2 == (1 : Int))) && (q67.2 == (1 : Int))) with hb132 | hb132
                    · skip
                      refine st_move hf (wantY hf rfl rfl hb132) rfl (by decide) ?_
                      clear hf; intro a ha hf; clear ha
                      refine st_ieql hf (by decide) (wantY hf rfl rfl hb132) rfl rfl ?_
                      clear hf; intro a ha hf; clear ha
                      refine st_pick (v := .bool (q78.2.2 == (1 : Int))) hf rfl rfl (fun hb' => ?_) (fun hb' => ?_) (by decide) ?_
                      · rfl
                      · exact absurd (hb132.symm.trans hb') (by decide)
                      clear hf; intro a ha hf; clear ha
                      refine st_nil hf (th_n ?_)
                      exact ⟨hf.sub ⟨rfl, rfl, rfl, rfl, rfl, rfl, rfl, rfl, (by rw [hb132]; rfl), trivial⟩, hp⟩
                    · skip
                      refine st_skip hf (wantN hf rfl rfl hb132) rfl (by decide) ?_ rfl
                      clear hf; intro a hf
                      refine st_skip hf (wantN hf rfl rfl hb132) rfl (by decide) ?_ rfl
                      clear hf; intro a hf
                      refine st_pick (v := .bool false) hf rfl rfl (fun hb' => ?_) (fun hb' => ?_) (by decide) ?_
                      · exact absurd (hb132.symm.trans hb') (by decide)
                      · rfl
                      clear hf; intro a ha hf; clear ha
                      refine st_nil hf (th_n ?_)
                      exact ⟨hf.sub ⟨rfl, rfl, rfl, rfl, rfl, rfl, rfl, rfl, (by rw [hb132]; rfl), trivial⟩, hp⟩
                  · rintro a w ⟨hf, hp⟩
                    refine st_move hf rfl rfl (by decide) ?_
                    clear hf; intro a ha hf; clear ha
                    refine wpList_cut 3 (fun a w => Fr 170 a [(21, .int .i64 q93.2), (23, .int .i64 q97.2), (24, .int .i64 q101.1), (25, .int .i64 q101.2), (27, .int .i64 q106.2), (28, .int .u8 q113.1), (29, .bool q113.2), (138, .bool ((((((((((((q1.1.length : Int) == (0 : Int)) && (q1.2 == (0 : Int))) && (q7.2 == (1 : Int))) && (q19.2 == (1 : Int))) && ((q31.1.length : Int) == (65536 : Int))) && (q31.2 == (0 : Int))) && (q43.2 == (1 : Int))) && (q55.2 == (1 : Int))) && (q67.2 == (1 : Int))) && (q78.2.2 == (1 : Int))) && (q89.2 == (1 : Int))))] ∧ Hp S w0 w (Res.sl Ek.c128 49 v104 (List.replicate ((1 : Int)).toNat (Fl.bits 0, Fl.bits 0)) :: Res.sl Ek.c128 49 v99 q97.1 :: Res.sl Ek.c128 49 v95 q93.1 :: Res.sl Ek.c128 49 v91 q89.1 :: Res.sl (Ek.int .u8) 5 v76 ([(1 : Int)]) :: Res.sl (Ek.int .u8) 5 v85 q78.1 :: Res.sl Ek.bool 4 v86 q78.2.1 :: Res.sl Ek.bool 4 v65 (mk0 (32770 : Int) false) :: Res.sl (Ek.int .u8) 5 v74 q67.1 :: Res.sl Ek.bool 4 v53 (mk0 (32769 : Int) false) :: Res.sl (Ek.int .u8) 5 v62 q55.1 :: Res.sl (Ek.int .u8) 5 v41 (mk0 (16385 : Int) (0 : Int)) :: Res.sl Ek.bool 4 v50 q43.1 :: Res.sl (Ek.int .u8) 5 v29 (mk0 (65536 : Int) (0 : Int)) :: Res.sl (Ek.int .u8) 5 v38 q31.1 :: Res.sl (Ek.int .u8) 5 v17 (mk0 (65537 : Int) (0 : Int)) :: Res.sl (Ek.int .u8) 5 v26 q19.1 :: Res.sl (Ek.int .u8) 5 v5 ([(4 : Int)]) :: Res.sl (Ek.int .u8) 5 v14 q7.1 :: Res.sl (Ek.int .u8) 5 v3 q1.1 :: ow)) ?_ ?_
                    · rcases Bool.eq_false_or_eq_true (((((((((((q1.1.length : Int) == (0 : Int)) && (q1.2 == (0 : Int))) && (q7.2 == (1 : Int))) && (q19.2 == (1 : Int))) && ((q31.1.length : Int) == (65536 : Int))) && (q31.2 == (0 : Int))) && (q43.2 == (1 : Int))) && (q55.2 == (1 : Int))) && (q67.2 == (1 : Int))) && (q78.2.2 == (1 : Int))) with hb134 | hb134
                      · skip
                        refine st_move hf (wantY hf rfl rfl hb134) rfl (by decide) ?_
                        clear hf; intro a ha hf; clear ha
                        refine st_ieql hf (by decide) (wantY hf rfl rfl hb134) rfl rfl ?_
                        clear hf; intro a ha hf; clear ha
                        refine st_pick (v := .bool (q89.2 == (1 : Int))) hf rfl rfl (fun hb' => ?_) (fun hb' => ?_) (by decide) ?_
                        · rfl
                        · exact absurd (hb134.symm.trans hb') (by decide)
                        clear hf; intro a ha hf; clear ha
                        refine st_nil hf (th_n ?_)
                        exact ⟨hf.sub ⟨rfl, rfl, rfl, rfl, rfl, rfl, rfl, (by rw [hb134]; rfl), trivial⟩, hp⟩
                      · skip
                        refine st_skip hf (wantN hf rfl rfl hb134) rfl (by decide) ?_ rfl
                        clear hf; intro a hf
                        refine st_skip hf (wantN hf rfl rfl hb134) rfl (by decide) ?_ rfl
                        clear hf; intro a hf
                        refine st_pick (v := .bool false) hf rfl rfl (fun hb' => ?_) (fun hb' => ?_) (by decide) ?_
                        · exact absurd (hb134.symm.trans hb') (by decide)
                        · rfl
                        clear hf; intro a ha hf; clear ha
                        refine st_nil hf (th_n ?_)
                        exact ⟨hf.sub ⟨rfl, rfl, rfl, rfl, rfl, rfl, rfl, (by rw [hb134]; rfl), trivial⟩, hp⟩
                    · rintro a w ⟨hf, hp⟩
                      refine st_move hf rfl rfl (by decide) ?_
                      clear hf; intro a ha hf; clear ha
                      refine wpList_cut 3 (fun a w => Fr 170 a [(23, .int .i64 q97.2), (24, .int .i64 q101.1), (25, .int .i64 q101.2), (27, .int .i64 q106.2), (28, .int .u8 q113.1), (29, .bool q113.2), (142, .bool (((((((((((((q1.1.length : Int) == (0 : Int)) && (q1.2 == (0 : Int))) && (q7.2 == (1 : Int))) && (q19.2 == (1 : Int))) && ((q31.1.length : Int) == (65536 : Int))) && (q31.2 == (0 : Int))) && (q43.2 == (1 : Int))) && (q55.2 == (1 : Int))) && (q67.2 == (1 : Int))) && (q78.2.2 == (1 : Int))) && (q89.2 == (1 : Int))) && (q93.2 == (0 : Int))))] ∧ Hp S w0 w (Res.sl Ek.c128 49 v104 (List.replicate ((1 : Int)).toNat (Fl.bits 0, Fl.bits 0)) :: Res.sl Ek.c128 49 v99 q97.1 :: Res.sl Ek.c128 49 v95 q93.1 :: Res.sl Ek.c128 49 v91 q89.1 :: Res.sl (Ek.int .u8) 5 v76 ([(1 : Int)]) :: Res.sl (Ek.int .u8) 5 v85 q78.1 :: Res.sl Ek.bool 4 v86 q78.2.1 :: Res.sl Ek.bool 4 v65 (mk0 (32770 : Int) false) :: Res.sl (Ek.int .u8) 5 v74 q67.1 :: Res.sl Ek.bool 4 v53 (mk0 (32769 : Int) false) :: Res.sl (Ek.int .u8) 5 v62 q55.1 :: Res.sl (Ek.int .u8) 5 v41 (mk0 (16385 : Int) (0 : Int)) :: Res.sl Ek.bool 4 v50 q43.1 :: Res.sl (Ek.int .u8) 5 v29 (mk0 (65536 : Int) (0 : Int)) :: Res.sl (Ek.int .u8) 5 v38 q31.1 :: Res.sl (Ek.int .u8) 5 v17 (mk0 (65537 : Int) (0 : Int)) :: Res.sl (Ek.int .u8) 5 v26 q19.1 :: Res.sl (Ek.int .u8) 5 v5 ([(4 : Int)]) :: Res.sl (Ek.int .u8) 5 v14 q7.1 :: Res.sl (Ek.int .u8) 5 v3 q1.1 :: ow)) ?_ ?_
                      · rcases Bool.eq_false_or_eq_true ((((((((((((q1.1.length : Int) == (0 : Int)) && (q1.2 == (0 : Int))) && (q7.2 == (1 : Int))) && (q19.2 == (1 : Int))) && ((q31.1.length : Int) == (65536 : Int))) && (q31.2 == (0 : Int))) && (q43.2 == (1 : Int))) && (q55.2 == (1 : Int))) && (q67.2 == (1 : Int))) && (q78.2.2 == (1 : Int))) && (q89.2 == (1 : Int))) with hb136 | hb136
                        · skip
                          refine st_move hf (wantY hf rfl rfl hb136) rfl (by decide) ?_
                          clear hf; intro a ha hf; clear ha
                          refine st_ieql hf (by decide) (wantY hf rfl rfl hb136) rfl rfl ?_
                          clear hf; intro a ha hf; clear ha
                          refine st_pick (v := .bool (q93.2 == (0 : Int))) hf rfl rfl (fun hb' => ?_) (fun hb' => ?_) (by decide) ?_
                          · rfl
                          · exact absurd (hb136.symm.trans hb') (by decide)
                          clear hf; intro a ha hf; clear ha
                          refine st_nil hf (th_n ?_)
                          exact ⟨hf.sub ⟨rfl, rfl, rfl, rfl, rfl, rfl, (by rw [hb136]; rfl), trivial⟩, hp⟩
                        · skip
                          refine st_skip hf (wantN hf rfl rfl hb136) rfl (by decide) ?_ rfl
                          clear hf; intro a hf
                          refine st_skip hf (wantN hf rfl rfl hb136) rfl (by decide) ?_ rfl
                          clear hf; intro a hf
                          refine st_pick (v := .bool false) hf rfl rfl (fun hb' => ?_) (fun hb' => ?_) (by decide) ?_
                          · exact absurd (hb136.symm.trans hb') (by decide)
                          · rfl
                          clear hf; intro a ha hf; clear ha
                          refine st_nil hf (th_n ?_)
                          exact ⟨hf.sub ⟨rfl, rfl, rfl, rfl, rfl, rfl, (by rw [hb136]; rfl), trivial⟩, hp⟩
                      · rintro a w ⟨hf, hp⟩
                        refine st_move hf rfl rfl (by decide) ?_
                        clear hf; intro a ha hf; clear ha
                        refine wpList_cut 3 (fun a w => Fr 170 a [(24, .int .i64 q101.1), (25, .int .i64 q101.2), (27, .int .i64 q106.2), (28, .int .u8 q113.1), (29, .bool q113.2), (146, .bool ((((((((((((((q1.1.length : Int) == (0 : Int)) && (q1.2 == (0 : Int))) && (q7.2 == (1 : Int))) && (q19.2 == (1 : Int))) && ((q31.1.length : Int) == (65536 : Int))) && (q31.2 == (0 : Int))) && (q43.2 == (1 : Int))) && (q55.2 == (1 : Int))) && (q67.2 == (1 : Int))) && (q78.2.2 == (1 : Int))) && (q89.2 == (1 : Int))) && (q93.2 == (0 : Int))) && (q97.2 == (1 : Int))))] ∧ Hp S w0 w (Res.sl Ek.c128 49 v104 (List.replicate ((1 : Int)).toNat (Fl.bits 0, Fl.bits 0)) :: Res.sl Ek.c128 49 v99 q97.1 :: Res.sl Ek.c128 49 v95 q93.1 :: Res.sl Ek.c128 49 v91 q89.1 :: Res.sl (Ek.int .u8) 5 v76 ([(1 : Int)]) :: Res.sl (Ek.int .u8) 5 v85 q78.1 :: Res.sl Ek.bool 4 v86 q78.2.1 :: Res.sl Ek.bool 4 v65 (mk0 (32770 : Int) false) :: Res.sl (Ek.int .u8) 5 v74 q67.1 :: Res.sl Ek.bool 4 v53 (mk0 (32769 : Int) false) :: Res.sl (Ek.int .u8) 5 v62 q55.1 :: Res.sl (Ek.int .u8) 5 v41 (mk0 (16385 : Int) (0 : Int)) :: Res.sl Ek.bool 4 v50 q43.1 :: Res.sl (Ek.int .u8) 5 v29 (mk0 (65536 : Int) (0 : Int)) :: Res.sl (Ek.int .u8) 5 v38 q31.1 :: Res.sl (Ek.int .u8) 5 v17 (mk0 (65537 : Int) (0 : Int)) :: Res.sl (Ek.int .u8) 5 v26 q19.1 :: Res.sl (Ek.int .u8) 5 v5 ([(4 : Int)]) :: Res.sl (Ek.int .u8) 5 v14 q7.1 :: Res.sl (Ek.int .u8) 5 v3 q1.1 :: ow)) ?_ ?_
                        · rcases Bool.eq_false_or_eq_true (((((((((((((q1.1.length : Int) == (0 : Int)) && (q1.2 == (0 : Int))) && (q7.2 == (1 : Int))) && (q19.2 == (1 : Int))) && ((q31.1.length : Int) == (65536 : Int))) && (q31.2 == (0 : Int))) && (q43.2 == (1 : Int))) && (q55.2 == (1 : Int))) && (q67.2 == (1 : Int))) && (q78.2.2 == (1 : Int))) && (q89.2 == (1 : Int))) && (q93.2 == (0 : Int))) with hb138 | hb138
                          · skip
                            refine st_move hf (wantY hf rfl rfl hb138) rfl (by decide) ?_
                            clear hf; intro a ha hf; clear ha
                            refine st_ieql hf (by decide) (wantY hf rfl rfl hb138) rfl rfl ?_
                            clear hf; intro a ha hf; clear ha
                            refine st_pick (v := .bool (q97.2 == (1 : Int))) hf rfl rfl (fun hb' => ?_) (fun hb' => ?_) (by decide) ?_
                            · rfl
                            · exact absurd (hb138.symm.trans hb') (by decide)
                            clear hf; intro a ha hf; clear ha
                            refine st_nil hf (th_n ?_)
                            exact ⟨hf.sub ⟨rfl, rfl, rfl, rfl, rfl, (by rw [hb138]; rfl), trivial⟩, hp⟩
                          · skip
                            refine st_skip hf (wantN hf rfl rfl hb138) rfl (by decide) ?_ rfl
                            clear hf; intro a hf
                            refine st_skip hf (wantN hf rfl rfl hb138) rfl (by decide) ?_ rfl
                            clear hf; intro a hf
                            refine st_pick (v := .bool false) hf rfl rfl (fun hb' => ?_) (fun hb' => ?_) (by decide) ?_
                            · exact absurd (hb138.symm.trans hb') (by decide)
                            · rfl
                            clear hf; intro a ha hf; clear ha
                            refine st_nil hf (th_n ?_)
                            exact ⟨hf.sub ⟨rfl, rfl, rfl, rfl, rfl, (by rw [hb138]; rfl), trivial⟩, hp⟩
                        · rintro a w ⟨hf, hp⟩
                          refine st_move hf rfl rfl (by decide) ?_
                          clear hf; intro a ha hf; clear ha
                          refine wpList_cut 3 (fun a w => Fr 170 a [(25, .int .i64 q101.2), (27, .int .i64 q106.2), (28, .int .u8 q113.1), (29, .bool q113.2), (150, .bool (((((((((((((((q1.1.length : Int) == (0 : Int)) && (q1.2 == (0 : Int))) && (q7.2 == (1 : Int))) && (q19.2 == (1 : Int))) && ((q31.1.length : Int) == (65536 : Int))) && (q31.2 == (0 : Int))) && (q43.2 == (1 : Int))) && (q55.2 == (1 : Int))) && (q67.2 == (1 : Int))) && (q78.2.2 == (1 : Int))) && (q89.2 == (1 : Int))) && (q93.2 == (0 : Int))) && (q97.2 == (1 : Int))) && (q101.1 == (0 : Int))))] ∧ Hp S w0 w (Res.sl Ek.c128 49 v104 (List.replicate ((1 : Int)).toNat (Fl.bits 0, Fl.bits 0)) :: Res.sl Ek.c128 49 v99 q97.1 :: Res.sl Ek.c128 49 v95 q93.1 :: Res.sl Ek.c128 49 v91 q89.1 :: Res.sl (Ek.int .u8) 5 v76 ([(1 : Int)]) :: Res.sl (Ek.int .u8) 5 v85 q78.1 :: Res.sl Ek.bool 4 v86 q78.2.1 :: Res.sl Ek.bool 4 v65 (mk0 (32770 : Int) false) :: Res.sl (Ek.int .u8) 5 v74 q67.1 :: Res.sl Ek.bool 4 v53 (mk0 (32769 : Int) false) :: Res.sl (Ek.int .u8) 5 v62 q55.1 :: Res.sl (Ek.int .u8) 5 v41 (mk0 (16385 : Int) (0 : Int)) :: Res.sl Ek.bool 4 v50 q43.1 :: Res.sl (Ek.int .u8) 5 v29 (mk0 (65536 : Int) (0 : Int)) :: Res.sl (Ek.int .u8) 5 v38 q31.1 :: Res.sl (Ek.int .u8) 5 v17 (mk0 (65537 : Int) (0 : Int)) :: Res.sl (Ek.int .u8) 5 v26 q19.1 :: Res.sl (Ek.int .u8) 5 v5 ([(4 : Int)]) :: Res.sl (Ek.int .u8) 5 v14 q7.1 :: Res.sl (Ek.int .u8) 5 v3 q1.1 :: ow)) ?_ ?_
                          · rcases Bool.eq_false_or_eq_true ((((((((((((((q1.1.length : Int) == (0 : Int)) && (q1.2 == (0 : Int))) && (q7.2 == (1 : Int))) && (q19.2 == (1 : Int))) && ((q31.1.length : Int) == (65536 : Int))) && (q31.2 == (0 : Int))) && (q43.2 == (1 : Int))) && (q55.2 == (1 : Int))) && (q67.2 == (1 : Int))) && (q78.2.2 == (1 : Int))) && (q89.2 == (1 : Int))) && (q93.2 == (0 : Int))) && (q97.2 == (1 : Int))) with hb140 | hb140
                            · skip
                              refine st_move hf (wantY hf rfl rfl hb140) rfl (by decide) ?_
                              clear hf; intro a ha hf; clear ha
                              refine st_ieql hf (by decide) (wantY hf rfl rfl hb140) rfl rfl ?_
                              clear hf; intro a ha hf; clear ha
                              refine st_pick (v := .bool (q101.1 == (0 : Int))) hf rfl rfl (fun hb' => ?_) (fun hb' => ?_) (by decide) ?_
                              · rfl
                              · exact absurd (hb140.symm.trans hb') (by decide)
                              clear hf; intro a ha hf; clear ha
                              refine st_nil hf (th_n ?_)
                              exact ⟨hf.sub ⟨rfl, rfl, rfl, rfl, (by rw [hb140]; rfl), trivial⟩, hp⟩
                            · skip
                              refine st_skip hf (wantN hf rfl rfl hb140) rfl (by decide) ?_ rfl
                              clear hf; intro a hf
                              refine st_skip hf (wantN hf rfl rfl hb140) rfl (by decide) ?_ rfl
                              clear hf; intro a hf
                              refine st_pick (v := .bool false) hf rfl rfl (fun hb' => ?_) (fun hb' => ?_) (by decide) ?_
                              · exact absurd (hb140.symm.trans hb') (by decide)
                              · rfl
                              clear hf; intro a ha hf; clear ha
                              refine st_nil hf (th_n ?_)
                              exact ⟨hf.sub ⟨rfl, rfl, rfl, rfl, (by rw [hb140]; rfl), trivial⟩, hp⟩
                          · rintro a w ⟨hf, hp⟩
                            refine st_move hf rfl rfl (by decide) ?_
                            clear hf; intro a ha hf; clear ha
                            refine wpList_cut 3 (fun a w => Fr 170 a [(27, .int .i64 q106.2), (28, .int .u8 q113.1), (29, .bool q113.2), (154, .bool ((((((((((((((((q1.1.length : Int) == (0 : Int)) && (q1.2 == (0 : Int))) && (q7.2 == (1 : Int))) && (q19.2 == (1 : Int))) && ((q31.1.length : Int) == (65536 : Int))) && (q31.2 == (0 : Int))) && (q43.2 == (1 : Int))) && (q55.2 == (1 : Int))) && (q67.2 == (1 : Int))) && (q78.2.2 == (1 : Int))) && (q89.2 == (1 : Int))) && (q93.2 == (0 : Int))) && (q97.2 == (1 : Int))) && (q101.1 == (0 : Int))) && (q101.2 == (0 : Int))))] ∧ Hp S w0 w (Res.sl Ek.c128 49 v104 (List.replicate ((1 : Int)).toNat (Fl.bits 0, Fl.bits 0)) :: Res.sl Ek.c128 49 v99 q97.1 :: Res.sl Ek.c128 49 v95 q93.1 :: Res.sl Ek.c128 49 v91 q89.1 :: Res.sl (Ek.int .u8) 5 v76 ([(1 : Int)]) :: Res.sl (Ek.int .u8) 5 v85 q78.1 :: Res.sl Ek.bool 4 v86 q78.2.1 :: Res.sl Ek.bool 4 v65 (mk0 (32770 : Int) false) :: Res.sl (Ek.int .u8) 5 v74 q67.1 :: Res.sl Ek.bool 4 v53 (mk0 (32769 : Int) false) :: Res.sl (Ek.int .u8) 5 v62 q55.1 :: Res.sl (Ek.int .u8) 5 v41 (mk0 (16385 : Int) (0 : Int)) :: Res.sl Ek.bool 4 v50 q43.1 :: Res.sl (Ek.int .u8) 5 v29 (mk0 (65536 : Int) (0 : Int)) :: Res.sl (Ek.int .u8) 5 v38 q31.1 :: Res.sl (Ek.int .u8) 5 v17 (mk0 (65537 : Int) (0 : Int)) :: Res.sl (Ek.int .u8) 5 v26 q19.1 :: Res.sl (Ek.int .u8) 5 v5 ([(4 : Int)]) :: Res.sl (Ek.int .u8) 5 v14 q7.1 :: Res.sl (Ek.int .u8) 5 v3 q1.1 :: ow)) ?_ ?_
                            · rcases Bool.eq_false_or_eq_true (((((((((((((((q1.1.length : Int) == (0 : Int)) && (q1.2 == (0 : Int))) && (q7.2 == (1 : Int))) && (q19.2 == (1 : Int))) && ((q31.1.length : Int) == (65536 : Int))) && (q31.2 == (0 : Int))) && (q43.2 == (1 : Int))) && (q55.2 == (1 : Int))) && (q67.2 == (1 : Int))) && (q78.2.2 == (1 : Int))) && (q89.2 == (1 : Int))) && (q93.2 == (0 : Int))) && (q97.2 == (1 : Int))) && (q101.1 == (0 : Int))) with hb142 | hb142
                              · skip
                                refine st_move hf (wantY hf rfl rfl hb142) rfl (by decide) ?_
                                clear hf; intro a ha hf; clear ha
                                refine st_ieql hf (by decide) (wantY hf rfl rfl hb142) rfl rfl ?_
                                clear hf; intro a ha hf; clear ha
                                refine st_pick (v := .bool (q101.2 == (0 : Int))) hf rfl rfl (fun hb' => ?_) (fun hb' => ?_) (by decide) ?_
                                · rfl
                                · exact absurd (hb142.symm.trans hb') (by decide)
                                clear hf; intro a ha hf; clear ha
                                refine st_nil hf (th_n ?_)
                                exact ⟨hf.sub ⟨rfl, rfl, rfl, (by rw [hb142]; rfl), trivial⟩, hp⟩
                              · skip
                                refine st_skip hf (wantN hf rfl rfl hb142) rfl (by decide) ?_ rfl
                                clear hf; intro a hf
                                refine st_skip hf (wantN hf rfl rfl hb142) rfl (by decide) ?_ rfl
                                clear hf; intro a hf
                                refine st_pick (v := .bool false) hf rfl rfl (fun hb' => ?_) (fun hb' => ?_) (by decide) ?_
                                · exact absurd (hb142.symm.trans hb') (by decide)
                                · rfl
                                clear hf; intro a ha hf; clear ha
                                refine st_nil hf (th_n ?_)
                                exact ⟨hf.sub ⟨rfl, rfl, rfl, (by rw [hb142]; rfl), trivial⟩, hp⟩
                            · rintro a w ⟨hf, hp⟩
                              refine st_move hf rfl rfl (by decide) ?_
                              clear hf; intro a ha hf; clear ha
                              refine wpList_cut 3 (fun a w => Fr 170 a [(28, .int .u8 q113.1), (29, .bool q113.2), (158, .bool (((((((((((((((((q1.1.length : Int) == (0 : Int)) && (q1.2 == (0 : Int))) && (q7.2 == (1 : Int))) && (q19.2 == (1 : Int))) && ((q31.1.length : Int) == (65536 : Int))) && (q31.2 == (0 : Int))) && (q43.2 == (1 : Int))) && (q55.2 == (1 : Int))) && (q67.2 == (1 : Int))) && (q78.2.2 == (1 : Int))) && (q89.2 == (1 : Int))) && (q93.2 == (0 : Int))) && (q97.2 == (1 : Int))) && (q101.1 == (0 : Int))) && (q101.2 == (0 : Int))) && (q106.2 == (1 : Int))))] ∧ Hp S w0 w (Res.sl Ek.c128 49 v104 (List.replicate ((1 : Int)).toNat (Fl.bits 0, Fl.bits 0)) :: Res.sl Ek.c128 49 v99 q97.1 :: Res.sl Ek.c128 49 v95 q93.1 :: Res.sl Ek.c128 49 v91 q89.1 :: Res.sl (Ek.int .u8) 5 v76 ([(1 : Int)]) :: Res.sl (Ek.int .u8) 5 v85 q78.1 :: Res.sl Ek.bool 4 v86 q78.2.1 :: Res.sl Ek.bool 4 v65 (mk0 (32770 : Int) false) :: Res.sl (Ek.int .u8) 5 v74 q67.1 :: Res.sl Ek.bool 4 v53 (mk0 (32769 : Int) false) :: Res.sl (Ek.int .u8) 5 v62 q55.1 :: Res.sl (Ek.int .u8) 5 v41 (mk0 (16385 : Int) (0 : Int)) :: Res.sl Ek.bool 4 v50 q43.1 :: Res.sl (Ek.int .u8) 5 v29 (mk0 (65536 : Int) (0 : Int)) :: Res.sl (Ek.int .u8) 5 v38 q31.1 :: Res.sl (Ek.int .u8) 5 v17 (mk0 (65537 : Int) (0 : Int)) :: Res.sl (Ek.int .u8) 5 v26 q19.1 :: Res.sl (Ek.int .u8) 5 v5 ([(4 : Int)]) :: Res.sl (Ek.int .u8) 5 v14 q7.1 :: Res.sl (Ek.int .u8) 5 v3 q1.1 :: ow)) ?_ ?_
                              · rcases Bool.eq_false_or_eq_true ((((((((((((((((q1.1.length : Int) == (0 : Int)) && (q1.2 == (0 : Int))) && (q7.2 == (1 : Int))) && (q19.2 == (1 : Int))) && ((q31.1.length : Int) == (65536 : Int))) && (q31.2 == (0 : Int))) && (q43.2 == (1 : Int))) && (q55.2 == (1 : Int))) && (q67.2 == (1 : Int))) && (q78.2.2 == (1 : Int))) && (q89.2 == (1 : Int))) && (q93.2 == (0 : Int))) && (q97.2 == (1 : Int))) && (q101.1 == (0 : Int))) && (q101.2 == (0 : Int))) with hb144 | hb144
                                · skip
                                  refine st_move hf (wantY hf rfl rfl hb144) rfl (by decide) ?_
                                  clear hf; intro a ha hf; clear ha
                                  refine st_ieql hf (by decide) (wantY hf rfl rfl hb144) rfl rfl ?_
                                  clear hf; intro a ha hf; clear ha
                                  refine st_pick (v := .bool (q106.2 == (1 : Int))) hf rfl rfl (fun hb' => ?_) (fun hb' => ?_) (by decide) ?_
                                  · rfl
                                  · exact absurd (hb144.symm.trans hb') (by decide)
                                  clear hf; intro a ha hf; clear ha
                                  refine st_nil hf (th_n ?_)
                                  exact ⟨hf.sub ⟨rfl, rfl, (by rw [hb144]; rfl), trivial⟩, hp⟩
                                · skip
                                  refine st_skip hf (wantN hf rfl rfl hb144) rfl (by decide) ?_ rfl
                                  clear hf; intro a hf
                                  refine st_skip hf (wantN hf rfl rfl hb144) rfl (by decide) ?_ rfl
                                  clear hf; intro a hf
                                  refine st_pick (v := .bool false) hf rfl rfl (fun hb' => ?_) (fun hb' => ?_) (by decide) ?_
                                  · exact absurd (hb144.symm.trans hb') (by decide)
                                  · rfl
                                  clear hf; intro a ha hf; clear ha
                                  refine st_nil hf (th_n ?_)
                                  exact ⟨hf.sub ⟨rfl, rfl, (by rw [hb144]; rfl), trivial⟩, hp⟩
                              · rintro a w ⟨hf, hp⟩
                                refine st_move hf rfl rfl (by decide) ?_
                                clear hf; intro a ha hf; clear ha
                                refine wpList_cut 3 (fun a w => Fr 170 a [(29, .bool q113.2), (162, .bool ((((((((((((((((((q1.1.length : Int) == (0 : Int)) && (q1.2 == (0 : Int))) && (q7.2 == (1 : Int))) && (q19.2 == (1 : Int))) && ((q31.1.length : Int) == (65536 : Int))) && (q31.2 == (0 : Int))) && (q43.2 == (1 : Int))) && (q55.2 == (1 : Int))) && (q67.2 == (1 : Int))) && (q78.2.2 == (1 : Int))) && (q89.2 == (1 : Int))) && (q93.2 == (0 : Int))) && (q97.2 == (1 : Int))) && (q101.1 == (0 : Int))) && (q101.2 == (0 : Int))) && (q106.2 == (1 : Int))) && (q113.1 == (0 : Int))))] ∧ Hp S w0 w (Res.sl Ek.c128 49 v104 (List.replicate ((1 : Int)).toNat (Fl.bits 0, Fl.bits 0)) :: Res.sl Ek.c128 49 v99 q97.1 :: Res.sl Ek.c128 49 v95 q93.1 :: Res.sl Ek.c128 49 v91 q89.1 :: Res.sl (Ek.int .u8) 5 v76 ([(1 : Int)]) :: Res.sl (Ek.int .u8) 5 v85 q78.1 :: Res.sl Ek.bool 4 v86 q78.2.1 :: Res.sl Ek.bool 4 v65 (mk0 (32770 : Int) false) :: Res.sl (Ek.int .u8) 5 v74 q67.1 :: Res.sl Ek.bool 4 v53 (mk0 (32769 : Int) false) :: Res.sl (Ek.int .u8) 5 v62 q55.1 :: Res.sl (Ek.int .u8) 5 v41 (mk0 (16385 : Int) (0 : Int)) :: Res.sl Ek.bool 4 v50 q43.1 :: Res.sl (Ek.int .u8) 5 v29 (mk0 (65536 : Int) (0 : Int)) :: Res.sl (Ek.int .u8) 5 v38 q31.1 :: Res.sl (Ek.int .u8) 5 v17 (mk0 (65537 : Int) (0 : Int)) :: Res.sl (Ek.int .u8) 5 v26 q19.1 :: Res.sl (Ek.int .u8) 5 v5 ([(4 : Int)]) :: Res.sl (Ek.int .u8) 5 v14 q7.1 :: Res.sl (Ek.int .u8) 5 v3 q1.1 :: ow)) ?_ ?_
                                · rcases Bool.eq_false_or_eq_true (((((((((((((((((q1.1.length : Int) == (0 : Int)) && (q1.2 == (0 : Int))) && (q7.2 == (1 : Int))) && (q19.2 == (1 : Int))) && ((q31.1.length : Int) == (65536 : Int))) && (q31.2 == (0 : Int))) && (q43.2 == (1 : Int))) && (q55.2 == (1 : Int))) && (q67.2 == (1 : Int))) && (q78.2.2 == (1 : Int))) && (q89.2 == (1 : Int))) && (q93.2 == (0 : Int))) && (q97.2 == (1 : Int))) && (q101.1 == (0 : Int))) && (q101.2 == (0 : Int))) && (q106.2 == (1 : Int))) with hb146 | hb146
                                  · skip
                                    refine st_move hf (wantY hf rfl rfl hb146) rfl (by decide) ?_
                                    clear hf; intro a ha hf; clear ha
                                    refine st_ieql hf (by decide) (wantY hf rfl rfl hb146) rfl rfl ?_
                                    clear hf; intro a ha hf; clear ha
                                    refine st_pick (v := .bool (q113.1 == (0 : Int))) hf rfl rfl (fun hb' => ?_) (fun hb' => ?_) (by decide) ?_
                                    · rfl
                                    · exact absurd (hb146.symm.trans hb') (by decide)
                                    clear hf; intro a ha hf; clear ha
                                    refine st_nil hf (th_n ?_)
                                    exact ⟨hf.sub ⟨rfl, (by rw [hb146]; rfl), trivial⟩, hp⟩
                                  · skip
                                    refine st_skip hf (wantN hf rfl rfl hb146) rfl (by decide) ?_ rfl
                                    clear hf; intro a hf
                                    refine st_skip hf (wantN hf rfl rfl hb146) rfl (by decide) ?_ rfl
                                    clear hf; intro a hf
                                    refine st_pick (v := .bool false) hf rfl rfl (fun hb' => ?_) (fun hb' => ?_) (by decide) ?_
                                    · exact absurd (hb146.symm.trans hb') (by decide)
                                    · rfl
                                    clear hf; intro a ha hf; clear ha
                                    refine st_nil hf (th_n ?_)
                                    exact ⟨hf.sub ⟨rfl, (by rw [hb146]; rfl), trivial⟩, hp⟩
                                · rintro a w ⟨hf, hp⟩
                                  refine st_move hf rfl rfl (by decide) ?_
                                  clear hf; intro a ha hf; clear ha
                                  refine wpList_cut 3 (fun a w => Fr 170 a [(166, .bool (((((((((((((((((((q1.1.length : Int) == (0 : Int)) && (q1.2 == (0 : Int))) && (q7.2 == (1 : Int))) && (q19.2 == (1 : Int))) && ((q31.1.length : Int) == (65536 : Int))) && (q31.2 == (0 : Int))) && (q43.2 == (1 : Int))) && (q55.2 == (1 : Int))) && (q67.2 == (1 : Int))) && (q78.2.2 == (1 : Int))) && (q89.2 == (1 : Int))) && (q93.2 == (0 : Int))) && (q97.2 == (1 : Int))) && (q101.1 == (0 : Int))) && (q101.2 == (0 : Int))) && (q106.2 == (1 : Int))) && (q113.1 == (0 : Int))) && (!q113.2)))] ∧ Hp S w0 w (Res.sl Ek.c128 49 v104 (List.replicate ((1 : Int)).toNat (Fl.bits 0, Fl.bits 0)) :: Res.sl Ek.c128 49 v99 q97.1 :: Res.sl Ek.c128 49 v95 q93.1 :: Res.sl Ek.c128 49 v91 q89.1 :: Res.sl (Ek.int .u8) 5 v76 ([(1 : Int)]) :: Res.sl (Ek.int .u8) 5 v85 q78.1 :: Res.sl Ek.bool 4 v86 q78.2.1 :: Res.sl Ek.bool 4 v65 (mk0 (32770 : Int) false) :: Res.sl (Ek.int .u8) 5 v74 q67.1 :: Res.sl Ek.bool 4 v53 (mk0 (32769 : Int) false) :: Res.sl (Ek.int .u8) 5 v62 q55.1 :: Res.sl (Ek.int .u8) 5 v41 (mk0 (16385 : Int) (0 : Int)) :: Res.sl Ek.bool 4 v50 q43.1 :: Res.sl (Ek.int .u8) 5 v29 (mk0 (65536 : Int) (0 : Int)) :: Res.sl (Ek.int .u8) 5 v38 q31.1 :: Res.sl (Ek.int .u8) 5 v17 (mk0 (65537 : Int) (0 : Int)) :: Res.sl (Ek.int .u8) 5 v26 q19.1 :: Res.sl (Ek.int .u8) 5 v5 ([(4 : Int)]) :: Res.sl (Ek.int .u8) 5 v14 q7.1 :: Res.sl (Ek.int .u8) 5 v3 q1.1 :: ow)) ?_ ?_
                                  · rcases Bool.eq_false_or_eq_true ((((((((((((((((((q1.1.length : Int) == (0 : Int)) && (q1.2 == (0 : Int))) && (q7.2 == (1 : Int))) && (q19.2 == (1 : Int))) && ((q31.1.length : Int) == (65536 : Int))) && (q31.2 == (0 : Int))) && (q43.2 == (1 : Int))) && (q55.2 == (1 : Int))) && (q67.2 == (1 : Int))) && (q78.2.2 == (1 : Int))) && (q89.2 == (1 : Int))) && (q93.2 == (0 : Int))) && (q97.2 == (1 : Int))) && (q101.1 == (0 : Int))) && (q101.2 == (0 : Int))) && (q106.2 == (1 : Int))) && (q113.1 == (0 : Int))) with hb148 | hb148
                                    · skip
                                      refine st_move hf (wantY hf rfl rfl hb148) rfl (by decide) ?_
                                      clear hf; intro a ha hf; clear ha
                                      refine st_not hf (by decide) (wantY hf rfl rfl hb148) rfl ?_
                                      clear hf; intro a ha hf; clear ha
                                      refine st_pick (v := .bool (!q113.2)) hf rfl rfl (fun hb' => ?_) (fun hb' => ?_) (by decide) ?_
                                      · rfl
                                      · exact absurd (hb148.symm.trans hb') (by decide)
                                      clear hf; intro a ha hf; clear ha
                                      refine st_nil hf (th_n ?_)
                                      exact ⟨hf.sub ⟨(by rw [hb148]; rfl), trivial⟩, hp⟩
                                    · skip
                                      refine st_skip hf (wantN hf rfl rfl hb148) rfl (by decide) ?_ rfl
                                      clear hf; intro a hf
                                      refine st_skip hf (wantN hf rfl rfl hb148) rfl (by decide) ?_ rfl
                                      clear hf; intro a hf
                                      refine st_pick (v := .bool false) hf rfl rfl (fun hb' => ?_) (fun hb' => ?_) (by decide) ?_
                                      · exact absurd (hb148.symm.trans hb') (by decide)
                                      · rfl
                                      clear hf; intro a ha hf; clear ha
                                      refine st_nil hf (th_n ?_)
                                      exact ⟨hf.sub ⟨(by rw [hb148]; rfl), trivial⟩, hp⟩
                                  · rintro a w ⟨hf, hp⟩
                                    refine st_move hf rfl rfl (by decide) ?_
                                    clear hf; intro a ha hf; clear ha
                                    obtain ⟨z151, hz149, h⟩ := bnd h
                                    refine wpList_cut 2 (fun a w => Fr 170 a [(169, .bool z151)] ∧ Hp S w0 w (Res.sl Ek.c128 49 v104 (List.replicate ((1 : Int)).toNat (Fl.bits 0, Fl.bits 0)) :: Res.sl Ek.c128 49 v99 q97.1 :: Res.sl Ek.c128 49 v95 q93.1 :: Res.sl Ek.c128 49 v91 q89.1 :: Res.sl (Ek.int .u8) 5 v76 ([(1 : Int)]) :: Res.sl (Ek.int .u8) 5 v85 q78.1 :: Res.sl Ek.bool 4 v86 q78.2.1 :: Res.sl Ek.bool 4 v65 (mk0 (32770 : Int) false) :: Res.sl (Ek.int .u8) 5 v74 q67.1 :: Res.sl Ek.bool 4 v53 (mk0 (32769 : Int) false) :: Res.sl (Ek.int .u8) 5 v62 q55.1 :: Res.sl (Ek.int .u8) 5 v41 (mk0 (16385 : Int) (0 : Int)) :: Res.sl Ek.bool 4 v50 q43.1 :: Res.sl (Ek.int .u8) 5 v29 (mk0 (65536 : Int) (0 : Int)) :: Res.sl (Ek.int .u8) 5 v38 q31.1 :: Res.sl (Ek.int .u8) 5 v17 (mk0 (65537 : Int) (0 : Int)) :: Res.sl (Ek.int .u8) 5 v26 q19.1 :: Res.sl (Ek.int .u8) 5 v5 ([(4 : Int)]) :: Res.sl (Ek.int .u8) 5 v14 q7.1 :: Res.sl (Ek.int .u8) 5 v3 q1.1 :: ow)) ?_ ?_
                                    · rcases Bool.eq_false_or_eq_true (((((((((((((((((((q1.1.length : Int) == (0 : Int)) && (q1.2 == (0 : Int))) && (q7.2 == (1 : Int))) && (q19.2 == (1 : Int))) && ((q31.1.length : Int) == (65536 : Int))) && (q31.2 == (0 : Int))) && (q43.2 == (1 : Int))) && (q55.2 == (1 : Int))) && (q67.2 == (1 : Int))) && (q78.2.2 == (1 : Int))) && (q89.2 == (1 : Int))) && (q93.2 == (0 : Int))) && (q97.2 == (1 : Int))) && (q101.1 == (0 : Int))) && (q101.2 == (0 : Int))) && (q106.2 == (1 : Int))) && (q113.1 == (0 : Int))) && (!q113.2)) with hb150 | hb150
                                      · skip
                                        replace hz149 := ifT hz149 hb150
                                        obtain ⟨q152, hcall153, hz149⟩ := bnd hz149
                                        refine st_call hf (by decide) Try.func14 rfl rfl (wantY hf rfl rfl hb150) rfl rfl (f_foghornlaw06_awake_c hp  hcall153) ?_
                                        rintro _ w ⟨rfl, hp0⟩
                                        clear hp; have hp := hp0; clear hp0
                                        replace hp : Hp _ _ w (Res.sl Ek.c128 49 v104 (List.replicate ((1 : Int)).toNat (Fl.bits 0, Fl.bits 0)) :: Res.sl Ek.c128 49 v99 q97.1 :: Res.sl Ek.c128 49 v95 q93.1 :: Res.sl Ek.c128 49 v91 q89.1 :: Res.sl (Ek.int .u8) 5 v76 ([(1 : Int)]) :: Res.sl (Ek.int .u8) 5 v85 q78.1 :: Res.sl Ek.bool 4 v86 q78.2.1 :: Res.sl Ek.bool 4 v65 (mk0 (32770 : Int) false) :: Res.sl (Ek.int .u8) 5 v74 q67.1 :: Res.sl Ek.bool 4 v53 (mk0 (32769 : Int) false) :: Res.sl (Ek.int .u8) 5 v62 q55.1 :: Res.sl (Ek.int .u8) 5 v41 (mk0 (16385 : Int) (0 : Int)) :: Res.sl Ek.bool 4 v50 q43.1 :: Res.sl (Ek.int .u8) 5 v29 (mk0 (65536 : Int) (0 : Int)) :: Res.sl (Ek.int .u8) 5 v38 q31.1 :: Res.sl (Ek.int .u8) 5 v17 (mk0 (65537 : Int) (0 : Int)) :: Res.sl (Ek.int .u8) 5 v26 q19.1 :: Res.sl (Ek.int .u8) 5 v5 ([(4 : Int)]) :: Res.sl (Ek.int .u8) 5 v14 q7.1 :: Res.sl (Ek.int .u8) 5 v3 q1.1 :: ow) := hp
                                        refine ⟨_, rfl, ?_⟩
                                        clear hf; intro a hf
                                        obtain rfl := Option.some.inj hz149
                                        refine st_pick (v := .bool q152) hf rfl rfl (fun hb' => ?_) (fun hb' => ?_) (by decide) ?_
                                        · rfl
                                        · exact absurd (hb150.symm.trans hb') (by decide)
                                        clear hf; intro a ha hf; clear ha
                                        refine st_nil hf (th_n ?_)
                                        exact ⟨hf.sub ⟨rfl, trivial⟩, hp⟩
                                      · skip
                                        replace hz149 := ifF hz149 hb150
                                        refine st_skip hf (wantN hf rfl rfl hb150) rfl (by decide) ?_ rfl
                                        clear hf; intro a hf
                                        obtain rfl := Option.some.inj hz149
                                        refine st_pick (v := .bool false) hf rfl rfl (fun hb' => ?_) (fun hb' => ?_) (by decide) ?_
                                        · exact absurd (hb150.symm.trans hb') (by decide)
                                        · rfl
                                        clear hf; intro a ha hf; clear ha
                                        refine st_nil hf (th_n ?_)
                                        exact ⟨hf.sub ⟨rfl, trivial⟩, hp⟩
                                    · rintro a w ⟨hf, hp⟩
                                      refine st_assign hf rfl rfl (by decide) ?_
                                      clear hf; intro a ha hf; clear ha
                                      refine st_nil hf ?_
                                      refine th_n ?_
                                      refine wp_ret ?_
                                      obtain rfl := Option.some.inj h
                                      have hp : Hp _ _ w (ow) := Hp.sel (pre := [Res.sl Ek.c128 49 v104 (List.replicate ((1 : Int)).toNat (Fl.bits 0, Fl.bits 0)), Res.sl Ek.c128 49 v99 q97.1, Res.sl Ek.c128 49 v95 q93.1, Res.sl Ek.c128 49 v91 q89.1, Res.sl (Ek.int .u8) 5 v76 ([(1 : Int)]), Res.sl (Ek.int .u8) 5 v85 q78.1, Res.sl Ek.bool 4 v86 q78.2.1, Res.sl Ek.bool 4 v65 (mk0 (32770 : Int) false), Res.sl (Ek.int .u8) 5 v74 q67.1, Res.sl Ek.bool 4 v53 (mk0 (32769 : Int) false), Res.sl (Ek.int .u8) 5 v62 q55.1, Res.sl (Ek.int .u8) 5 v41 (mk0 (16385 : Int) (0 : Int)), Res.sl Ek.bool 4 v50 q43.1, Res.sl (Ek.int .u8) 5 v29 (mk0 (65536 : Int) (0 : Int)), Res.sl (Ek.int .u8) 5 v38 q31.1, Res.sl (Ek.int .u8) 5 v17 (mk0 (65537 : Int) (0 : Int)), Res.sl (Ek.int .u8) 5 v26 q19.1, Res.sl (Ek.int .u8) 5 v5 ([(4 : Int)]), Res.sl (Ek.int .u8) 5 v14 q7.1, Res.sl (Ek.int .u8) 5 v3 q1.1]) (tail := ow) (rs' := []) hp [] (by decide) (by simp) rfl
                                      exact ⟨rfl, ⟨hf.sub ⟨rfl, trivial⟩, hp⟩⟩

end Go.Proofs.Ytienojgmpjpcjaa
