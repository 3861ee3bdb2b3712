/- The functions foghorn foghornlaw06.TurnsHeard: what each answers, as a plain function, and that its call answers it; printed by gen.py. -/
import Derived.Test.YtienojgmpjpcjaaProg
import Derived.Test.YtienojgmpjpcjaaGlY
import Derived.KernelRfl
import Derived.Test.YtienojgmpjpcjaaG4p1
set_option linter.unusedVariables false
set_option linter.unusedSimpArgs false
set_option maxRecDepth 100000
set_option maxHeartbeats 4000000
namespace Go.Proofs.Ytienojgmpjpcjaa
open GL
noncomputable def f_foghornlaw06_TurnsHeard.j1 (xx0_Lost : (List Bool)) (sx9 : (List ((Fl × Fl) × Bool))) (marks10 : (List Bool)) (i11 : Int) (zx12 : (Fl × Fl)) : Option (((List ((Fl × Fl) × Bool)) × (List Bool) × Int) ⊕ ((List ((Fl × Fl) × Bool)) × (List Bool))) := ((if (decide ((xx0_Lost.length : Int) ≤ i11)) = true then (some true) else (if 0 ≤ i11 ∧ i11 < (xx0_Lost.length : Int) then (some (!(gt xx0_Lost i11))) else none)).bind fun z51 => (if 0 ≤ i11 ∧ i11 < (marks10.length : Int) then (if 0 ≤ i11 ∧ i11 < ((marks10.set (i11).toNat z51).length : Int) then (if (!(gt (marks10.set (i11).toNat z51) i11)) = true then (if (sx9.length + ([((Fl.bits 0, Fl.bits 0), true)]).length) * 24 ≤ 140737488355328 then (some (Sum.inl ((sx9 ++ [((Fl.bits 0, Fl.bits 0), true)]), (marks10.set (i11).toNat z51), (IntKind.i64.wrap (i11 + (1 : Int)))))) else none) else (if (sx9.length + ([(zx12, false)]).length) * 24 ≤ 140737488355328 then (some (Sum.inl ((sx9 ++ [(zx12, false)]), (marks10.set (i11).toNat z51), (IntKind.i64.wrap (i11 + (1 : Int)))))) else none)) else none) else none))
noncomputable def f_foghornlaw06_TurnsHeard.s1c (xx0_Parts : (List (Int × Int))) (xx0_Lost : (List Bool)) (q18 : ((List (Fl × Fl)) × Int)) (sx9 : (List ((Fl × Fl) × Bool))) (marks10 : (List Bool)) (i11 : Int) : Option (((List ((Fl × Fl) × Bool)) × (List Bool) × Int) ⊕ ((List ((Fl × Fl) × Bool)) × (List Bool))) := (if (decide (i11 < (q18.1.length : Int))) = true then (if 0 ≤ i11 ∧ i11 < (q18.1.length : Int) then (if (decide (i11 < (xx0_Parts.length : Int))) = true then (if 0 ≤ i11 ∧ i11 < (xx0_Parts.length : Int) then ((farithS .quo (fofi (((gt xx0_Parts i11).1).tmod (4096 : Int))) (Fl.bits 4661225614328463360)).bind fun q72 => ((farithS .add ((gt q18.1 i11).1) q72).bind fun q74 => (if 0 ≤ i11 ∧ i11 < (xx0_Parts.length : Int) then ((farithS .quo (fofi (((gt xx0_Parts i11).2).tmod (4096 : Int))) (Fl.bits 4661225614328463360)).bind fun q78 => ((farithS .add ((gt q18.1 i11).2) q78).bind fun q80 => (f_foghornlaw06_TurnsHeard.j1 xx0_Lost sx9 marks10 i11 (q74, q80)))) else none))) else none) else (f_foghornlaw06_TurnsHeard.j1 xx0_Lost sx9 marks10 i11 (gt q18.1 i11))) else none) else (some (Sum.inr (sx9, marks10))))
noncomputable def f_foghornlaw06_TurnsHeard.s1 (xx0_Parts : (List (Int × Int))) (xx0_Lost : (List Bool)) (q18 : ((List (Fl × Fl)) × Int)) (s : ((List ((Fl × Fl) × Bool)) × (List Bool) × Int)) : Option (((List ((Fl × Fl) × Bool)) × (List Bool) × Int) ⊕ ((List ((Fl × Fl) × Bool)) × (List Bool))) := f_foghornlaw06_TurnsHeard.s1c xx0_Parts xx0_Lost q18 s.1 s.2.1 s.2.2
noncomputable def f_foghornlaw06_TurnsHeard.s2c (xx0_N : Int) (q3 : (List Int)) (q82 : ((List ((Fl × Fl) × Bool)) × (List Bool))) (q84 : ((List Int) × (List Bool) × Int)) (i16 : Int) : Option (Int ⊕ (Unit ⊕ Bool)) := (if (decide (i16 < (q3.length : Int))) = true then (if 0 ≤ i16 ∧ i16 < (q82.2.length : Int) then ((if (gt q82.2 i16) = true then (if 0 ≤ i16 ∧ i16 < (q84.1.length : Int) then (if 0 ≤ i16 ∧ i16 < (q3.length : Int) then (some ((gt q84.1 i16) != (((IntKind.u8.wrap ((gt q3 i16) + ((xx0_N).tmod (4 : Int))))).tmod (4 : Int)))) else none) else none) else (some false)).bind fun z135 => ((if z135 = true then (some true) else (if 0 ≤ i16 ∧ i16 < (q82.2.length : Int) then ((if (!(gt q82.2 i16)) = true then (if 0 ≤ i16 ∧ i16 < (q84.1.length : Int) then (some ((gt q84.1 i16) != (0 : Int))) else none) else (some false)).bind fun z142 => (some z142)) else none)).bind fun z143 => (if z143 = true then (some (Sum.inr (Sum.inr false))) else (some (Sum.inl (IntKind.i64.wrap (i16 + (1 : Int)))))))) else none) else (some (Sum.inr (Sum.inl ()))))
noncomputable def f_foghornlaw06_TurnsHeard.s2 (xx0_N : Int) (q3 : (List Int)) (q82 : ((List ((Fl × Fl) × Bool)) × (List Bool))) (q84 : ((List Int) × (List Bool) × Int)) (s : Int) : Option (Int ⊕ (Unit ⊕ Bool)) := f_foghornlaw06_TurnsHeard.s2c xx0_N q3 q82 q84 s
noncomputable def f_foghornlaw06_TurnsHeard.s3c (q3 : (List Int)) (q82 : ((List ((Fl × Fl) × Bool)) × (List Bool))) (q147 : ((List Int) × (List Bool) × Int)) (q163 : ((List Int) × Int)) (k22 : Int) : Option (Int ⊕ (Unit ⊕ Bool)) := (if (decide (k22 < (q3.length : Int))) = true then (if 0 ≤ k22 ∧ k22 < (q147.2.1.length : Int) then (if 0 ≤ k22 ∧ k22 < (q82.2.length : Int) then ((if (gt q82.2 k22) = true then (if 0 ≤ (IntKind.i64.wrap (k22 - (1 : Int))) ∧ (IntKind.i64.wrap (k22 - (1 : Int))) < (q82.2.length : Int) then (some (gt q82.2 (IntKind.i64.wrap (k22 - (1 : Int))))) else none) else (some false)).bind fun z209 => ((if ((gt q147.2.1 k22) != z209) = true then (some true) else (if 0 ≤ k22 ∧ k22 < (q147.2.1.length : Int) then ((if (gt q147.2.1 k22) = true then (if 0 ≤ k22 ∧ k22 < (q147.1.length : Int) then (if 0 ≤ k22 ∧ k22 < (q163.1.length : Int) then (some ((gt q147.1 k22) != (gt q163.1 k22))) else none) else none) else (some false)).bind fun z217 => (some z217)) else none)).bind fun z218 => (if z218 = true then (some (Sum.inr (Sum.inr false))) else (some (Sum.inl (IntKind.i64.wrap (k22 + (1 : Int)))))))) else none) else none) else (some (Sum.inr (Sum.inl ()))))
noncomputable def f_foghornlaw06_TurnsHeard.s3 (q3 : (List Int)) (q82 : ((List ((Fl × Fl) × Bool)) × (List Bool))) (q147 : ((List Int) × (List Bool) × Int)) (q163 : ((List Int) × Int)) (s : Int) : Option (Int ⊕ (Unit ⊕ Bool)) := f_foghornlaw06_TurnsHeard.s3c q3 q82 q147 q163 s
noncomputable def f_foghornlaw06_TurnsHeard (xx0_Row : (List Int)) (xx0_Parts : (List (Int × Int))) (xx0_Lost : (List Bool)) (xx0_N : Int) : Option Bool := ((f_foghornlaw06_fit xx0_Row (200 : Int)).bind fun q3 => ((f_turns_Points q3 (Fl.bits 4611686018427387904)).bind fun q7 => (if ((q7.2 != (0 : Int)) || ((q7.1.length : Int) != (q3.length : Int))) = true then (some false) else ((f_turns_Whole q7.1 (IntKind.i64.wrap xx0_N)).bind fun q18 => (if ((q18.2 != (0 : Int)) || ((q18.1.length : Int) != (q7.1.length : Int))) = true then (some false) else (if 0 ≤ (q3.length : Int) ∧ (q3.length : Int) ≤ (q3.length : Int) ∧ (q3.length : Int) * 1 ≤ 281474976710656 then ((loop (f_foghornlaw06_TurnsHeard.s1 xx0_Parts xx0_Lost q18) ([], (List.replicate ((q3.length : Int)).toNat false), (0 : Int))).bind (fun q82 => ((f_turns_Row q82.1).bind fun q84 => ((if ((q84.2.2 != (0 : Int)) || ((q84.1.length : Int) != (q3.length : Int))) = true then (some true) else ((f_foghornlaw06_truths q84.2.1 q82.2).bind fun q100 => (some (!q100)))).bind fun z99 => (if z99 = true then (some false) else ((loop (f_foghornlaw06_TurnsHeard.s2 xx0_N q3 q82 q84) (0 : Int)).bind (fun q144 => sm q144 (fun q145 => ((f_turns_Marked q84.1 q84.2.1).bind fun q147 => ((f_turns_Out q3).bind fun q163 => (if (((((q147.2.2 != (0 : Int)) || (q163.2 != (0 : Int))) || ((q147.1.length : Int) != (q3.length : Int))) || ((q147.2.1.length : Int) != (q3.length : Int))) || ((q163.1.length : Int) != (q3.length : Int))) = true then (some false) else ((loop (f_foghornlaw06_TurnsHeard.s3 q3 q82 q147 q163) (1 : Int)).bind (fun q219 => sm q219 (fun q220 => ((f_turns_Found q7.1 q18.1).bind fun q222 => (if ((q3.length : Int) == (0 : Int)) = true then ((if ((q222.1 == (0 : Int)) && (q222.2 == (0 : Int))) = true then ((f_foghornlaw06_awake).bind fun q239 => (some q239)) else (some false)).bind fun z238 => (some z238)) else ((if ((q222.1 == (IntKind.i64.wrap ((xx0_N).tmod (4 : Int)))) && (q222.2 == (0 : Int))) = true then ((f_foghornlaw06_awake).bind fun q246 => (some q246)) else (some false)).bind fun z245 => (some z245))))) (fun q221 => (some q221)))))))) (fun q146 => (some q146))))))))) else none))))))
theorem f_foghornlaw06_TurnsHeard_c {S : Nat → Prop} {w0 w : World} {ow : List Res} (hp : Hp S w0 w ow) (vxx0_Row : Value) (xx0_Row : (List Int)) (hxx0_Row : RdS (Ek.int .u8) S w0 vxx0_Row xx0_Row) (vxx0_Parts : Value) (xx0_Parts : (List (Int × Int))) (hxx0_Parts : RdS (Ek.pair (Ek.int .i16) (Ek.int .i16)) S w0 vxx0_Parts xx0_Parts) (vxx0_Lost : Value) (xx0_Lost : (List Bool)) (hxx0_Lost : RdS Ek.bool S w0 vxx0_Lost xx0_Lost) (xx0_N : Int) {r : Bool} (h : f_foghornlaw06_TurnsHeard xx0_Row xx0_Parts xx0_Lost xx0_N = some r) :
    Calls Try.prog 6 #[.agg #[vxx0_Row, vxx0_Parts, vxx0_Lost, .int .u8 xx0_N]] w (fun e w' => e = .returned (.bool r) ∧ Hp S w0 w' (ow)) := by
  unfold f_foghornlaw06_TurnsHeard at h
  refine enter (n := 301) (args := [.agg #[vxx0_Row, vxx0_Parts, vxx0_Lost, .int .u8 xx0_N]]) Try.func6 rfl rfl (Nat.le_of_ble_eq_true rfl) fun a hf => ?_
  replace hf : Fr 301 a [(0, .agg #[vxx0_Row, vxx0_Parts, vxx0_Lost, .int .u8 xx0_N])] := hf
  refine wp_mono (Q := fun e a w => e = .ret ∧ Fr 301 a [(2, .bool r)] ∧ Hp S w0 w (ow)) ?_ ?_
  rotate_left
  · rintro e a w ⟨rfl, hf, hp⟩
    exact ret1 hf rfl rfl ⟨rfl, hp⟩
  refine wp_seq ?_
  refine wp_reg ?_
  refine st_boxO (cs := [vxx0_Row, vxx0_Parts, vxx0_Lost, .int .u8 xx0_N]) hf (by decide) hp rfl rfl rfl ?_
  clear hf; intro a w v1 hf hp0; clear hp; have hp := hp0; clear hp0
  replace hp : Hp _ _ _ (Res.obj 63 v1 [vxx0_Row, vxx0_Parts, vxx0_Lost, .int .u8 xx0_N] :: ow) := hp
  refine st_assign hf rfl rfl (by decide) ?_
  clear hf; intro a ha hf; clear ha
  refine st_nil hf ?_
  refine th_n ?_
  refine wp_seq ?_
  refine wp_reg ?_
  refine st_fa (o' := 3) hf (by decide) (off := 3) (sz := 1) (by kernel_rfl) (by decide) rfl rfl (hp.ob (i := 0) rfl) rfl ?_
  clear hf; intro a ha hf; clear ha
  refine st_ldO (u := .int .u8 xx0_N) hf (by decide) pl5 rfl rfl (hp.ob (i := 0) rfl) rfl ?_
  clear hf; intro a ha hf; clear ha
  refine st_assign hf rfl rfl (by decide) ?_
  clear hf; intro a ha hf; clear ha
  refine st_nil hf ?_
  refine th_n ?_
  refine wp_seq ?_
  refine wp_reg ?_
  refine st_fa (o' := 0) hf (by decide) (off := 0) (sz := 1) (by kernel_rfl) (by decide) rfl rfl (hp.ob (i := 0) rfl) rfl ?_
  clear hf; intro a ha hf; clear ha
  refine st_ldO (u := vxx0_Row) hf (by decide) pl22 rfl rfl (hp.ob (i := 0) rfl) rfl ?_
  clear hf; intro a ha hf; clear ha
  obtain ⟨q3, hcall4, h⟩ := bnd h
  refine st_call hf (by decide) Try.func8 rfl rfl rfl rfl rfl (f_foghornlaw06_fit_c hp _ _ hxx0_Row _ hcall4) ?_
  rintro _ w ⟨v5, rfl, hp0⟩
  clear hp; have hp := hp0; clear hp0
  replace hp : Hp _ _ _ (Res.sl (Ek.int .u8) 5 v5 q3 :: Res.obj 63 v1 [vxx0_Row, vxx0_Parts, vxx0_Lost, .int .u8 xx0_N] :: ow) := hp
  refine ⟨_, rfl, ?_⟩
  clear hf; intro a hf
  refine st_assign hf rfl rfl (by decide) ?_
  clear hf; intro a ha hf; clear ha
  refine st_nil hf ?_
  refine th_n ?_
  refine wp_seq ?_
  refine wp_reg ?_
  refine st_move hf rfl rfl (by decide) ?_
  clear hf; intro a ha hf; clear ha
  obtain ⟨q7, hcall8, h⟩ := bnd h
  obtain ⟨S9, hp10, rd11, up12, bk13⟩ := Hp.lendS hp (i := 0) rfl
  refine st_call hf (by decide) Try.func20 rfl rfl rfl rfl rfl (f_turns_Points_c hp10 _ _ rd11 _ _ (show Fl.rep 4611686018427387904 (Fl.bits 4611686018427387904) from rfl) hcall8) ?_
  rintro _ w ⟨v14, rfl, hp0⟩
  have hp0 := bk13 _ _ hp0
  clear hp; have hp := hp0; clear hp0
  replace hp : Hp _ _ _ (Res.sl (Ek.int .u8) 5 v5 q3 :: Res.sl Ek.c128 49 v14 q7.1 :: Res.obj 63 v1 [vxx0_Row, vxx0_Parts, vxx0_Lost, .int .u8 xx0_N] :: ow) := hp
  refine ⟨_, rfl, ?_⟩
  clear hf; intro a hf
  refine st_move hf rfl rfl (by decide) ?_
  clear hf; intro a ha hf; clear ha
  refine st_extract hf (by decide) rfl rfl rfl ?_
  clear hf; intro a ha hf; clear ha
  refine st_extract hf (by decide) rfl rfl rfl ?_
  clear hf; intro a ha hf; clear ha
  refine st_assign hf rfl rfl (by decide) ?_
  clear hf; intro a ha hf; clear ha
  refine st_assign hf rfl rfl (by decide) ?_
  clear hf; intro a ha hf; clear ha
  refine st_nil hf ?_
  refine th_n ?_
  refine wp_seq ?_
  refine wp_seq ?_
  refine wp_reg ?_
  refine st_move hf rfl rfl (by decide) ?_
  clear hf; intro a ha hf; clear ha
  refine st_ineq hf (by decide) rfl rfl rfl ?_
  clear hf; intro a ha hf; clear ha
  refine st_move hf rfl rfl (by decide) ?_
  clear hf; intro a ha hf; clear ha
  refine wpList_cut 6 (fun a w => Fr 301 a [(1, optr v1 0), (3, .int .u8 xx0_N), (4, v5), (5, v14), (43, .bool ((q7.2 != (0 : Int)) || ((q7.1.length : Int) != (q3.length : Int))))] ∧ Hp S w0 w (Res.sl (Ek.int .u8) 5 v5 q3 :: Res.sl Ek.c128 49 v14 q7.1 :: Res.obj 63 v1 [vxx0_Row, vxx0_Parts, vxx0_Lost, .int .u8 xx0_N] :: ow)) ?_ ?_
  · rcases Bool.eq_false_or_eq_true (q7.2 != (0 : Int)) with hb17 | hb17
    · skip
      refine st_skip hf (wantN hf rfl rfl hb17) rfl (by decide) ?_ rfl
      clear hf; intro a hf
      refine st_skip hf (wantN hf rfl rfl hb17) rfl (by decide) ?_ rfl
      clear hf; intro a hf
      refine st_skip hf (wantN hf rfl rfl hb17) rfl (by decide) ?_ rfl
      clear hf; intro a hf
      refine st_skip hf (wantN hf rfl rfl hb17) rfl (by decide) ?_ rfl
      clear hf; intro a hf
      refine st_skip hf (wantN hf rfl rfl hb17) rfl (by decide) ?_ rfl
      clear hf; intro a hf
      refine st_pick (v := .bool true) hf rfl rfl (fun hb' => ?_) (fun hb' => ?_) (by decide) ?_
      · rfl
      · exact absurd (hb17.symm.trans hb') (by decide)
      clear hf; intro a ha hf; clear ha
      refine st_nil hf (th_n ?_)
      exact ⟨hf.sub ⟨rfl, rfl, rfl, rfl, (by rw [hb17]; rfl), trivial⟩, hp⟩
    refine st_move hf (wantY hf rfl rfl hb17) rfl (by decide) ?_
    clear hf; intro a ha hf; clear ha
    refine st_len (E := Ek.c128) hf (by decide) Try.underlying44 (wantY hf rfl rfl hb17) rfl (hp.sl (i := 1) rfl) ?_
    clear hf; intro a ha hf; clear ha
    refine st_move hf (wantY hf rfl rfl hb17) rfl (by decide) ?_
    clear hf; intro a ha hf; clear ha
    refine st_len (E := (Ek.int .u8)) hf (by decide) Try.underlying22 (wantY hf rfl rfl hb17) rfl (hp.sl (i := 0) rfl) ?_
    clear hf; intro a ha hf; clear ha
    refine st_ineq hf (by decide) (wantY hf rfl rfl hb17) rfl rfl ?_
    clear hf; intro a ha hf; clear ha
    refine st_pick (v := .bool ((q7.1.length : Int) != (q3.length : Int))) hf rfl rfl (fun hb' => ?_) (fun hb' => ?_) (by decide) ?_
    · exact absurd (hb17.symm.trans hb') (by decide)
    · rfl
    clear hf; intro a ha hf; clear ha
    refine st_nil hf (th_n ?_)
    exact ⟨hf.sub ⟨rfl, rfl, rfl, rfl, (by rw [hb17]; rfl), trivial⟩, hp⟩
  rintro a w ⟨hf, hp⟩
  refine st_nil hf ?_
  refine th_n ?_
  refine wp_if hf rfl (fun hb => ?_) (fun hb => ?_)
  · replace h := ifT h hb
    refine wp_seq ?_
    refine wp_reg ?_
    refine st_assign hf rfl rfl (by decide) ?_
    clear hf; intro a ha hf; clear ha
    refine st_nil hf ?_
    refine th_n ?_
    refine wp_ret ?_
    refine th_r ?_
    obtain rfl := Option.some.inj h
    have hp : Hp _ _ _ (ow) := Hp.sel (pre := [Res.sl (Ek.int .u8) 5 v5 q3, Res.sl Ek.c128 49 v14 q7.1, Res.obj 63 v1 [vxx0_Row, vxx0_Parts, vxx0_Lost, .int .u8 xx0_N]]) (tail := ow) (rs' := []) hp [] (by decide) (by simp) rfl
    exact ⟨rfl, ⟨hf.sub ⟨rfl, trivial⟩, hp⟩⟩
  replace h := ifF h hb
  refine wp_skip ?_
  refine th_n ?_
  refine wp_seq ?_
  refine wp_reg ?_
  refine st_move hf rfl rfl (by decide) ?_
  clear hf; intro a ha hf; clear ha
  refine st_move hf rfl rfl (by decide) ?_
  clear hf; intro a ha hf; clear ha
  refine st_conv_ii hf (by decide) (by rw [Try.underlying5]; rfl) Try.underlying3 rfl rfl ?_
  clear hf; intro a ha hf; clear ha
  obtain ⟨q18, hcall19, h⟩ := bnd h
  obtain ⟨S20, hp21, rd22, up23, bk24⟩ := Hp.lendS hp (i := 1) rfl
  refine st_call hf (by decide) Try.func28 rfl rfl rfl rfl rfl (f_turns_Whole_c hp21 _ _ rd22 _ hcall19) ?_
  rintro _ w ⟨v25, rfl, hp0⟩
  have hp0 := bk24 _ _ hp0
  clear hp; have hp := hp0; clear hp0
  replace hp : Hp _ _ _ (Res.sl Ek.c128 49 v14 q7.1 :: Res.sl Ek.c128 49 v25 q18.1 :: Res.sl (Ek.int .u8) 5 v5 q3 :: Res.obj 63 v1 [vxx0_Row, vxx0_Parts, vxx0_Lost, .int .u8 xx0_N] :: ow) := hp
  refine ⟨_, rfl, ?_⟩
  clear hf; intro a hf
  refine st_move hf rfl rfl (by decide) ?_
  clear hf; intro a ha hf; clear ha
  refine st_extract hf (by decide) rfl rfl rfl ?_
  clear hf; intro a ha hf; clear ha
  refine st_extract hf (by decide) rfl rfl rfl ?_
  clear hf; intro a ha hf; clear ha
  refine st_assign hf rfl rfl (by decide) ?_
  clear hf; intro a ha hf; clear ha
  refine st_assign hf rfl rfl (by decide) ?_
  clear hf; intro a ha hf; clear ha
  refine st_nil hf ?_
  refine th_n ?_
  refine wp_seq ?_
  refine wp_seq ?_
  refine wp_reg ?_
  refine st_move hf rfl rfl (by decide) ?_
  clear hf; intro a ha hf; clear ha
  refine st_ineq hf (by decide) rfl rfl rfl ?_
  clear hf; intro a ha hf; clear ha
  refine st_move hf rfl rfl (by decide) ?_
  clear hf; intro a ha hf; clear ha
  refine wpList_cut 6 (fun a w => Fr 301 a [(1, optr v1 0), (3, .int .u8 xx0_N), (4, v5), (5, v14), (7, v25), (59, .bool ((q18.2 != (0 : Int)) || ((q18.1.length : Int) != (q7.1.length : Int))))] ∧ Hp S w0 w (Res.sl Ek.c128 49 v14 q7.1 :: Res.sl Ek.c128 49 v25 q18.1 :: Res.sl (Ek.int .u8) 5 v5 q3 :: Res.obj 63 v1 [vxx0_Row, vxx0_Parts, vxx0_Lost, .int .u8 xx0_N] :: ow)) ?_ ?_
  · rcases Bool.eq_false_or_eq_true (q18.2 != (0 : Int)) with hb28 | hb28
    · skip
      refine st_skip hf (wantN hf rfl rfl hb28) rfl (by decide) ?_ rfl
      clear hf; intro a hf
      refine st_skip hf (wantN hf rfl rfl hb28) rfl (by decide) ?_ rfl
      clear hf; intro a hf
      refine st_skip hf (wantN hf rfl rfl hb28) rfl (by decide) ?_ rfl
      clear hf; intro a hf
      refine st_skip hf (wantN hf rfl rfl hb28) rfl (by decide) ?_ rfl
      clear hf; intro a hf
      refine st_skip hf (wantN hf rfl rfl hb28) rfl (by decide) ?_ rfl
      clear hf; intro a hf
      refine st_pick (v := .bool true) hf rfl rfl (fun hb' => ?_) (fun hb' => ?_) (by decide) ?_
      · rfl
      · exact absurd (hb28.symm.trans hb') (by decide)
      clear hf; intro a ha hf; clear ha
      refine st_nil hf (th_n ?_)
      exact ⟨hf.sub ⟨rfl, rfl, rfl, rfl, rfl, (by rw [hb28]; rfl), trivial⟩, hp⟩
    refine st_move hf (wantY hf rfl rfl hb28) rfl (by decide) ?_
    clear hf; intro a ha hf; clear ha
    refine st_len (E := Ek.c128) hf (by decide) Try.underlying44 (wantY hf rfl rfl hb28) rfl (hp.sl (i := 1) rfl) ?_
    clear hf; intro a ha hf; clear ha
    refine st_move hf (wantY hf rfl rfl hb28) rfl (by decide) ?_
    clear hf; intro a ha hf; clear ha
    refine st_len (E := Ek.c128) hf (by decide) Try.underlying44 (wantY hf rfl rfl hb28) rfl (hp.sl (i := 0) rfl) ?_
    clear hf; intro a ha hf; clear ha
    refine st_ineq hf (by decide) (wantY hf rfl rfl hb28) rfl rfl ?_
    clear hf; intro a ha hf; clear ha
    refine st_pick (v := .bool ((q18.1.length : Int) != (q7.1.length : Int))) hf rfl rfl (fun hb' => ?_) (fun hb' => ?_) (by decide) ?_
    · exact absurd (hb28.symm.trans hb') (by decide)
    · rfl
    clear hf; intro a ha hf; clear ha
    refine st_nil hf (th_n ?_)
    exact ⟨hf.sub ⟨rfl, rfl, rfl, rfl, rfl, (by rw [hb28]; rfl), trivial⟩, hp⟩
  rintro a w ⟨hf, hp⟩
  refine st_nil hf ?_
  refine th_n ?_
  refine wp_if hf rfl (fun hb => ?_) (fun hb => ?_)
  · replace h := ifT h hb
    refine wp_seq ?_
    refine wp_reg ?_
    refine st_assign hf rfl rfl (by decide) ?_
    clear hf; intro a ha hf; clear ha
    refine st_nil hf ?_
    refine th_n ?_
    refine wp_ret ?_
    refine th_r ?_
    obtain rfl := Option.some.inj h
    have hp : Hp _ _ _ (ow) := Hp.sel (pre := [Res.sl Ek.c128 49 v14 q7.1, Res.sl Ek.c128 49 v25 q18.1, Res.sl (Ek.int .u8) 5 v5 q3, Res.obj 63 v1 [vxx0_Row, vxx0_Parts, vxx0_Lost, .int .u8 xx0_N]]) (tail := ow) (rs' := []) hp [] (by decide) (by simp) rfl
    exact ⟨rfl, ⟨hf.sub ⟨rfl, trivial⟩, hp⟩⟩
  replace h := ifF h hb
  refine wp_skip ?_
  refine th_n ?_
  refine wp_seq ?_
  refine wp_reg ?_
  refine st_assign hf rfl rfl (by decide) ?_
  clear hf; intro a ha hf; clear ha
  refine st_nil hf ?_
  refine th_n ?_
  refine wp_seq ?_
  refine wp_reg ?_
  refine st_move hf rfl rfl (by decide) ?_
  clear hf; intro a ha hf; clear ha
  refine st_len (E := (Ek.int .u8)) hf (by decide) Try.underlying22 rfl rfl (hp.sl (i := 2) rfl) ?_
  clear hf; intro a ha hf; clear ha
  obtain ⟨hc29, h⟩ := chk h
  refine st_make (E := Ek.bool) hf (by decide) elt4 Try.underlying27 (by decide) hp rfl rfl rfl hc29.1 hc29.2.1 hc29.2.2 ?_
  clear hf; intro a w v30 hf hp0; clear hp; have hp := hp0; clear hp0
  replace hp : Hp _ _ _ (Res.sl Ek.bool 4 v30 (List.replicate ((q3.length : Int)).toNat false) :: Res.sl Ek.c128 49 v14 q7.1 :: Res.sl Ek.c128 49 v25 q18.1 :: Res.sl (Ek.int .u8) 5 v5 q3 :: Res.obj 63 v1 [vxx0_Row, vxx0_Parts, vxx0_Lost, .int .u8 xx0_N] :: ow) := hp
  refine st_assign hf rfl rfl (by decide) ?_
  clear hf; intro a ha hf; clear ha
  refine st_nil hf ?_
  refine th_n ?_
  refine wp_seq ?_
  refine wp_seq ?_
  refine wp_reg ?_
  refine st_assign hf rfl rfl (by decide) ?_
  clear hf; intro a ha hf; clear ha
  refine st_nil hf ?_
  refine th_n ?_
  refine wp_block ?_
  obtain ⟨q82, hl, h⟩ := bnd h
  have hp := hp.nil (Ek.pair Ek.c128 Ek.bool) 51
  have hp : Hp _ _ _ (Res.sl (Ek.pair Ek.c128 Ek.bool) 51 (.slice none 0 0) ([]) :: Res.sl Ek.bool 4 v30 (List.replicate ((q3.length : Int)).toNat false) :: Res.obj 63 v1 [vxx0_Row, vxx0_Parts, vxx0_Lost, .int .u8 xx0_N] :: Res.sl (Ek.int .u8) 5 v5 q3 :: Res.sl Ek.c128 49 v14 q7.1 :: Res.sl Ek.c128 49 v25 q18.1 :: ow) := Hp.sel (pre := [Res.sl (Ek.pair Ek.c128 Ek.bool) 51 (.slice none 0 0) ([]), Res.sl Ek.bool 4 v30 (List.replicate ((q3.length : Int)).toNat false), Res.sl Ek.c128 49 v14 q7.1, Res.sl Ek.c128 49 v25 q18.1, Res.sl (Ek.int .u8) 5 v5 q3, Res.obj 63 v1 [vxx0_Row, vxx0_Parts, vxx0_Lost, .int .u8 xx0_N]]) (tail := ow) (rs' := [Res.sl (Ek.pair Ek.c128 Ek.bool) 51 (.slice none 0 0) ([]), Res.sl Ek.bool 4 v30 (List.replicate ((q3.length : Int)).toNat false), Res.obj 63 v1 [vxx0_Row, vxx0_Parts, vxx0_Lost, .int .u8 xx0_N], Res.sl (Ek.int .u8) 5 v5 q3, Res.sl Ek.c128 49 v14 q7.1, Res.sl Ek.c128 49 v25 q18.1]) hp [0, 1, 5, 4, 2, 3] (by decide) (by simp) rfl
  refine wp_loop_pure (f := (f_foghornlaw06_TurnsHeard.s1 xx0_Parts xx0_Lost q18)) (s := ([], (List.replicate ((q3.length : Int)).toNat false), (0 : Int))) (fun s a w => ∃ (v32 : Value) (v34 : Value), Fr 301 a [(1, optr v1 0), (3, .int .u8 xx0_N), (4, v5), (5, v14), (7, v25), (9, v32), (10, v34), (11, .int .i64 s.2.2)] ∧ Hp S w0 w (Res.sl (Ek.pair Ek.c128 Ek.bool) 51 v32 s.1 :: Res.sl Ek.bool 4 v34 s.2.1 :: Res.obj 63 v1 [vxx0_Row, vxx0_Parts, vxx0_Lost, .int .u8 xx0_N] :: Res.sl (Ek.int .u8) 5 v5 q3 :: Res.sl Ek.c128 49 v14 q7.1 :: Res.sl Ek.c128 49 v25 q18.1 :: ow)) (fun q e a w => e = .exit 0 ∧ ∃ (v36 : Value) (v38 : Value), Fr 301 a [(3, .int .u8 xx0_N), (4, v5), (5, v14), (7, v25), (9, v36), (10, v38)] ∧ Hp S w0 w (Res.sl (Ek.pair Ek.c128 Ek.bool) 51 v36 q.1 :: Res.sl Ek.bool 4 v38 q.2 :: Res.sl (Ek.int .u8) 5 v5 q3 :: Res.sl Ek.c128 49 v14 q7.1 :: Res.sl Ek.c128 49 v25 q18.1 :: ow)) ?_ hl ⟨_, _, hf.sub ⟨rfl, rfl, rfl, rfl, rfl, rfl, rfl, rfl, trivial⟩, hp⟩ ?_
  · clear hl hf hp
    intro s x a w h hI
    obtain ⟨sx9, marks10, i11⟩ := s
    obtain ⟨v32, v34, hf, hp⟩ : ∃ (v32 : Value) (v34 : Value), Fr 301 a [(1, optr v1 0), (3, .int .u8 xx0_N), (4, v5), (5, v14), (7, v25), (9, v32), (10, v34), (11, .int .i64 i11)] ∧ Hp S w0 w (Res.sl (Ek.pair Ek.c128 Ek.bool) 51 v32 sx9 :: Res.sl Ek.bool 4 v34 marks10 :: Res.obj 63 v1 [vxx0_Row, vxx0_Parts, vxx0_Lost, .int .u8 xx0_N] :: Res.sl (Ek.int .u8) 5 v5 q3 :: Res.sl Ek.c128 49 v14 q7.1 :: Res.sl Ek.c128 49 v25 q18.1 :: ow) := hI
    replace h : f_foghornlaw06_TurnsHeard.s1c xx0_Parts xx0_Lost q18 sx9 marks10 i11 = some x := h
    unfold f_foghornlaw06_TurnsHeard.s1c at h
    refine wp_seq ?_
    refine wp_seq ?_
    refine wp_reg ?_
    refine st_move hf rfl rfl (by decide) ?_
    clear hf; intro a ha hf; clear ha
    refine st_move hf rfl rfl (by decide) ?_
    clear hf; intro a ha hf; clear ha
    refine st_len (E := Ek.c128) hf (by decide) Try.underlying44 rfl rfl (hp.sl (i := 5) rfl) ?_
    clear hf; intro a ha hf; clear ha
    refine st_ilss hf (by decide) rfl rfl rfl ?_
    clear hf; intro a ha hf; clear ha
    refine st_nil hf ?_
    refine th_n ?_
    refine wp_if hf rfl (fun hb => ?_) (fun hb => ?_)
    · replace h := ifT h hb
      refine wp_skip ?_
      refine th_n ?_
      refine wp_seq ?_
      refine wp_block ?_
      refine wp_seq ?_
      refine wp_reg ?_
      refine st_move hf rfl rfl (by decide) ?_
      clear hf; intro a ha hf; clear ha
      refine st_move hf rfl rfl (by decide) ?_
      clear hf; intro a ha hf; clear ha
      obtain ⟨hc40, h⟩ := chk h
      refine st_index (E := Ek.c128) hf (by decide) Try.underlying44 elt49 rfl rfl rfl (hp.sl (i := 5) rfl) hc40.1 hc40.2 ?_
      clear hf; intro a ha hf; clear ha
      refine st_ldC hf (by decide) pl49 rfl rfl (hp.sl (i := 5) rfl) hc40.1 hc40.2 ?_
      clear hf; intro a bb41 bb42 y43 y44 ha hf; clear ha
      refine st_assign hf rfl rfl (by decide) ?_
      clear hf; intro a ha hf; clear ha
      refine st_nil hf ?_
      refine th_n ?_
      refine wp_seq_cut (fun a w => ∃ (zx12 : (Fl × Fl)) (bb45 : Nat) (bb46 : Nat), f_foghornlaw06_TurnsHeard.j1 xx0_Lost sx9 marks10 i11 zx12 = some x ∧ Fr 301 a [(1, optr v1 0), (3, .int .u8 xx0_N), (4, v5), (5, v14), (7, v25), (9, v32), (10, v34), (11, .int .i64 i11), (12, .complex .f64 bb45 bb46)] ∧ Fl.rep bb45 zx12.1 ∧ Fl.rep bb46 zx12.2 ∧ Hp S w0 w (Res.obj 63 v1 [vxx0_Row, vxx0_Parts, vxx0_Lost, .int .u8 xx0_N] :: Res.sl (Ek.int .u8) 5 v5 q3 :: Res.sl Ek.c128 49 v14 q7.1 :: Res.sl Ek.c128 49 v25 q18.1 :: Res.sl (Ek.pair Ek.c128 Ek.bool) 51 v32 sx9 :: Res.sl Ek.bool 4 v34 marks10 :: ow)) ?_ ?_
      · skip
        refine wp_seq ?_
        refine wp_reg ?_
        refine st_move hf rfl rfl (by decide) ?_
        clear hf; intro a ha hf; clear ha
        refine st_fa (o' := 1) hf (by decide) (off := 1) (sz := 1) (by kernel_rfl) (by decide) rfl rfl (hp.ob (i := 2) rfl) rfl ?_
        clear hf; intro a ha hf; clear ha
        refine st_ldO (u := vxx0_Parts) hf (by decide) pl61 rfl rfl (hp.ob (i := 2) rfl) rfl ?_
        clear hf; intro a ha hf; clear ha
        refine st_len (E := (Ek.pair (Ek.int .i16) (Ek.int .i16))) hf (by decide) Try.underlying61 rfl rfl (hxx0_Parts.sl hp) ?_
        clear hf; intro a ha hf; clear ha
        refine st_ilss hf (by decide) rfl rfl rfl ?_
        clear hf; intro a ha hf; clear ha
        refine st_nil hf ?_
        refine th_n ?_
        refine wp_if hf rfl (fun hb => ?_) (fun hb => ?_)
        · replace h := ifT h hb
          obtain ⟨S63, hp64, rd65, up66, bk67⟩ := Hp.lendO hp (i := 2) rfl
          have rl68 := rd65
          have rl69 := ((hxx0_Parts.now hp).mono up66)
          obtain ⟨hc70, h⟩ := chk h
          have hc71 : 0 ≤ (0 : Int) ∧ (0 : Int) < (2 : Int) := by decide
          obtain ⟨q72, hq73, h⟩ := bnd h
          obtain ⟨q74, hq75, h⟩ := bnd h
          obtain ⟨hc76, h⟩ := chk h
          have hc77 : 0 ≤ (1 : Int) ∧ (1 : Int) < (2 : Int) := by decide
          obtain ⟨q78, hq79, h⟩ := bnd h
          obtain ⟨q80, hq81, h⟩ := bnd h
          refine wp_cutN (fun a w => Fr 301 a [(1, optr v1 0), (3, .int .u8 xx0_N), (4, v5), (5, v14), (7, v25), (9, v32), (10, v34), (11, .int .i64 i11), (12, .complex .f64 (flb q74) (flb q80))] ∧ Hp S w0 w (Res.obj 63 v1 [vxx0_Row, vxx0_Parts, vxx0_Lost, .int .u8 xx0_N] :: Res.sl (Ek.pair Ek.c128 Ek.bool) 51 v32 sx9 :: Res.sl Ek.bool 4 v34 marks10 :: Res.sl (Ek.int .u8) 5 v5 q3 :: Res.sl Ek.c128 49 v14 q7.1 :: Res.sl Ek.c128 49 v25 q18.1 :: ow)) ?_ ?_
          · have hp := hp64.same (Same.drew w)
            refine dr_begin' (fun a w => Fr 301 a [(1, optr v1 0), (3, .int .u8 xx0_N), (4, v5), (5, v14), (7, v25), (9, v32), (10, v34), (11, .int .i64 i11), (12, .complex .f64 (flb q74) (flb q80))] ∧ Hp S w0 w (Res.obj 63 v1 [vxx0_Row, vxx0_Parts, vxx0_Lost, .int .u8 xx0_N] :: Res.sl (Ek.pair Ek.c128 Ek.bool) 51 v32 sx9 :: Res.sl Ek.bool 4 v34 marks10 :: Res.sl (Ek.int .u8) 5 v5 q3 :: Res.sl Ek.c128 49 v14 q7.1 :: Res.sl Ek.c128 49 v25 q18.1 :: ow)) (fun w' => ∃ l, Hp S63 w w' l) [] (by kernel_rfl) ?_
            refine dr_take 0 (.complex .f64 bb41 bb42) rfl (by kernel_rfl) (by kernel_rfl) (by kernel_rfl) (by kernel_rfl) rfl rfl hf (by decide) rfl (fun w hp => ?_) ⟨_, hp⟩ ?_
            · obtain ⟨_, hp⟩ := hp
              refine st_move hf rfl rfl (by decide) ?_
              clear hf; intro a ha hf
              exact st_nil hf (th_n ⟨ha, rfl⟩)
            clear hf; intro a hf
            refine dr_take 1 (.float .f64 bb41) rfl (by kernel_rfl) (by kernel_rfl) (by kernel_rfl) (by kernel_rfl) rfl rfl hf (by decide) rfl (fun w hp => ?_) ⟨_, hp⟩ ?_
            · obtain ⟨_, hp⟩ := hp
              refine st_real hf (by decide) rfl rfl ?_
              clear hf; intro a ha hf
              exact st_nil hf (th_n ⟨ha, rfl⟩)
            clear hf; intro a hf
            refine dr_take 2 (optr v1 1) rfl (by kernel_rfl) (by kernel_rfl) (by kernel_rfl) (by kernel_rfl) rfl rfl hf (by decide) rfl (fun w hp => ?_) ⟨_, hp⟩ ?_
            · obtain ⟨_, hp⟩ := hp
              refine st_fa (o' := 1) hf (by decide) (off := 1) (sz := 1) (by kernel_rfl) (by decide) rfl rfl (rl68.ob hp) rfl ?_
              clear hf; intro a ha hf
              exact st_nil hf (th_n ⟨ha, rfl⟩)
            clear hf; intro a hf
            refine dr_take 3 (vxx0_Parts) rfl (by kernel_rfl) (by kernel_rfl) (by kernel_rfl) (by kernel_rfl) rfl rfl hf (by decide) rfl (fun w hp => ?_) ⟨_, hp⟩ ?_
            · obtain ⟨_, hp⟩ := hp
              refine st_ldO (u := vxx0_Parts) hf (by decide) pl61 rfl rfl (rl68.ob hp) rfl ?_
              clear hf; intro a ha hf
              exact st_nil hf (th_n ⟨ha, rfl⟩)
            clear hf; intro a hf
            refine dr_take 4 (.int .i64 i11) rfl (by kernel_rfl) (by kernel_rfl) (by kernel_rfl) (by kernel_rfl) rfl rfl hf (by decide) rfl (fun w hp => ?_) ⟨_, hp⟩ ?_
            · obtain ⟨_, hp⟩ := hp
              refine st_move hf rfl rfl (by decide) ?_
              clear hf; intro a ha hf
              exact st_nil hf (th_n ⟨ha, rfl⟩)
            clear hf; intro a hf
            refine dr_take 5 (eptr vxx0_Parts i11 2) rfl (by kernel_rfl) (by kernel_rfl) (by kernel_rfl) (by kernel_rfl) rfl rfl hf (by decide) rfl (fun w hp => ?_) ⟨_, hp⟩ ?_
            · obtain ⟨_, hp⟩ := hp
              refine st_index (E := (Ek.pair (Ek.int .i16) (Ek.int .i16))) hf (by decide) Try.underlying61 elt65 rfl rfl rfl (rl69.sl hp) hc70.1 hc70.2 ?_
              clear hf; intro a ha hf
              exact st_nil hf (th_n ⟨ha, rfl⟩)
            clear hf; intro a hf
            refine dr_take 6 (optr (eptr vxx0_Parts i11 2) (((0 : Int)).toNat * 1)) rfl (by kernel_rfl) (by kernel_rfl) (by kernel_rfl) (by kernel_rfl) rfl rfl hf (by decide) rfl (fun w hp => ?_) ⟨_, hp⟩ ?_
            · obtain ⟨_, hp⟩ := hp
              refine st_iaP (sz := 1) hf (by decide) Try.underlying65 (by kernel_rfl) rfl rfl rfl (Sl.isP (rl69.sl hp) hc70.1 hc70.2) hc71.1 hc71.2 ?_
              clear hf; intro a ha hf
              exact st_nil hf (th_n ⟨ha, rfl⟩)
            clear hf; intro a hf
            refine dr_take 7 (.int .i16 ((gt xx0_Parts i11).1)) rfl (by kernel_rfl) (by kernel_rfl) (by kernel_rfl) (by kernel_rfl) rfl rfl hf (by decide) rfl (fun w hp => ?_) ⟨_, hp⟩ ?_
            · obtain ⟨_, hp⟩ := hp
              refine st_ldQ (F := (Ek.int .i16)) (yv := (gt xx0_Parts i11).1) hf (by decide) pl64 (fun x => .int .i16 x) (fun _ _ h => h) rfl rfl (Sl.part (E := (Ek.pair (Ek.int .i16) (Ek.int .i16))) (F := (Ek.int .i16)) (o := ((0 : Int)).toNat * 1) (Sub.fst (E := (Ek.int .i16)) (F := (Ek.int .i16))) (rl69.sl hp) hc70.1 hc70.2) ?_
              clear hf; intro a ha hf
              exact st_nil hf (th_n ⟨ha, rfl⟩)
            clear hf; intro a hf
            refine dr_take 8 (.int .i16 (((gt xx0_Parts i11).1).tmod (4096 : Int))) rfl (by kernel_rfl) (by kernel_rfl) (by kernel_rfl) (by kernel_rfl) rfl rfl hf (by decide) rfl (fun w hp => ?_) ⟨_, hp⟩ ?_
            · obtain ⟨_, hp⟩ := hp
              refine st_irem hf (by decide) rfl rfl rfl (by decide) ?_
              clear hf; intro a ha hf
              exact st_nil hf (th_n ⟨ha, rfl⟩)
            clear hf; intro a hf
            refine dr_take 9 (.float .f64 (FloatKind.f64.nearest (((gt xx0_Parts i11).1).tmod (4096 : Int)))) rfl (by kernel_rfl) (by kernel_rfl) (by kernel_rfl) (by kernel_rfl) rfl rfl hf (by decide) rfl (fun w hp => ?_) ⟨_, hp⟩ ?_
            · obtain ⟨_, hp⟩ := hp
              refine st_conv_if Try.underlying64 Try.underlying37 hf (by decide) rfl rfl ?_
              clear hf; intro a ha hf
              exact st_nil hf (th_n ⟨ha, rfl⟩)
            clear hf; intro a hf
            refine dr_take 10 (.float .f64 (flb q72)) rfl (by kernel_rfl) (by kernel_rfl) (by kernel_rfl) (by kernel_rfl) rfl rfl hf (by decide) rfl (fun w hp => ?_) ⟨_, hp⟩ ?_
            · obtain ⟨_, hp⟩ := hp
              refine st_fs (op := .quo) rfl hf (by decide) rfl rfl rfl (show Fl.rep (FloatKind.f64.nearest (((gt xx0_Parts i11).1).tmod (4096 : Int))) (fofi (((gt xx0_Parts i11).1).tmod (4096 : Int))) from rfl) (show Fl.rep 4661225614328463360 (Fl.bits 4661225614328463360) from rfl) hq73 ?_
              clear hf; intro a ha hf
              exact st_nil hf (th_n ⟨ha, rfl⟩)
            clear hf; intro a hf
            refine dr_take 11 (.float .f64 (flb q74)) rfl (by kernel_rfl) (by kernel_rfl) (by kernel_rfl) (by kernel_rfl) rfl rfl hf (by decide) rfl (fun w hp => ?_) ⟨_, hp⟩ ?_
            · obtain ⟨_, hp⟩ := hp
              refine st_fs (op := .add) rfl hf (by decide) rfl rfl rfl (show Fl.rep bb41 ((gt q18.1 i11).1) from y43) (show Fl.rep (flb q72) q72 from (farithS_rep hq73)) hq75 ?_
              clear hf; intro a ha hf
              exact st_nil hf (th_n ⟨ha, rfl⟩)
            clear hf; intro a hf
            refine dr_take 12 (.complex .f64 bb41 bb42) rfl (by kernel_rfl) (by kernel_rfl) (by kernel_rfl) (by kernel_rfl) rfl rfl hf (by decide) rfl (fun w hp => ?_) ⟨_, hp⟩ ?_
            · obtain ⟨_, hp⟩ := hp
              refine st_move hf rfl rfl (by decide) ?_
              clear hf; intro a ha hf
              exact st_nil hf (th_n ⟨ha, rfl⟩)
            clear hf; intro a hf
            refine dr_take 13 (.float .f64 bb42) rfl (by kernel_rfl) (by kernel_rfl) (by kernel_rfl) (by kernel_rfl) rfl rfl hf (by decide) rfl (fun w hp => ?_) ⟨_, hp⟩ ?_
            · obtain ⟨_, hp⟩ := hp
              refine st_imag hf (by decide) rfl rfl ?_
              clear hf; intro a ha hf
              exact st_nil hf (th_n ⟨ha, rfl⟩)
            clear hf; intro a hf
            refine dr_take 14 (optr v1 1) rfl (by kernel_rfl) (by kernel_rfl) (by kernel_rfl) (by kernel_rfl) rfl rfl hf (by decide) rfl (fun w hp => ?_) ⟨_, hp⟩ ?_
            · obtain ⟨_, hp⟩ := hp
              refine st_fa (o' := 1) hf (by decide) (off := 1) (sz := 1) (by kernel_rfl) (by decide) rfl rfl (rl68.ob hp) rfl ?_
              clear hf; intro a ha hf
              exact st_nil hf (th_n ⟨ha, rfl⟩)
            clear hf; intro a hf
            refine dr_take 15 (vxx0_Parts) rfl (by kernel_rfl) (by kernel_rfl) (by kernel_rfl) (by kernel_rfl) rfl rfl hf (by decide) rfl (fun w hp => ?_) ⟨_, hp⟩ ?_
            · obtain ⟨_, hp⟩ := hp
              refine st_ldO (u := vxx0_Parts) hf (by decide) pl61 rfl rfl (rl68.ob hp) rfl ?_
              clear hf; intro a ha hf
              exact st_nil hf (th_n ⟨ha, rfl⟩)
            clear hf; intro a hf
            refine dr_take 16 (.int .i64 i11) rfl (by kernel_rfl) (by kernel_rfl) (by kernel_rfl) (by kernel_rfl) rfl rfl hf (by decide) rfl (fun w hp => ?_) ⟨_, hp⟩ ?_
            · obtain ⟨_, hp⟩ := hp
              refine st_move hf rfl rfl (by decide) ?_
              clear hf; intro a ha hf
              exact st_nil hf (th_n ⟨ha, rfl⟩)
            clear hf; intro a hf
            refine dr_take 17 (eptr vxx0_Parts i11 2) rfl (by kernel_rfl) (by kernel_rfl) (by kernel_rfl) (by kernel_rfl) rfl rfl hf (by decide) rfl (fun w hp => ?_) ⟨_, hp⟩ ?_
            · obtain ⟨_, hp⟩ := hp
              refine st_index (E := (Ek.pair (Ek.int .i16) (Ek.int .i16))) hf (by decide) Try.underlying61 elt65 rfl rfl rfl (rl69.sl hp) hc76.1 hc76.2 ?_
              clear hf; intro a ha hf
              exact st_nil hf (th_n ⟨ha, rfl⟩)
            clear hf; intro a hf
            refine dr_take 18 (optr (eptr vxx0_Parts i11 2) (((1 : Int)).toNat * 1)) rfl (by kernel_rfl) (by kernel_rfl) (by kernel_rfl) (by kernel_rfl) rfl rfl hf (by decide) rfl (fun w hp => ?_) ⟨_, hp⟩ ?_
            · obtain ⟨_, hp⟩ := hp
              refine st_iaP (sz := 1) hf (by decide) Try.underlying65 (by kernel_rfl) rfl rfl rfl (Sl.isP (rl69.sl hp) hc76.1 hc76.2) hc77.1 hc77.2 ?_
              clear hf; intro a ha hf
              exact st_nil hf (th_n ⟨ha, rfl⟩)
            clear hf; intro a hf
            refine dr_take 19 (.int .i16 ((gt xx0_Parts i11).2)) rfl (by kernel_rfl) (by kernel_rfl) (by kernel_rfl) (by kernel_rfl) rfl rfl hf (by decide) rfl (fun w hp => ?_) ⟨_, hp⟩ ?_
            · obtain ⟨_, hp⟩ := hp
              refine st_ldQ (F := (Ek.int .i16)) (yv := (gt xx0_Parts i11).2) hf (by decide) pl64 (fun x => .int .i16 x) (fun _ _ h => h) rfl rfl (Sl.part (E := (Ek.pair (Ek.int .i16) (Ek.int .i16))) (F := (Ek.int .i16)) (o := ((1 : Int)).toNat * 1) (Sub.snd (E := (Ek.int .i16)) (F := (Ek.int .i16))) (rl69.sl hp) hc76.1 hc76.2) ?_
              clear hf; intro a ha hf
              exact st_nil hf (th_n ⟨ha, rfl⟩)
            clear hf; intro a hf
            refine dr_take 20 (.int .i16 (((gt xx0_Parts i11).2).tmod (4096 : Int))) rfl (by kernel_rfl) (by kernel_rfl) (by kernel_rfl) (by kernel_rfl) rfl rfl hf (by decide) rfl (fun w hp => ?_) ⟨_, hp⟩ ?_
            · obtain ⟨_, hp⟩ := hp
              refine st_irem hf (by decide) rfl rfl rfl (by decide) ?_
              clear hf; intro a ha hf
              exact st_nil hf (th_n ⟨ha, rfl⟩)
            clear hf; intro a hf
            refine dr_take 21 (.float .f64 (FloatKind.f64.nearest (((gt xx0_Parts i11).2).tmod (4096 : Int)))) rfl (by kernel_rfl) (by kernel_rfl) (by kernel_rfl) (by kernel_rfl) rfl rfl hf (by decide) rfl (fun w hp => ?_) ⟨_, hp⟩ ?_
            · obtain ⟨_, hp⟩ := hp
              refine st_conv_if Try.underlying64 Try.underlying37 hf (by decide) rfl rfl ?_
              clear hf; intro a ha hf
              exact st_nil hf (th_n ⟨ha, rfl⟩)
            clear hf; intro a hf
            refine dr_take 22 (.float .f64 (flb q78)) rfl (by kernel_rfl) (by kernel_rfl) (by kernel_rfl) (by kernel_rfl) rfl rfl hf (by decide) rfl (fun w hp => ?_) ⟨_, hp⟩ ?_
            · obtain ⟨_, hp⟩ := hp
              refine st_fs (op := .quo) rfl hf (by decide) rfl rfl rfl (show Fl.rep (FloatKind.f64.nearest (((gt xx0_Parts i11).2).tmod (4096 : Int))) (fofi (((gt xx0_Parts i11).2).tmod (4096 : Int))) from rfl) (show Fl.rep 4661225614328463360 (Fl.bits 4661225614328463360) from rfl) hq79 ?_
              clear hf; intro a ha hf
              exact st_nil hf (th_n ⟨ha, rfl⟩)
            clear hf; intro a hf
            refine dr_take 23 (.float .f64 (flb q80)) rfl (by kernel_rfl) (by kernel_rfl) (by kernel_rfl) (by kernel_rfl) rfl rfl hf (by decide) rfl (fun w hp => ?_) ⟨_, hp⟩ ?_
            · obtain ⟨_, hp⟩ := hp
              refine st_fs (op := .add) rfl hf (by decide) rfl rfl rfl (show Fl.rep bb42 ((gt q18.1 i11).2) from y44) (show Fl.rep (flb q78) q78 from (farithS_rep hq79)) hq81 ?_
              clear hf; intro a ha hf
              exact st_nil hf (th_n ⟨ha, rfl⟩)
            clear hf; intro a hf
            refine dr_take 24 (.complex .f64 (flb q74) (flb q80)) rfl (by kernel_rfl) (by kernel_rfl) (by kernel_rfl) (by kernel_rfl) rfl rfl hf (by decide) rfl (fun w hp => ?_) ⟨_, hp⟩ ?_
            · obtain ⟨_, hp⟩ := hp
              refine st_complex hf (by decide) rfl rfl rfl ?_
              clear hf; intro a ha hf
              exact st_nil hf (th_n ⟨ha, rfl⟩)
            clear hf; intro a hf
            refine dr_take 25 (.complex .f64 (flb q74) (flb q80)) rfl (by kernel_rfl) (by kernel_rfl) (by kernel_rfl) (by kernel_rfl) rfl rfl hf (by decide) rfl (fun w hp => ?_) ⟨_, hp⟩ ?_
            · obtain ⟨_, hp⟩ := hp
              refine st_assign hf rfl rfl (by decide) ?_
              clear hf; intro a ha hf
              exact st_nil hf (th_n ⟨ha, rfl⟩)
            clear hf; intro a hf
            refine dr_end (by kernel_rfl) ?_ _
            have hp := bk67 _ _ hp
            exact ⟨hf.sub ⟨rfl, rfl, rfl, rfl, rfl, rfl, rfl, rfl, rfl, trivial⟩, hp⟩
          rintro a w ⟨hf, hp⟩
          have hp : Hp _ _ _ (Res.obj 63 v1 [vxx0_Row, vxx0_Parts, vxx0_Lost, .int .u8 xx0_N] :: Res.sl (Ek.int .u8) 5 v5 q3 :: Res.sl Ek.c128 49 v14 q7.1 :: Res.sl Ek.c128 49 v25 q18.1 :: Res.sl (Ek.pair Ek.c128 Ek.bool) 51 v32 sx9 :: Res.sl Ek.bool 4 v34 marks10 :: ow) := Hp.sel (pre := [Res.obj 63 v1 [vxx0_Row, vxx0_Parts, vxx0_Lost, .int .u8 xx0_N], Res.sl (Ek.pair Ek.c128 Ek.bool) 51 v32 sx9, Res.sl Ek.bool 4 v34 marks10, Res.sl (Ek.int .u8) 5 v5 q3, Res.sl Ek.c128 49 v14 q7.1, Res.sl Ek.c128 49 v25 q18.1]) (tail := ow) (rs' := [Res.obj 63 v1 [vxx0_Row, vxx0_Parts, vxx0_Lost, .int .u8 xx0_N], Res.sl (Ek.int .u8) 5 v5 q3, Res.sl Ek.c128 49 v14 q7.1, Res.sl Ek.c128 49 v25 q18.1, Res.sl (Ek.pair Ek.c128 Ek.bool) 51 v32 sx9, Res.sl Ek.bool 4 v34 marks10]) hp [0, 3, 4, 5, 1, 2] (by decide) (by simp) rfl
          refine th_n ?_
          exact ⟨_, _, _, h, hf.sub ⟨rfl, rfl, rfl, rfl, rfl, rfl, rfl, rfl, rfl, trivial⟩, (farithS_rep hq75), (farithS_rep hq81), hp⟩
        replace h := ifF h hb
        refine wp_skip ?_
        have hp : Hp _ _ _ (Res.obj 63 v1 [vxx0_Row, vxx0_Parts, vxx0_Lost, .int .u8 xx0_N] :: Res.sl (Ek.int .u8) 5 v5 q3 :: Res.sl Ek.c128 49 v14 q7.1 :: Res.sl Ek.c128 49 v25 q18.1 :: Res.sl (Ek.pair Ek.c128 Ek.bool) 51 v32 sx9 :: Res.sl Ek.bool 4 v34 marks10 :: ow) := Hp.sel (pre := [Res.sl (Ek.pair Ek.c128 Ek.bool) 51 v32 sx9, Res.sl Ek.bool 4 v34 marks10, Res.obj 63 v1 [vxx0_Row, vxx0_Parts, vxx0_Lost, .int .u8 xx0_N], Res.sl (Ek.int .u8) 5 v5 q3, Res.sl Ek.c128 49 v14 q7.1, Res.sl Ek.c128 49 v25 q18.1]) (tail := ow) (rs' := [Res.obj 63 v1 [vxx0_Row, vxx0_Parts, vxx0_Lost, .int .u8 xx0_N], Res.sl (Ek.int .u8) 5 v5 q3, Res.sl Ek.c128 49 v14 q7.1, Res.sl Ek.c128 49 v25 q18.1, Res.sl (Ek.pair Ek.c128 Ek.bool) 51 v32 sx9, Res.sl Ek.bool 4 v34 marks10]) hp [2, 3, 4, 5, 0, 1] (by decide) (by simp) rfl
        refine th_n ?_
        exact ⟨_, _, _, h, hf.sub ⟨rfl, rfl, rfl, rfl, rfl, rfl, rfl, rfl, rfl, trivial⟩, y43, y44, hp⟩
      rintro a w ⟨zx12, bb45, bb46, h, hf, y47, y48, hp⟩
      unfold f_foghornlaw06_TurnsHeard.j1 at h
      refine wp_seq ?_
      refine wp_reg ?_
      refine st_move hf rfl rfl (by decide) ?_
      clear hf; intro a ha hf; clear ha
      refine st_move hf rfl rfl (by decide) ?_
      clear hf; intro a ha hf; clear ha
      refine st_move hf rfl rfl (by decide) ?_
      clear hf; intro a ha hf; clear ha
      refine st_fa (o' := 2) hf (by decide) (off := 2) (sz := 1) (by kernel_rfl) (by decide) rfl rfl (hp.ob (i := 0) rfl) rfl ?_
      clear hf; intro a ha hf; clear ha
      refine st_ldO (u := vxx0_Lost) hf (by decide) pl27 rfl rfl (hp.ob (i := 0) rfl) rfl ?_
      clear hf; intro a ha hf; clear ha
      refine st_len (E := Ek.bool) hf (by decide) Try.underlying27 rfl rfl (hxx0_Lost.sl hp) ?_
      clear hf; intro a ha hf; clear ha
      refine st_igeq hf (by decide) rfl rfl rfl ?_
      clear hf; intro a ha hf; clear ha
      refine st_move hf rfl rfl (by decide) ?_
      clear hf; intro a ha hf; clear ha
      obtain ⟨z51, hz49, h⟩ := bnd h
      refine wpList_cut 7 (fun a w => Fr 301 a [(1, optr v1 0), (3, .int .u8 xx0_N), (4, v5), (5, v14), (7, v25), (9, v32), (10, v34), (11, .int .i64 i11), (12, .complex .f64 bb45 bb46), (103, v34), (104, .int .i64 i11), (117, .bool z51)] ∧ Hp S w0 w (Res.obj 63 v1 [vxx0_Row, vxx0_Parts, vxx0_Lost, .int .u8 xx0_N] :: Res.sl (Ek.int .u8) 5 v5 q3 :: Res.sl Ek.c128 49 v14 q7.1 :: Res.sl Ek.c128 49 v25 q18.1 :: Res.sl (Ek.pair Ek.c128 Ek.bool) 51 v32 sx9 :: Res.sl Ek.bool 4 v34 marks10 :: ow)) ?_ ?_
      · rcases Bool.eq_false_or_eq_true (decide ((xx0_Lost.length : Int) ≤ i11)) with hb50 | hb50
        · skip
          replace hz49 := ifT hz49 hb50
          refine st_skip hf (wantN hf rfl rfl hb50) rfl (by decide) ?_ rfl
          clear hf; intro a hf
          refine st_skip hf (wantN hf rfl rfl hb50) rfl (by decide) ?_ rfl
          clear hf; intro a hf
          refine st_skip hf (wantN hf rfl rfl hb50) rfl (by decide) ?_ rfl
          clear hf; intro a hf
          refine st_skip hf (wantN hf rfl rfl hb50) rfl (by decide) ?_ rfl
          clear hf; intro a hf
          refine st_skip hf (wantN hf rfl rfl hb50) rfl (by decide) ?_ rfl
          clear hf; intro a hf
          refine st_skip hf (wantN hf rfl rfl hb50) rfl (by decide) ?_ rfl
          clear hf; intro a hf
          obtain rfl := Option.some.inj hz49
          refine st_pick (v := .bool true) hf rfl rfl (fun hb' => ?_) (fun hb' => ?_) (by decide) ?_
          · rfl
          · exact absurd (hb50.symm.trans hb') (by decide)
          clear hf; intro a ha hf; clear ha
          refine st_nil hf (th_n ?_)
          exact ⟨hf.sub ⟨rfl, rfl, rfl, rfl, rfl, rfl, rfl, rfl, rfl, rfl, rfl, rfl, trivial⟩, hp⟩
        replace hz49 := ifF hz49 hb50
        refine st_fa (o' := 2) hf (by decide) (off := 2) (sz := 1) (by kernel_rfl) (by decide) (wantY hf rfl rfl hb50) rfl (hp.ob (i := 0) rfl) rfl ?_
        clear hf; intro a ha hf; clear ha
        refine st_ldO (u := vxx0_Lost) hf (by decide) pl27 (wantY hf rfl rfl hb50) rfl (hp.ob (i := 0) rfl) rfl ?_
        clear hf; intro a ha hf; clear ha
        refine st_move hf (wantY hf rfl rfl hb50) rfl (by decide) ?_
        clear hf; intro a ha hf; clear ha
        obtain ⟨hc52, hz49⟩ := chk hz49
        refine st_index (E := Ek.bool) hf (by decide) Try.underlying27 elt4 (wantY hf rfl rfl hb50) rfl rfl (hxx0_Lost.sl hp) hc52.1 hc52.2 ?_
        clear hf; intro a ha hf; clear ha
        refine st_ldB hf (by decide) pl4 (wantY hf rfl rfl hb50) rfl (hxx0_Lost.sl hp) hc52.1 hc52.2 ?_
        clear hf; intro a ha hf; clear ha
        refine st_not hf (by decide) (wantY hf rfl rfl hb50) rfl ?_
        clear hf; intro a ha hf; clear ha
        obtain rfl := Option.some.inj hz49
        refine st_pick (v := .bool (!(gt xx0_Lost i11))) hf rfl rfl (fun hb' => ?_) (fun hb' => ?_) (by decide) ?_
        · exact absurd (hb50.symm.trans hb') (by decide)
        · rfl
        clear hf; intro a ha hf; clear ha
        refine st_nil hf (th_n ?_)
        exact ⟨hf.sub ⟨rfl, rfl, rfl, rfl, rfl, rfl, rfl, rfl, rfl, rfl, rfl, rfl, trivial⟩, hp⟩
      rintro a w ⟨hf, hp⟩
      obtain ⟨hc53, h⟩ := chk h
      refine st_index (E := Ek.bool) hf (by decide) Try.underlying27 elt4 rfl rfl rfl (hp.sl (i := 5) rfl) hc53.1 hc53.2 ?_
      clear hf; intro a ha hf; clear ha
      refine st_store (E := Ek.bool) hf elt4 hp (i := 5) rfl rfl rfl rfl rfl hc53.1 hc53.2 ?_
      clear hf; intro a w hf hp0; clear hp; have hp := hp0; clear hp0
      replace hp : Hp _ _ _ (Res.obj 63 v1 [vxx0_Row, vxx0_Parts, vxx0_Lost, .int .u8 xx0_N] :: Res.sl (Ek.int .u8) 5 v5 q3 :: Res.sl Ek.c128 49 v14 q7.1 :: Res.sl Ek.c128 49 v25 q18.1 :: Res.sl (Ek.pair Ek.c128 Ek.bool) 51 v32 sx9 :: Res.sl Ek.bool 4 v34 (marks10.set (i11).toNat z51) :: ow) := hp
      refine st_nil hf ?_
      refine th_n ?_
      refine wp_seq ?_
      refine wp_reg ?_
      refine st_move hf rfl rfl (by decide) ?_
      clear hf; intro a ha hf; clear ha
      refine st_move hf rfl rfl (by decide) ?_
      clear hf; intro a ha hf; clear ha
      obtain ⟨hc54, h⟩ := chk h
      refine st_index (E := Ek.bool) hf (by decide) Try.underlying27 elt4 rfl rfl rfl (hp.sl (i := 5) rfl) hc54.1 hc54.2 ?_
      clear hf; intro a ha hf; clear ha
      refine st_ldB hf (by decide) pl4 rfl rfl (hp.sl (i := 5) rfl) hc54.1 hc54.2 ?_
      clear hf; intro a ha hf; clear ha
      refine st_not hf (by decide) rfl rfl ?_
      clear hf; intro a ha hf; clear ha
      refine st_nil hf ?_
      refine th_n ?_
      refine wp_if hf rfl (fun hb => ?_) (fun hb => ?_)
      · replace h := ifT h hb
        refine wp_reg ?_
        refine st_move hf rfl rfl (by decide) ?_
        clear hf; intro a ha hf; clear ha
        refine st_buildA (vals := [(1, .bool true)]) (cells := [.complex .f64 0 0, .bool true]) hf (by decide) rfl (by simp [hf.ev (x := (Operand.const (.bool true))) rfl]) (fun w => by kernel_rfl) ?_
        clear hf; intro a ha hf; clear ha
        refine st_build (E := (Ek.pair Ek.c128 Ek.bool)) (xs := [((Fl.bits 0, Fl.bits 0), true)]) hf (by decide) elt51 Try.underlying42 hp (vals := #[(0, .agg #[.complex .f64 0 0, .bool true])]) (cells := #[.complex .f64 0 0, .bool true]) rfl (by simp [hf.ev (x := (Operand.tmp 125)) rfl]) (by decide) (by decide) (z := .agg #[.complex .f64 0 0, .bool false]) (by kernel_rfl) (by kernel_rfl) rfl (reps_cons (cs := [.complex .f64 0 0, .bool true]) ⟨[.complex .f64 0 0], [.bool true], rfl, (show Ek.c128.rep [.complex .f64 0 0] (Fl.bits 0, Fl.bits 0) from ⟨_, _, rfl, rfl, rfl⟩), rfl⟩ (reps_nil _)) ?_
        clear hf; intro a w v55 hf hp0; clear hp; have hp := hp0; clear hp0
        replace hp : Hp _ _ _ (Res.sl (Ek.pair Ek.c128 Ek.bool) 51 v55 ([((Fl.bits 0, Fl.bits 0), true)]) :: Res.obj 63 v1 [vxx0_Row, vxx0_Parts, vxx0_Lost, .int .u8 xx0_N] :: Res.sl (Ek.int .u8) 5 v5 q3 :: Res.sl Ek.c128 49 v14 q7.1 :: Res.sl Ek.c128 49 v25 q18.1 :: Res.sl (Ek.pair Ek.c128 Ek.bool) 51 v32 sx9 :: Res.sl Ek.bool 4 v34 (marks10.set (i11).toNat z51) :: ow) := hp
        obtain ⟨hc57, h⟩ := chk h
        refine st_append (E := (Ek.pair Ek.c128 Ek.bool)) hf (by decide) elt51 Try.underlying42 (by decide) hp (i := 5) rfl rfl rfl rfl (hp.sl (i := 0) rfl) hc57 ?_
        clear hf; intro a w v58 hf hp0; clear hp; have hp := hp0; clear hp0
        replace hp : Hp _ _ _ (Res.sl (Ek.pair Ek.c128 Ek.bool) 51 v55 ([((Fl.bits 0, Fl.bits 0), true)]) :: Res.obj 63 v1 [vxx0_Row, vxx0_Parts, vxx0_Lost, .int .u8 xx0_N] :: Res.sl (Ek.int .u8) 5 v5 q3 :: Res.sl Ek.c128 49 v14 q7.1 :: Res.sl Ek.c128 49 v25 q18.1 :: Res.sl (Ek.pair Ek.c128 Ek.bool) 51 v58 (sx9 ++ [((Fl.bits 0, Fl.bits 0), true)]) :: Res.sl Ek.bool 4 v34 (marks10.set (i11).toNat z51) :: ow) := hp
        refine st_assign hf rfl rfl (by decide) ?_
        clear hf; intro a ha hf; clear ha
        refine st_nil hf ?_
        refine ib_n ?_
        refine th_n ?_
        refine wp_reg ?_
        refine st_move hf rfl rfl (by decide) ?_
        clear hf; intro a ha hf; clear ha
        refine st_iadd hf (by decide) rfl rfl rfl ?_
        clear hf; intro a ha hf; clear ha
        refine st_assign hf rfl rfl (by decide) ?_
        clear hf; intro a ha hf; clear ha
        refine st_nil hf ?_
        obtain rfl := Option.some.inj h
        have hp : Hp _ _ _ (Res.sl (Ek.pair Ek.c128 Ek.bool) 51 v58 (sx9 ++ [((Fl.bits 0, Fl.bits 0), true)]) :: Res.sl Ek.bool 4 v34 (marks10.set (i11).toNat z51) :: Res.obj 63 v1 [vxx0_Row, vxx0_Parts, vxx0_Lost, .int .u8 xx0_N] :: Res.sl (Ek.int .u8) 5 v5 q3 :: Res.sl Ek.c128 49 v14 q7.1 :: Res.sl Ek.c128 49 v25 q18.1 :: ow) := Hp.sel (pre := [Res.sl (Ek.pair Ek.c128 Ek.bool) 51 v55 ([((Fl.bits 0, Fl.bits 0), true)]), Res.obj 63 v1 [vxx0_Row, vxx0_Parts, vxx0_Lost, .int .u8 xx0_N], Res.sl (Ek.int .u8) 5 v5 q3, Res.sl Ek.c128 49 v14 q7.1, Res.sl Ek.c128 49 v25 q18.1, Res.sl (Ek.pair Ek.c128 Ek.bool) 51 v58 (sx9 ++ [((Fl.bits 0, Fl.bits 0), true)]), Res.sl Ek.bool 4 v34 (marks10.set (i11).toNat z51)]) (tail := ow) (rs' := [Res.sl (Ek.pair Ek.c128 Ek.bool) 51 v58 (sx9 ++ [((Fl.bits 0, Fl.bits 0), true)]), Res.sl Ek.bool 4 v34 (marks10.set (i11).toNat z51), Res.obj 63 v1 [vxx0_Row, vxx0_Parts, vxx0_Lost, .int .u8 xx0_N], Res.sl (Ek.int .u8) 5 v5 q3, Res.sl Ek.c128 49 v14 q7.1, Res.sl Ek.c128 49 v25 q18.1]) hp [5, 6, 1, 2, 3, 4] (by decide) (by simp) rfl
        exact rnd_l ⟨_, _, hf.sub ⟨rfl, rfl, rfl, rfl, rfl, rfl, rfl, rfl, trivial⟩, hp⟩
      replace h := ifF h hb
      refine wp_reg ?_
      refine st_move hf rfl rfl (by decide) ?_
      clear hf; intro a ha hf; clear ha
      refine st_move hf rfl rfl (by decide) ?_
      clear hf; intro a ha hf; clear ha
      refine st_buildA (vals := [(0, .complex .f64 bb45 bb46)]) (cells := [.complex .f64 bb45 bb46, .bool false]) hf (by decide) rfl (by simp [hf.ev (x := (Operand.tmp 129)) rfl]) (fun w => by kernel_rfl) ?_
      clear hf; intro a ha hf; clear ha
      refine st_build (E := (Ek.pair Ek.c128 Ek.bool)) (xs := [(zx12, false)]) hf (by decide) elt51 Try.underlying42 hp (vals := #[(0, .agg #[.complex .f64 bb45 bb46, .bool false])]) (cells := #[.complex .f64 bb45 bb46, .bool false]) rfl (by simp [hf.ev (x := (Operand.tmp 130)) rfl]) (by decide) (by decide) (z := .agg #[.complex .f64 0 0, .bool false]) (by kernel_rfl) (by kernel_rfl) rfl (reps_cons (cs := [.complex .f64 bb45 bb46, .bool false]) ⟨[.complex .f64 bb45 bb46], [.bool false], rfl, (show Ek.c128.rep [.complex .f64 bb45 bb46] zx12 from ⟨_, _, rfl, y47, y48⟩), rfl⟩ (reps_nil _)) ?_
      clear hf; intro a w v59 hf hp0; clear hp; have hp := hp0; clear hp0
      replace hp : Hp _ _ _ (Res.sl (Ek.pair Ek.c128 Ek.bool) 51 v59 ([(zx12, false)]) :: Res.obj 63 v1 [vxx0_Row, vxx0_Parts, vxx0_Lost, .int .u8 xx0_N] :: Res.sl (Ek.int .u8) 5 v5 q3 :: Res.sl Ek.c128 49 v14 q7.1 :: Res.sl Ek.c128 49 v25 q18.1 :: Res.sl (Ek.pair Ek.c128 Ek.bool) 51 v32 sx9 :: Res.sl Ek.bool 4 v34 (marks10.set (i11).toNat z51) :: ow) := hp
      obtain ⟨hc61, h⟩ := chk h
      refine st_append (E := (Ek.pair Ek.c128 Ek.bool)) hf (by decide) elt51 Try.underlying42 (by decide) hp (i := 5) rfl rfl rfl rfl (hp.sl (i := 0) rfl) hc61 ?_
      clear hf; intro a w v62 hf hp0; clear hp; have hp := hp0; clear hp0
      replace hp : Hp _ _ _ (Res.sl (Ek.pair Ek.c128 Ek.bool) 51 v59 ([(zx12, false)]) :: Res.obj 63 v1 [vxx0_Row, vxx0_Parts, vxx0_Lost, .int .u8 xx0_N] :: Res.sl (Ek.int .u8) 5 v5 q3 :: Res.sl Ek.c128 49 v14 q7.1 :: Res.sl Ek.c128 49 v25 q18.1 :: Res.sl (Ek.pair Ek.c128 Ek.bool) 51 v62 (sx9 ++ [(zx12, false)]) :: Res.sl Ek.bool 4 v34 (marks10.set (i11).toNat z51) :: ow) := hp
      refine st_assign hf rfl rfl (by decide) ?_
      clear hf; intro a ha hf; clear ha
      refine st_nil hf ?_
      refine ib_n ?_
      refine th_n ?_
      refine wp_reg ?_
      refine st_move hf rfl rfl (by decide) ?_
      clear hf; intro a ha hf; clear ha
      refine st_iadd hf (by decide) rfl rfl rfl ?_
      clear hf; intro a ha hf; clear ha
      refine st_assign hf rfl rfl (by decide) ?_
      clear hf; intro a ha hf; clear ha
      refine st_nil hf ?_
      obtain rfl := Option.some.inj h
      have hp : Hp _ _ _ (Res.sl (Ek.pair Ek.c128 Ek.bool) 51 v62 (sx9 ++ [(zx12, false)]) :: Res.sl Ek.bool 4 v34 (marks10.set (i11).toNat z51) :: Res.obj 63 v1 [vxx0_Row, vxx0_Parts, vxx0_Lost, .int .u8 xx0_N] :: Res.sl (Ek.int .u8) 5 v5 q3 :: Res.sl Ek.c128 49 v14 q7.1 :: Res.sl Ek.c128 49 v25 q18.1 :: ow) := Hp.sel (pre := [Res.sl (Ek.pair Ek.c128 Ek.bool) 51 v59 ([(zx12, false)]), Res.obj 63 v1 [vxx0_Row, vxx0_Parts, vxx0_Lost, .int .u8 xx0_N], Res.sl (Ek.int .u8) 5 v5 q3, Res.sl Ek.c128 49 v14 q7.1, Res.sl Ek.c128 49 v25 q18.1, Res.sl (Ek.pair Ek.c128 Ek.bool) 51 v62 (sx9 ++ [(zx12, false)]), Res.sl Ek.bool 4 v34 (marks10.set (i11).toNat z51)]) (tail := ow) (rs' := [Res.sl (Ek.pair Ek.c128 Ek.bool) 51 v62 (sx9 ++ [(zx12, false)]), Res.sl Ek.bool 4 v34 (marks10.set (i11).toNat z51), Res.obj 63 v1 [vxx0_Row, vxx0_Parts, vxx0_Lost, .int .u8 xx0_N], Res.sl (Ek.int .u8) 5 v5 q3, Res.sl Ek.c128 49 v14 q7.1, Res.sl Ek.c128 49 v25 q18.1]) hp [5, 6, 1, 2, 3, 4] (by decide) (by simp) rfl
      exact rnd_l ⟨_, _, hf.sub ⟨rfl, rfl, rfl, rfl, rfl, rfl, rfl, rfl, trivial⟩, hp⟩
    replace h := ifF h hb
    refine wp_exit ?_
    refine th_e ?_
    obtain rfl := Option.some.inj h
    have hp : Hp _ _ _ (Res.sl (Ek.pair Ek.c128 Ek.bool) 51 v32 sx9 :: Res.sl Ek.bool 4 v34 marks10 :: Res.sl (Ek.int .u8) 5 v5 q3 :: Res.sl Ek.c128 49 v14 q7.1 :: Res.sl Ek.c128 49 v25 q18.1 :: ow) := Hp.sel (pre := [Res.sl (Ek.pair Ek.c128 Ek.bool) 51 v32 sx9, Res.sl Ek.bool 4 v34 marks10, Res.obj 63 v1 [vxx0_Row, vxx0_Parts, vxx0_Lost, .int .u8 xx0_N], Res.sl (Ek.int .u8) 5 v5 q3, Res.sl Ek.c128 49 v14 q7.1, Res.sl Ek.c128 49 v25 q18.1]) (tail := ow) (rs' := [Res.sl (Ek.pair Ek.c128 Ek.bool) 51 v32 sx9, Res.sl Ek.bool 4 v34 marks10, Res.sl (Ek.int .u8) 5 v5 q3, Res.sl Ek.c128 49 v14 q7.1, Res.sl Ek.c128 49 v25 q18.1]) hp [0, 1, 3, 4, 5] (by decide) (by simp) rfl
    exact rnd_r (by simp) ⟨rfl, _, _, hf.sub ⟨rfl, rfl, rfl, rfl, rfl, rfl, trivial⟩, hp⟩
  clear hl hf hp
  intro e a w hne hO
  obtain ⟨rfl, v36, v38, hf, hp⟩ := hO
  refine ib_same ?_
  refine th_n ?_
  refine wp_seq ?_
  refine wp_reg ?_
  refine st_move hf rfl rfl (by decide) ?_
  clear hf; intro a ha hf; clear ha
  obtain ⟨q84, hcall85, h⟩ := bnd h
  obtain ⟨S86, hp87, rd88, up89, bk90⟩ := Hp.lendS hp (i := 0) rfl
  refine st_call hf (by decide) Try.func23 rfl rfl rfl rfl rfl (f_turns_Row_c hp87 _ _ rd88 hcall85) ?_
  rintro _ w ⟨v91, v92, rfl, hp0⟩
  have hp0 := bk90 _ _ hp0
  clear hp; have hp := hp0; clear hp0
  replace hp : Hp _ _ _ (Res.sl (Ek.pair Ek.c128 Ek.bool) 51 v36 q82.1 :: Res.sl (Ek.int .u8) 5 v91 q84.1 :: Res.sl Ek.bool 4 v92 q84.2.1 :: Res.sl Ek.bool 4 v38 q82.2 :: Res.sl (Ek.int .u8) 5 v5 q3 :: Res.sl Ek.c128 49 v14 q7.1 :: Res.sl Ek.c128 49 v25 q18.1 :: ow) := hp
  refine ⟨_, rfl, ?_⟩
  clear hf; intro a hf
  refine st_move hf rfl rfl (by decide) ?_
  clear hf; intro a ha hf; clear ha
  refine st_extract hf (by decide) rfl rfl rfl ?_
  clear hf; intro a ha hf; clear ha
  refine st_extract hf (by decide) rfl rfl rfl ?_
  clear hf; intro a ha hf; clear ha
  refine st_extract hf (by decide) rfl rfl rfl ?_
  clear hf; intro a ha hf; clear ha
  refine st_assign hf rfl rfl (by decide) ?_
  clear hf; intro a ha hf; clear ha
  refine st_assign hf rfl rfl (by decide) ?_
  clear hf; intro a ha hf; clear ha
  refine st_assign hf rfl rfl (by decide) ?_
  clear hf; intro a ha hf; clear ha
  refine st_nil hf ?_
  refine th_n ?_
  refine wp_seq ?_
  refine wp_seq ?_
  refine wp_reg ?_
  refine st_move hf rfl rfl (by decide) ?_
  clear hf; intro a ha hf; clear ha
  refine st_ineq hf (by decide) rfl rfl rfl ?_
  clear hf; intro a ha hf; clear ha
  refine st_move hf rfl rfl (by decide) ?_
  clear hf; intro a ha hf; clear ha
  refine wpList_cut 6 (fun a w => Fr 301 a [(3, .int .u8 xx0_N), (4, v5), (5, v14), (7, v25), (10, v38), (13, v91), (14, v92), (147, .bool ((q84.2.2 != (0 : Int)) || ((q84.1.length : Int) != (q3.length : Int))))] ∧ Hp S w0 w (Res.sl (Ek.pair Ek.c128 Ek.bool) 51 v36 q82.1 :: Res.sl (Ek.int .u8) 5 v91 q84.1 :: Res.sl Ek.bool 4 v92 q84.2.1 :: Res.sl Ek.bool 4 v38 q82.2 :: Res.sl (Ek.int .u8) 5 v5 q3 :: Res.sl Ek.c128 49 v14 q7.1 :: Res.sl Ek.c128 49 v25 q18.1 :: ow)) ?_ ?_
  · rcases Bool.eq_false_or_eq_true (q84.2.2 != (0 : Int)) with hb96 | hb96
    · skip
      refine st_skip hf (wantN hf rfl rfl hb96) rfl (by decide) ?_ rfl
      clear hf; intro a hf
      refine st_skip hf (wantN hf rfl rfl hb96) rfl (by decide) ?_ rfl
      clear hf; intro a hf
      refine st_skip hf (wantN hf rfl rfl hb96) rfl (by decide) ?_ rfl
      clear hf; intro a hf
      refine st_skip hf (wantN hf rfl rfl hb96) rfl (by decide) ?_ rfl
      clear hf; intro a hf
      refine st_skip hf (wantN hf rfl rfl hb96) rfl (by decide) ?_ rfl
      clear hf; intro a hf
      refine st_pick (v := .bool true) hf rfl rfl (fun hb' => ?_) (fun hb' => ?_) (by decide) ?_
      · rfl
      · exact absurd (hb96.symm.trans hb') (by decide)
      clear hf; intro a ha hf; clear ha
      refine st_nil hf (th_n ?_)
      exact ⟨hf.sub ⟨rfl, rfl, rfl, rfl, rfl, rfl, rfl, (by rw [hb96]; rfl), trivial⟩, hp⟩
    refine st_move hf (wantY hf rfl rfl hb96) rfl (by decide) ?_
    clear hf; intro a ha hf; clear ha
    refine st_len (E := (Ek.int .u8)) hf (by decide) Try.underlying22 (wantY hf rfl rfl hb96) rfl (hp.sl (i := 1) rfl) ?_
    clear hf; intro a ha hf; clear ha
    refine st_move hf (wantY hf rfl rfl hb96) rfl (by decide) ?_
    clear hf; intro a ha hf; clear ha
    refine st_len (E := (Ek.int .u8)) hf (by decide) Try.underlying22 (wantY hf rfl rfl hb96) rfl (hp.sl (i := 4) rfl) ?_
    clear hf; intro a ha hf; clear ha
    refine st_ineq hf (by decide) (wantY hf rfl rfl hb96) rfl rfl ?_
    clear hf; intro a ha hf; clear ha
    refine st_pick (v := .bool ((q84.1.length : Int) != (q3.length : Int))) hf rfl rfl (fun hb' => ?_) (fun hb' => ?_) (by decide) ?_
    · exact absurd (hb96.symm.trans hb') (by decide)
    · rfl
    clear hf; intro a ha hf; clear ha
    refine st_nil hf (th_n ?_)
    exact ⟨hf.sub ⟨rfl, rfl, rfl, rfl, rfl, rfl, rfl, (by rw [hb96]; rfl), trivial⟩, hp⟩
  rintro a w ⟨hf, hp⟩
  refine st_move hf rfl rfl (by decide) ?_
  clear hf; intro a ha hf; clear ha
  obtain ⟨z99, hz97, h⟩ := bnd h
  refine wpList_cut 5 (fun a w => Fr 301 a [(3, .int .u8 xx0_N), (4, v5), (5, v14), (7, v25), (10, v38), (13, v91), (14, v92), (153, .bool z99)] ∧ Hp S w0 w (Res.sl (Ek.pair Ek.c128 Ek.bool) 51 v36 q82.1 :: Res.sl (Ek.int .u8) 5 v91 q84.1 :: Res.sl Ek.bool 4 v92 q84.2.1 :: Res.sl Ek.bool 4 v38 q82.2 :: Res.sl (Ek.int .u8) 5 v5 q3 :: Res.sl Ek.c128 49 v14 q7.1 :: Res.sl Ek.c128 49 v25 q18.1 :: ow)) ?_ ?_
  · rcases Bool.eq_false_or_eq_true ((q84.2.2 != (0 : Int)) || ((q84.1.length : Int) != (q3.length : Int))) with hb98 | hb98
    · skip
      replace hz97 := ifT hz97 hb98
      refine st_skip hf (wantN hf rfl rfl hb98) rfl (by decide) ?_ rfl
      clear hf; intro a hf
      refine st_skip hf (wantN hf rfl rfl hb98) rfl (by decide) ?_ rfl
      clear hf; intro a hf
      refine st_skip hf (wantN hf rfl rfl hb98) rfl (by decide) ?_ rfl
      clear hf; intro a hf
      refine st_skip hf (wantN hf rfl rfl hb98) rfl (by decide) ?_ rfl
      clear hf; intro a hf
      obtain rfl := Option.some.inj hz97
      refine st_pick (v := .bool true) hf rfl rfl (fun hb' => ?_) (fun hb' => ?_) (by decide) ?_
      · rfl
      · exact absurd (hb98.symm.trans hb') (by decide)
      clear hf; intro a ha hf; clear ha
      refine st_nil hf (th_n ?_)
      exact ⟨hf.sub ⟨rfl, rfl, rfl, rfl, rfl, rfl, rfl, rfl, trivial⟩, hp⟩
    replace hz97 := ifF hz97 hb98
    refine st_move hf (wantY hf rfl rfl hb98) rfl (by decide) ?_
    clear hf; intro a ha hf; clear ha
    refine st_move hf (wantY hf rfl rfl hb98) rfl (by decide) ?_
    clear hf; intro a ha hf; clear ha
    obtain ⟨q100, hcall101, hz97⟩ := bnd hz97
    obtain ⟨S102, hp103, rd104, up105, bk106⟩ := Hp.lendS hp (i := 2) rfl
    obtain ⟨S107, hp108, rd109, up110, bk111⟩ := Hp.lendS hp103 (i := 2) rfl
    refine st_call hf (by decide) Try.func16 rfl rfl (wantY hf rfl rfl hb98) rfl rfl (f_foghornlaw06_truths_c hp108 _ _ ((rd104.now hp103).mono up110) _ _ rd109 hcall101) ?_
    rintro _ w ⟨rfl, hp0⟩
    have hp0 := bk111 _ _ hp0
    have hp0 := bk106 _ _ hp0
    clear hp; have hp := hp0; clear hp0
    replace hp : Hp _ _ _ (Res.sl Ek.bool 4 v92 q84.2.1 :: Res.sl Ek.bool 4 v38 q82.2 :: Res.sl (Ek.pair Ek.c128 Ek.bool) 51 v36 q82.1 :: Res.sl (Ek.int .u8) 5 v91 q84.1 :: Res.sl (Ek.int .u8) 5 v5 q3 :: Res.sl Ek.c128 49 v14 q7.1 :: Res.sl Ek.c128 49 v25 q18.1 :: ow) := hp
    refine ⟨_, rfl, ?_⟩
    clear hf; intro a hf
    refine st_not hf (by decide) (wantY hf rfl rfl hb98) rfl ?_
    clear hf; intro a ha hf; clear ha
    obtain rfl := Option.some.inj hz97
    refine st_pick (v := .bool (!q100)) hf rfl rfl (fun hb' => ?_) (fun hb' => ?_) (by decide) ?_
    · exact absurd (hb98.symm.trans hb') (by decide)
    · rfl
    clear hf; intro a ha hf; clear ha
    refine st_nil hf (th_n ?_)
    have hp : Hp _ _ _ (Res.sl (Ek.pair Ek.c128 Ek.bool) 51 v36 q82.1 :: Res.sl (Ek.int .u8) 5 v91 q84.1 :: Res.sl Ek.bool 4 v92 q84.2.1 :: Res.sl Ek.bool 4 v38 q82.2 :: Res.sl (Ek.int .u8) 5 v5 q3 :: Res.sl Ek.c128 49 v14 q7.1 :: Res.sl Ek.c128 49 v25 q18.1 :: ow) := Hp.sel (pre := [Res.sl Ek.bool 4 v92 q84.2.1, Res.sl Ek.bool 4 v38 q82.2, Res.sl (Ek.pair Ek.c128 Ek.bool) 51 v36 q82.1, Res.sl (Ek.int .u8) 5 v91 q84.1, Res.sl (Ek.int .u8) 5 v5 q3, Res.sl Ek.c128 49 v14 q7.1, Res.sl Ek.c128 49 v25 q18.1]) (tail := ow) (rs' := [Res.sl (Ek.pair Ek.c128 Ek.bool) 51 v36 q82.1, Res.sl (Ek.int .u8) 5 v91 q84.1, Res.sl Ek.bool 4 v92 q84.2.1, Res.sl Ek.bool 4 v38 q82.2, Res.sl (Ek.int .u8) 5 v5 q3, Res.sl Ek.c128 49 v14 q7.1, Res.sl Ek.c128 49 v25 q18.1]) hp [2, 3, 0, 1, 4, 5, 6] (by decide) (by simp) rfl
    exact ⟨hf.sub ⟨rfl, rfl, rfl, rfl, rfl, rfl, rfl, rfl, trivial⟩, hp⟩
  rintro a w ⟨hf, hp⟩
  refine st_nil hf ?_
  refine th_n ?_
  refine wp_if hf rfl (fun hb => ?_) (fun hb => ?_)
  · replace h := ifT h hb
    refine wp_seq ?_
    refine wp_reg ?_
    refine st_assign hf rfl rfl (by decide) ?_
    clear hf; intro a ha hf; clear ha
    refine st_nil hf ?_
    refine th_n ?_
    refine wp_ret ?_
    refine th_r ?_
    obtain rfl := Option.some.inj h
    have hp : Hp _ _ _ (ow) := Hp.sel (pre := [Res.sl (Ek.pair Ek.c128 Ek.bool) 51 v36 q82.1, Res.sl (Ek.int .u8) 5 v91 q84.1, Res.sl Ek.bool 4 v92 q84.2.1, Res.sl Ek.bool 4 v38 q82.2, Res.sl (Ek.int .u8) 5 v5 q3, Res.sl Ek.c128 49 v14 q7.1, Res.sl Ek.c128 49 v25 q18.1]) (tail := ow) (rs' := []) hp [] (by decide) (by simp) rfl
    exact ⟨rfl, ⟨hf.sub ⟨rfl, trivial⟩, hp⟩⟩
  replace h := ifF h hb
  refine wp_skip ?_
  refine th_n ?_
  refine wp_seq ?_
  refine wp_seq ?_
  refine wp_reg ?_
  refine st_assign hf rfl rfl (by decide) ?_
  clear hf; intro a ha hf; clear ha
  refine st_nil hf ?_
  refine th_n ?_
  refine wp_block ?_
  obtain ⟨q144, hl, h⟩ := bnd h
  have hp : Hp _ _ _ (Res.sl (Ek.int .u8) 5 v5 q3 :: Res.sl Ek.c128 49 v14 q7.1 :: Res.sl Ek.c128 49 v25 q18.1 :: Res.sl Ek.bool 4 v38 q82.2 :: Res.sl (Ek.int .u8) 5 v91 q84.1 :: Res.sl Ek.bool 4 v92 q84.2.1 :: ow) := Hp.sel (pre := [Res.sl (Ek.pair Ek.c128 Ek.bool) 51 v36 q82.1, Res.sl (Ek.int .u8) 5 v91 q84.1, Res.sl Ek.bool 4 v92 q84.2.1, Res.sl Ek.bool 4 v38 q82.2, Res.sl (Ek.int .u8) 5 v5 q3, Res.sl Ek.c128 49 v14 q7.1, Res.sl Ek.c128 49 v25 q18.1]) (tail := ow) (rs' := [Res.sl (Ek.int .u8) 5 v5 q3, Res.sl Ek.c128 49 v14 q7.1, Res.sl Ek.c128 49 v25 q18.1, Res.sl Ek.bool 4 v38 q82.2, Res.sl (Ek.int .u8) 5 v91 q84.1, Res.sl Ek.bool 4 v92 q84.2.1]) hp [4, 5, 6, 3, 1, 2] (by decide) (by simp) rfl
  refine wp_loop_pure (f := (f_foghornlaw06_TurnsHeard.s2 xx0_N q3 q82 q84)) (s := (0 : Int)) (fun s a w => Fr 301 a [(3, .int .u8 xx0_N), (4, v5), (5, v14), (7, v25), (10, v38), (13, v91), (14, v92), (16, .int .i64 s)] ∧ Hp S w0 w (Res.sl (Ek.int .u8) 5 v5 q3 :: Res.sl Ek.c128 49 v14 q7.1 :: Res.sl Ek.c128 49 v25 q18.1 :: Res.sl Ek.bool 4 v38 q82.2 :: Res.sl (Ek.int .u8) 5 v91 q84.1 :: Res.sl Ek.bool 4 v92 q84.2.1 :: ow)) (fun q e a w => match q with | (Sum.inl q) => e = .exit 2 ∧ Fr 301 a [(3, .int .u8 xx0_N), (4, v5), (5, v14), (7, v25), (10, v38), (13, v91), (14, v92)] ∧ Hp S w0 w (Res.sl (Ek.int .u8) 5 v5 q3 :: Res.sl Ek.c128 49 v14 q7.1 :: Res.sl Ek.c128 49 v25 q18.1 :: Res.sl Ek.bool 4 v38 q82.2 :: Res.sl (Ek.int .u8) 5 v91 q84.1 :: Res.sl Ek.bool 4 v92 q84.2.1 :: ow) | (Sum.inr q) => e = .ret ∧ Fr 301 a [(2, .bool q)] ∧ Hp S w0 w (ow)) ?_ hl ⟨hf.sub ⟨rfl, rfl, rfl, rfl, rfl, rfl, rfl, rfl, trivial⟩, hp⟩ ?_
  · clear hl hf hp
    intro s x a w h hI
    obtain ⟨i16, hs⟩ : ∃ z, z = s := ⟨s, rfl⟩; subst hs
    obtain ⟨hf, hp⟩ : Fr 301 a [(3, .int .u8 xx0_N), (4, v5), (5, v14), (7, v25), (10, v38), (13, v91), (14, v92), (16, .int .i64 i16)] ∧ Hp S w0 w (Res.sl (Ek.int .u8) 5 v5 q3 :: Res.sl Ek.c128 49 v14 q7.1 :: Res.sl Ek.c128 49 v25 q18.1 :: Res.sl Ek.bool 4 v38 q82.2 :: Res.sl (Ek.int .u8) 5 v91 q84.1 :: Res.sl Ek.bool 4 v92 q84.2.1 :: ow) := hI
    replace h : f_foghornlaw06_TurnsHeard.s2c xx0_N q3 q82 q84 i16 = some x := h
    unfold f_foghornlaw06_TurnsHeard.s2c at h
    refine wp_seq ?_
    refine wp_seq ?_
    refine wp_reg ?_
    refine st_move hf rfl rfl (by decide) ?_
    clear hf; intro a ha hf; clear ha
    refine st_move hf rfl rfl (by decide) ?_
    clear hf; intro a ha hf; clear ha
    refine st_len (E := (Ek.int .u8)) hf (by decide) Try.underlying22 rfl rfl (hp.sl (i := 0) rfl) ?_
    clear hf; intro a ha hf; clear ha
    refine st_ilss hf (by decide) rfl rfl rfl ?_
    clear hf; intro a ha hf; clear ha
    refine st_nil hf ?_
    refine th_n ?_
    refine wp_if hf rfl (fun hb => ?_) (fun hb => ?_)
    · replace h := ifT h hb
      refine wp_skip ?_
      refine th_n ?_
      refine wp_seq ?_
      refine wp_block ?_
      refine wp_seq ?_
      obtain ⟨S112, hp113, rd114, up115, bk116⟩ := Hp.lendS hp (i := 3) rfl
      obtain ⟨S117, hp118, rd119, up120, bk121⟩ := Hp.lendS hp113 (i := 3) rfl
      obtain ⟨S122, hp123, rd124, up125, bk126⟩ := Hp.lendS hp118 (i := 0) rfl
      have rl127 := rd124
      have rl128 := ((((rd114.now hp113).mono up120).now hp118).mono up125)
      have rl129 := ((rd119.now hp118).mono up125)
      obtain ⟨hc130, h⟩ := chk h
      obtain ⟨z135, hz131, h⟩ := bnd h
      obtain ⟨z143, hz136, h⟩ := bnd h
      refine wp_cutN (fun a w => Fr 301 a [(3, .int .u8 xx0_N), (4, v5), (5, v14), (7, v25), (10, v38), (13, v91), (14, v92), (16, .int .i64 i16), (192, .bool z143)] ∧ Hp S w0 w (Res.sl Ek.bool 4 v38 q82.2 :: Res.sl (Ek.int .u8) 5 v91 q84.1 :: Res.sl (Ek.int .u8) 5 v5 q3 :: Res.sl Ek.c128 49 v14 q7.1 :: Res.sl Ek.c128 49 v25 q18.1 :: Res.sl Ek.bool 4 v92 q84.2.1 :: ow)) ?_ ?_
      · have hp := hp123.same (Same.drew w)
        rcases Bool.eq_false_or_eq_true (gt q82.2 i16) with hb132 | hb132
        · skip
          replace hz131 := ifT hz131 hb132
          obtain ⟨hc133, hz131⟩ := chk hz131
          obtain ⟨hc134, hz131⟩ := chk hz131
          replace hz131 := Option.some.inj hz131
          rcases Bool.eq_false_or_eq_true z135 with hb137 | hb137
          · skip
            replace hz136 := ifT hz136 hb137
            replace hz136 := Option.some.inj hz136
            refine dr_begin' (fun a w => Fr 301 a [(3, .int .u8 xx0_N), (4, v5), (5, v14), (7, v25), (10, v38), (13, v91), (14, v92), (16, .int .i64 i16), (192, .bool z143)] ∧ Hp S w0 w (Res.sl Ek.bool 4 v38 q82.2 :: Res.sl (Ek.int .u8) 5 v91 q84.1 :: Res.sl (Ek.int .u8) 5 v5 q3 :: Res.sl Ek.c128 49 v14 q7.1 :: Res.sl Ek.c128 49 v25 q18.1 :: Res.sl Ek.bool 4 v92 q84.2.1 :: ow)) (fun w' => ∃ l, Hp S122 w w' l) [] (by kernel_rfl) ?_
            refine dr_take 0 (v38) rfl (by kernel_rfl) (by kernel_rfl) (by kernel_rfl) (by kernel_rfl) rfl rfl hf (by decide) rfl (fun w hp => ?_) ⟨_, hp⟩ ?_
            · obtain ⟨_, hp⟩ := hp
              refine st_move hf rfl rfl (by decide) ?_
              clear hf; intro a ha hf
              exact st_nil hf (th_n ⟨ha, rfl⟩)
            clear hf; intro a hf
            refine dr_take 1 (.int .i64 i16) rfl (by kernel_rfl) (by kernel_rfl) (by kernel_rfl) (by kernel_rfl) rfl rfl hf (by decide) rfl (fun w hp => ?_) ⟨_, hp⟩ ?_
            · obtain ⟨_, hp⟩ := hp
              refine st_move hf rfl rfl (by decide) ?_
              clear hf; intro a ha hf
              exact st_nil hf (th_n ⟨ha, rfl⟩)
            clear hf; intro a hf
            refine dr_take 2 (eptr v38 i16 1) rfl (by kernel_rfl) (by kernel_rfl) (by kernel_rfl) (by kernel_rfl) rfl rfl hf (by decide) rfl (fun w hp => ?_) ⟨_, hp⟩ ?_
            · obtain ⟨_, hp⟩ := hp
              refine st_index (E := Ek.bool) hf (by decide) Try.underlying27 elt4 rfl rfl rfl (rl128.sl hp) hc130.1 hc130.2 ?_
              clear hf; intro a ha hf
              exact st_nil hf (th_n ⟨ha, rfl⟩)
            clear hf; intro a hf
            refine dr_take 3 (.bool (gt q82.2 i16)) rfl (by kernel_rfl) (by kernel_rfl) (by kernel_rfl) (by kernel_rfl) rfl rfl hf (by decide) rfl (fun w hp => ?_) ⟨_, hp⟩ ?_
            · obtain ⟨_, hp⟩ := hp
              refine st_ldB hf (by decide) pl4 rfl rfl (rl128.sl hp) hc130.1 hc130.2 ?_
              clear hf; intro a ha hf
              exact st_nil hf (th_n ⟨ha, rfl⟩)
            clear hf; intro a hf
            refine dr_take 4 (.bool (gt q82.2 i16)) rfl (by kernel_rfl) (by kernel_rfl) (by kernel_rfl) (by kernel_rfl) rfl rfl hf (by decide) rfl (fun w hp => ?_) ⟨_, hp⟩ ?_
            · obtain ⟨_, hp⟩ := hp
              refine st_move hf rfl rfl (by decide) ?_
              clear hf; intro a ha hf
              exact st_nil hf (th_n ⟨ha, rfl⟩)
            clear hf; intro a hf
            refine dr_take 5 (v91) rfl (by kernel_rfl) (by kernel_rfl) (by kernel_rfl) (by kernel_rfl) rfl rfl hf (by decide) (wantY hf rfl rfl hb132) (fun w hp => ?_) ⟨_, hp⟩ ?_
            · obtain ⟨_, hp⟩ := hp
              refine st_move hf (wantY hf rfl rfl hb132) rfl (by decide) ?_
              clear hf; intro a ha hf
              exact st_nil hf (th_n ⟨ha, rfl⟩)
            clear hf; intro a hf
            refine dr_take 6 (.int .i64 i16) rfl (by kernel_rfl) (by kernel_rfl) (by kernel_rfl) (by kernel_rfl) rfl rfl hf (by decide) (wantY hf rfl rfl hb132) (fun w hp => ?_) ⟨_, hp⟩ ?_
            · obtain ⟨_, hp⟩ := hp
              refine st_move hf (wantY hf rfl rfl hb132) rfl (by decide) ?_
              clear hf; intro a ha hf
              exact st_nil hf (th_n ⟨ha, rfl⟩)
            clear hf; intro a hf
            refine dr_take 7 (eptr v91 i16 1) rfl (by kernel_rfl) (by kernel_rfl) (by kernel_rfl) (by kernel_rfl) rfl rfl hf (by decide) (wantY hf rfl rfl hb132) (fun w hp => ?_) ⟨_, hp⟩ ?_
            · obtain ⟨_, hp⟩ := hp
              refine st_index (E := (Ek.int .u8)) hf (by decide) Try.underlying22 elt5 (wantY hf rfl rfl hb132) rfl rfl (rl129.sl hp) hc133.1 hc133.2 ?_
              clear hf; intro a ha hf
              exact st_nil hf (th_n ⟨ha, rfl⟩)
            clear hf; intro a hf
            refine dr_take 8 (.int .u8 (gt q84.1 i16)) rfl (by kernel_rfl) (by kernel_rfl) (by kernel_rfl) (by kernel_rfl) rfl rfl hf (by decide) (wantY hf rfl rfl hb132) (fun w hp => ?_) ⟨_, hp⟩ ?_
            · obtain ⟨_, hp⟩ := hp
              refine st_ldI hf (by decide) pl5 (wantY hf rfl rfl hb132) rfl (rl129.sl hp) hc133.1 hc133.2 ?_
              clear hf; intro a ha hf
              exact st_nil hf (th_n ⟨ha, rfl⟩)
            clear hf; intro a hf
            refine dr_take 9 (v5) rfl (by kernel_rfl) (by kernel_rfl) (by kernel_rfl) (by kernel_rfl) rfl rfl hf (by decide) (wantY hf rfl rfl hb132) (fun w hp => ?_) ⟨_, hp⟩ ?_
            · obtain ⟨_, hp⟩ := hp
              refine st_move hf (wantY hf rfl rfl hb132) rfl (by decide) ?_
              clear hf; intro a ha hf
              exact st_nil hf (th_n ⟨ha, rfl⟩)
            clear hf; intro a hf
            refine dr_take 10 (.int .i64 i16) rfl (by kernel_rfl) (by kernel_rfl) (by kernel_rfl) (by kernel_rfl) rfl rfl hf (by decide) (wantY hf rfl rfl hb132) (fun w hp => ?_) ⟨_, hp⟩ ?_
            · obtain ⟨_, hp⟩ := hp
              refine st_move hf (wantY hf rfl rfl hb132) rfl (by decide) ?_
              clear hf; intro a ha hf
              exact st_nil hf (th_n ⟨ha, rfl⟩)
            clear hf; intro a hf
            refine dr_take 11 (eptr v5 i16 1) rfl (by kernel_rfl) (by kernel_rfl) (by kernel_rfl) (by kernel_rfl) rfl rfl hf (by decide) (wantY hf rfl rfl hb132) (fun w hp => ?_) ⟨_, hp⟩ ?_
            · obtain ⟨_, hp⟩ := hp
              refine st_index (E := (Ek.int .u8)) hf (by decide) Try.underlying22 elt5 (wantY hf rfl rfl hb132) rfl rfl (rl127.sl hp) hc134.1 hc134.2 ?_
              clear hf; intro a ha hf
              exact st_nil hf (th_n ⟨ha, rfl⟩)
            clear hf; intro a hf
            refine dr_take 12 (.int .u8 (gt q3 i16)) rfl (by kernel_rfl) (by kernel_rfl) (by kernel_rfl) (by kernel_rfl) rfl rfl hf (by decide) (wantY hf rfl rfl hb132) (fun w hp => ?_) ⟨_, hp⟩ ?_
            · obtain ⟨_, hp⟩ := hp
              refine st_ldI hf (by decide) pl5 (wantY hf rfl rfl hb132) rfl (rl127.sl hp) hc134.1 hc134.2 ?_
              clear hf; intro a ha hf
              exact st_nil hf (th_n ⟨ha, rfl⟩)
            clear hf; intro a hf
            refine dr_take 13 (.int .u8 xx0_N) rfl (by kernel_rfl) (by kernel_rfl) (by kernel_rfl) (by kernel_rfl) rfl rfl hf (by decide) (wantY hf rfl rfl hb132) (fun w hp => ?_) ⟨_, hp⟩ ?_
            · obtain ⟨_, hp⟩ := hp
              refine st_move hf (wantY hf rfl rfl hb132) rfl (by decide) ?_
              clear hf; intro a ha hf
              exact st_nil hf (th_n ⟨ha, rfl⟩)
            clear hf; intro a hf
            refine dr_take 14 (.int .u8 ((xx0_N).tmod (4 : Int))) rfl (by kernel_rfl) (by kernel_rfl) (by kernel_rfl) (by kernel_rfl) rfl rfl hf (by decide) (wantY hf rfl rfl hb132) (fun w hp => ?_) ⟨_, hp⟩ ?_
            · obtain ⟨_, hp⟩ := hp
              refine st_irem hf (by decide) (wantY hf rfl rfl hb132) rfl rfl (by decide) ?_
              clear hf; intro a ha hf
              exact st_nil hf (th_n ⟨ha, rfl⟩)
            clear hf; intro a hf
            refine dr_take 15 (.int .u8 (IntKind.u8.wrap ((gt q3 i16) + ((xx0_N).tmod (4 : Int))))) rfl (by kernel_rfl) (by kernel_rfl) (by kernel_rfl) (by kernel_rfl) rfl rfl hf (by decide) (wantY hf rfl rfl hb132) (fun w hp => ?_) ⟨_, hp⟩ ?_
            · obtain ⟨_, hp⟩ := hp
              refine st_iadd hf (by decide) (wantY hf rfl rfl hb132) rfl rfl ?_
              clear hf; intro a ha hf
              exact st_nil hf (th_n ⟨ha, rfl⟩)
            clear hf; intro a hf
            refine dr_take 16 (.int .u8 (((IntKind.u8.wrap ((gt q3 i16) + ((xx0_N).tmod (4 : Int))))).tmod (4 : Int))) rfl (by kernel_rfl) (by kernel_rfl) (by kernel_rfl) (by kernel_rfl) rfl rfl hf (by decide) (wantY hf rfl rfl hb132) (fun w hp => ?_) ⟨_, hp⟩ ?_
            · obtain ⟨_, hp⟩ := hp
              refine st_irem hf (by decide) (wantY hf rfl rfl hb132) rfl rfl (by decide) ?_
              clear hf; intro a ha hf
              exact st_nil hf (th_n ⟨ha, rfl⟩)
            clear hf; intro a hf
            refine dr_take 17 (.bool ((gt q84.1 i16) != (((IntKind.u8.wrap ((gt q3 i16) + ((xx0_N).tmod (4 : Int))))).tmod (4 : Int)))) rfl (by kernel_rfl) (by kernel_rfl) (by kernel_rfl) (by kernel_rfl) rfl rfl hf (by decide) (wantY hf rfl rfl hb132) (fun w hp => ?_) ⟨_, hp⟩ ?_
            · obtain ⟨_, hp⟩ := hp
              refine st_ineq hf (by decide) (wantY hf rfl rfl hb132) rfl rfl ?_
              clear hf; intro a ha hf
              exact st_nil hf (th_n ⟨ha, rfl⟩)
            clear hf; intro a hf
            refine dr_take 18 (.bool z135) rfl (by kernel_rfl) (by kernel_rfl) (by kernel_rfl) (by kernel_rfl) rfl rfl hf (by decide) rfl (fun w hp => ?_) ⟨_, hp⟩ ?_
            · obtain ⟨_, hp⟩ := hp
              refine st_pick (v := .bool z135) hf rfl rfl (fun _ => by rw [← hz131]; rfl) (fun hb' => absurd (hb132.symm.trans hb') (by decide)) (by decide) ?_
              clear hf; intro a ha hf
              exact st_nil hf (th_n ⟨ha, rfl⟩)
            clear hf; intro a hf
            refine dr_take 19 (.bool z135) rfl (by kernel_rfl) (by kernel_rfl) (by kernel_rfl) (by kernel_rfl) rfl rfl hf (by decide) rfl (fun w hp => ?_) ⟨_, hp⟩ ?_
            · obtain ⟨_, hp⟩ := hp
              refine st_move hf rfl rfl (by decide) ?_
              clear hf; intro a ha hf
              exact st_nil hf (th_n ⟨ha, rfl⟩)
            clear hf; intro a hf
            refine dr_out 20 rfl (by kernel_rfl) (by kernel_rfl) (by kernel_rfl) (by kernel_rfl) rfl hf (by decide) rfl (wantN hf rfl rfl hb137) ⟨_, hp⟩ ?_
            clear hf; intro a hf
            refine dr_out 21 rfl (by kernel_rfl) (by kernel_rfl) (by kernel_rfl) (by kernel_rfl) rfl hf (by decide) rfl (wantN hf rfl rfl hb137) ⟨_, hp⟩ ?_
            clear hf; intro a hf
            refine dr_out 22 rfl (by kernel_rfl) (by kernel_rfl) (by kernel_rfl) (by kernel_rfl) rfl hf (by decide) rfl (wantN hf rfl rfl hb137) ⟨_, hp⟩ ?_
            clear hf; intro a hf
            refine dr_out 23 rfl (by kernel_rfl) (by kernel_rfl) (by kernel_rfl) (by kernel_rfl) rfl hf (by decide) rfl (wantN hf rfl rfl hb137) ⟨_, hp⟩ ?_
            clear hf; intro a hf
            refine dr_out 24 rfl (by kernel_rfl) (by kernel_rfl) (by kernel_rfl) (by kernel_rfl) rfl hf (by decide) rfl (wantN hf rfl rfl hb137) ⟨_, hp⟩ ?_
            clear hf; intro a hf
            refine dr_outU 25 rfl (by kernel_rfl) (by kernel_rfl) (by kernel_rfl) (by kernel_rfl) rfl hf (by decide) (wantN hf rfl rfl hb137) ⟨_, hp⟩ ?_
            clear hf; intro a hf
            refine dr_out 26 rfl (by kernel_rfl) (by kernel_rfl) (by kernel_rfl) (by kernel_rfl) rfl hf (by decide) rfl (wantU hf rfl rfl) ⟨_, hp⟩ ?_
            clear hf; intro a hf
            refine dr_out 27 rfl (by kernel_rfl) (by kernel_rfl) (by kernel_rfl) (by kernel_rfl) rfl hf (by decide) rfl (wantU hf rfl rfl) ⟨_, hp⟩ ?_
            clear hf; intro a hf
            refine dr_out 28 rfl (by kernel_rfl) (by kernel_rfl) (by kernel_rfl) (by kernel_rfl) rfl hf (by decide) rfl (wantU hf rfl rfl) ⟨_, hp⟩ ?_
            clear hf; intro a hf
            refine dr_out 29 rfl (by kernel_rfl) (by kernel_rfl) (by kernel_rfl) (by kernel_rfl) rfl hf (by decide) rfl (wantU hf rfl rfl) ⟨_, hp⟩ ?_
            clear hf; intro a hf
            refine dr_out 30 rfl (by kernel_rfl) (by kernel_rfl) (by kernel_rfl) (by kernel_rfl) rfl hf (by decide) rfl (wantU hf rfl rfl) ⟨_, hp⟩ ?_
            clear hf; intro a hf
            refine dr_out 31 rfl (by kernel_rfl) (by kernel_rfl) (by kernel_rfl) (by kernel_rfl) rfl hf (by decide) rfl (wantN hf rfl rfl hb137) ⟨_, hp⟩ ?_
            clear hf; intro a hf
            refine dr_take 32 (.bool z143) rfl (by kernel_rfl) (by kernel_rfl) (by kernel_rfl) (by kernel_rfl) rfl rfl hf (by decide) rfl (fun w hp => ?_) ⟨_, hp⟩ ?_
            · obtain ⟨_, hp⟩ := hp
              refine st_pick (v := .bool z143) hf rfl rfl (fun _ => by rw [← hz136]; rfl) (fun hb' => absurd (hb137.symm.trans hb') (by decide)) (by decide) ?_
              clear hf; intro a ha hf
              exact st_nil hf (th_n ⟨ha, rfl⟩)
            clear hf; intro a hf
            refine dr_end (by kernel_rfl) ?_ _
            have hp := bk126 _ _ hp
            have hp := bk121 _ _ hp
            have hp := bk116 _ _ hp
            exact ⟨hf.sub ⟨rfl, rfl, rfl, rfl, rfl, rfl, rfl, rfl, rfl, trivial⟩, hp⟩
          skip
          replace hz136 := ifF hz136 hb137
          obtain ⟨hc138, hz136⟩ := chk hz136
          obtain ⟨z142, hz139, hz136⟩ := bnd hz136
          replace hz136 := Option.some.inj hz136
          rcases Bool.eq_false_or_eq_true (!(gt q82.2 i16)) with hb140 | hb140
          · skip
            replace hz139 := ifT hz139 hb140
            obtain ⟨hc141, hz139⟩ := chk hz139
            replace hz139 := Option.some.inj hz139
            refine dr_begin' (fun a w => Fr 301 a [(3, .int .u8 xx0_N), (4, v5), (5, v14), (7, v25), (10, v38), (13, v91), (14, v92), (16, .int .i64 i16), (192, .bool z143)] ∧ Hp S w0 w (Res.sl Ek.bool 4 v38 q82.2 :: Res.sl (Ek.int .u8) 5 v91 q84.1 :: Res.sl (Ek.int .u8) 5 v5 q3 :: Res.sl Ek.c128 49 v14 q7.1 :: Res.sl Ek.c128 49 v25 q18.1 :: Res.sl Ek.bool 4 v92 q84.2.1 :: ow)) (fun w' => ∃ l, Hp S122 w w' l) [] (by kernel_rfl) ?_
            refine dr_take 0 (v38) rfl (by kernel_rfl) (by kernel_rfl) (by kernel_rfl) (by kernel_rfl) rfl rfl hf (by decide) rfl (fun w hp => ?_) ⟨_, hp⟩ ?_
            · obtain ⟨_, hp⟩ := hp
              refine st_move hf rfl rfl (by decide) ?_
              clear hf; intro a ha hf
              exact st_nil hf (th_n ⟨ha, rfl⟩)
            clear hf; intro a hf
            refine dr_take 1 (.int .i64 i16) rfl (by kernel_rfl) (by kernel_rfl) (by kernel_rfl) (by kernel_rfl) rfl rfl hf (by decide) rfl (fun w hp => ?_) ⟨_, hp⟩ ?_
            · obtain ⟨_, hp⟩ := hp
              refine st_move hf rfl rfl (by decide) ?_
              clear hf; intro a ha hf
              exact st_nil hf (th_n ⟨ha, rfl⟩)
            clear hf; intro a hf
            refine dr_take 2 (eptr v38 i16 1) rfl (by kernel_rfl) (by kernel_rfl) (by kernel_rfl) (by kernel_rfl) rfl rfl hf (by decide) rfl (fun w hp => ?_) ⟨_, hp⟩ ?_
            · obtain ⟨_, hp⟩ := hp
              refine st_index (E := Ek.bool) hf (by decide) Try.underlying27 elt4 rfl rfl rfl (rl128.sl hp) hc130.1 hc130.2 ?_
              clear hf; intro a ha hf
              exact st_nil hf (th_n ⟨ha, rfl⟩)
            clear hf; intro a hf
            refine dr_take 3 (.bool (gt q82.2 i16)) rfl (by kernel_rfl) (by kernel_rfl) (by kernel_rfl) (by kernel_rfl) rfl rfl hf (by decide) rfl (fun w hp => ?_) ⟨_, hp⟩ ?_
            · obtain ⟨_, hp⟩ := hp
              refine st_ldB hf (by decide) pl4 rfl rfl (rl128.sl hp) hc130.1 hc130.2 ?_
              clear hf; intro a ha hf
              exact st_nil hf (th_n ⟨ha, rfl⟩)
            clear hf; intro a hf
            refine dr_take 4 (.bool (gt q82.2 i16)) rfl (by kernel_rfl) (by kernel_rfl) (by kernel_rfl) (by kernel_rfl) rfl rfl hf (by decide) rfl (fun w hp => ?_) ⟨_, hp⟩ ?_
            · obtain ⟨_, hp⟩ := hp
              refine st_move hf rfl rfl (by decide) ?_
              clear hf; intro a ha hf
              exact st_nil hf (th_n ⟨ha, rfl⟩)
            clear hf; intro a hf
            refine dr_take 5 (v91) rfl (by kernel_rfl) (by kernel_rfl) (by kernel_rfl) (by kernel_rfl) rfl rfl hf (by decide) (wantY hf rfl rfl hb132) (fun w hp => ?_) ⟨_, hp⟩ ?_
            · obtain ⟨_, hp⟩ := hp
              refine st_move hf (wantY hf rfl rfl hb132) rfl (by decide) ?_
              clear hf; intro a ha hf
              exact st_nil hf (th_n ⟨ha, rfl⟩)
            clear hf; intro a hf
            refine dr_take 6 (.int .i64 i16) rfl (by kernel_rfl) (by kernel_rfl) (by kernel_rfl) (by kernel_rfl) rfl rfl hf (by decide) (wantY hf rfl rfl hb132) (fun w hp => ?_) ⟨_, hp⟩ ?_
            · obtain ⟨_, hp⟩ := hp
              refine st_move hf (wantY hf rfl rfl hb132) rfl (by decide) ?_
              clear hf; intro a ha hf
              exact st_nil hf (th_n ⟨ha, rfl⟩)
            clear hf; intro a hf
            refine dr_take 7 (eptr v91 i16 1) rfl (by kernel_rfl) (by kernel_rfl) (by kernel_rfl) (by kernel_rfl) rfl rfl hf (by decide) (wantY hf rfl rfl hb132) (fun w hp => ?_) ⟨_, hp⟩ ?_
            · obtain ⟨_, hp⟩ := hp
              refine st_index (E := (Ek.int .u8)) hf (by decide) Try.underlying22 elt5 (wantY hf rfl rfl hb132) rfl rfl (rl129.sl hp) hc133.1 hc133.2 ?_
              clear hf; intro a ha hf
              exact st_nil hf (th_n ⟨ha, rfl⟩)
            clear hf; intro a hf
            refine dr_take 8 (.int .u8 (gt q84.1 i16)) rfl (by kernel_rfl) (by kernel_rfl) (by kernel_rfl) (by kernel_rfl) rfl rfl hf (by decide) (wantY hf rfl rfl hb132) (fun w hp => ?_) ⟨_, hp⟩ ?_
            · obtain ⟨_, hp⟩ := hp
              refine st_ldI hf (by decide) pl5 (wantY hf rfl rfl hb132) rfl (rl129.sl hp) hc133.1 hc133.2 ?_
              clear hf; intro a ha hf
              exact st_nil hf (th_n ⟨ha, rfl⟩)
            clear hf; intro a hf
            refine dr_take 9 (v5) rfl (by kernel_rfl) (by kernel_rfl) (by kernel_rfl) (by kernel_rfl) rfl rfl hf (by decide) (wantY hf rfl rfl hb132) (fun w hp => ?_) ⟨_, hp⟩ ?_
            · obtain ⟨_, hp⟩ := hp
              refine st_move hf (wantY hf rfl rfl hb132) rfl (by decide) ?_
              clear hf; intro a ha hf
              exact st_nil hf (th_n ⟨ha, rfl⟩)
            clear hf; intro a hf
            refine dr_take 10 (.int .i64 i16) rfl (by kernel_rfl) (by kernel_rfl) (by kernel_rfl) (by kernel_rfl) rfl rfl hf (by decide) (wantY hf rfl rfl hb132) (fun w hp => ?_) ⟨_, hp⟩ ?_
            · obtain ⟨_, hp⟩ := hp
              refine st_move hf (wantY hf rfl rfl hb132) rfl (by decide) ?_
              clear hf; intro a ha hf
              exact st_nil hf (th_n ⟨ha, rfl⟩)
            clear hf; intro a hf
            refine dr_take 11 (eptr v5 i16 1) rfl (by kernel_rfl) (by kernel_rfl) (by kernel_rfl) (by kernel_rfl) rfl rfl hf (by decide) (wantY hf rfl rfl hb132) (fun w hp => ?_) ⟨_, hp⟩ ?_
            · obtain ⟨_, hp⟩ := hp
              refine st_index (E := (Ek.int .u8)) hf (by decide) Try.underlying22 elt5 (wantY hf rfl rfl hb132) rfl rfl (rl127.sl hp) hc134.1 hc134.2 ?_
              clear hf; intro a ha hf
              exact st_nil hf (th_n ⟨ha, rfl⟩)
            clear hf; intro a hf
            refine dr_take 12 (.int .u8 (gt q3 i16)) rfl (by kernel_rfl) (by kernel_rfl) (by kernel_rfl) (by kernel_rfl) rfl rfl hf (by decide) (wantY hf rfl rfl hb132) (fun w hp => ?_) ⟨_, hp⟩ ?_
            · obtain ⟨_, hp⟩ := hp
              refine st_ldI hf (by decide) pl5 (wantY hf rfl rfl hb132) rfl (rl127.sl hp) hc134.1 hc134.2 ?_
              clear hf; intro a ha hf
              exact st_nil hf (th_n ⟨ha, rfl⟩)
            clear hf; intro a hf
            refine dr_take 13 (.int .u8 xx0_N) rfl (by kernel_rfl) (by kernel_rfl) (by kernel_rfl) (by kernel_rfl) rfl rfl hf (by decide) (wantY hf rfl rfl hb132) (fun w hp => ?_) ⟨_, hp⟩ ?_
            · obtain ⟨_, hp⟩ := hp
              refine st_move hf (wantY hf rfl rfl hb132) rfl (by decide) ?_
              clear hf; intro a ha hf
              exact st_nil hf (th_n ⟨ha, rfl⟩)
            clear hf; intro a hf
            refine dr_take 14 (.int .u8 ((xx0_N).tmod (4 : Int))) rfl (by kernel_rfl) (by kernel_rfl) (by kernel_rfl) (by kernel_rfl) rfl rfl hf (by decide) (wantY hf rfl rfl hb132) (fun w hp => ?_) ⟨_, hp⟩ ?_
            · obtain ⟨_, hp⟩ := hp
              refine st_irem hf (by decide) (wantY hf rfl rfl hb132) rfl rfl (by decide) ?_
              clear hf; intro a ha hf
              exact st_nil hf (th_n ⟨ha, rfl⟩)
            clear hf; intro a hf
            refine dr_take 15 (.int .u8 (IntKind.u8.wrap ((gt q3 i16) + ((xx0_N).tmod (4 : Int))))) rfl (by kernel_rfl) (by kernel_rfl) (by kernel_rfl) (by kernel_rfl) rfl rfl hf (by decide) (wantY hf rfl rfl hb132) (fun w hp => ?_) ⟨_, hp⟩ ?_
            · obtain ⟨_, hp⟩ := hp
              refine st_iadd hf (by decide) (wantY hf rfl rfl hb132) rfl rfl ?_
              clear hf; intro a ha hf
              exact st_nil hf (th_n ⟨ha, rfl⟩)
            clear hf; intro a hf
            refine dr_take 16 (.int .u8 (((IntKind.u8.wrap ((gt q3 i16) + ((xx0_N).tmod (4 : Int))))).tmod (4 : Int))) rfl (by kernel_rfl) (by kernel_rfl) (by kernel_rfl) (by kernel_rfl) rfl rfl hf (by decide) (wantY hf rfl rfl hb132) (fun w hp => ?_) ⟨_, hp⟩ ?_
            · obtain ⟨_, hp⟩ := hp
              refine st_irem hf (by decide) (wantY hf rfl rfl hb132) rfl rfl (by decide) ?_
              clear hf; intro a ha hf
              exact st_nil hf (th_n ⟨ha, rfl⟩)
            clear hf; intro a hf
            refine dr_take 17 (.bool ((gt q84.1 i16) != (((IntKind.u8.wrap ((gt q3 i16) + ((xx0_N).tmod (4 : Int))))).tmod (4 : Int)))) rfl (by kernel_rfl) (by kernel_rfl) (by kernel_rfl) (by kernel_rfl) rfl rfl hf (by decide) (wantY hf rfl rfl hb132) (fun w hp => ?_) ⟨_, hp⟩ ?_
            · obtain ⟨_, hp⟩ := hp
              refine st_ineq hf (by decide) (wantY hf rfl rfl hb132) rfl rfl ?_
              clear hf; intro a ha hf
              exact st_nil hf (th_n ⟨ha, rfl⟩)
            clear hf; intro a hf
            refine dr_take 18 (.bool z135) rfl (by kernel_rfl) (by kernel_rfl) (by kernel_rfl) (by kernel_rfl) rfl rfl hf (by decide) rfl (fun w hp => ?_) ⟨_, hp⟩ ?_
            · obtain ⟨_, hp⟩ := hp
              refine st_pick (v := .bool z135) hf rfl rfl (fun _ => by rw [← hz131]; rfl) (fun hb' => absurd (hb132.symm.trans hb') (by decide)) (by decide) ?_
              clear hf; intro a ha hf
              exact st_nil hf (th_n ⟨ha, rfl⟩)
            clear hf; intro a hf
            refine dr_take 19 (.bool z135) rfl (by kernel_rfl) (by kernel_rfl) (by kernel_rfl) (by kernel_rfl) rfl rfl hf (by decide) rfl (fun w hp => ?_) ⟨_, hp⟩ ?_
            · obtain ⟨_, hp⟩ := hp
              refine st_move hf rfl rfl (by decide) ?_
              clear hf; intro a ha hf
              exact st_nil hf (th_n ⟨ha, rfl⟩)
            clear hf; intro a hf
            refine dr_take 20 (v38) rfl (by kernel_rfl) (by kernel_rfl) (by kernel_rfl) (by kernel_rfl) rfl rfl hf (by decide) (wantY hf rfl rfl hb137) (fun w hp => ?_) ⟨_, hp⟩ ?_
            · obtain ⟨_, hp⟩ := hp
              refine st_move hf (wantY hf rfl rfl hb137) rfl (by decide) ?_
              clear hf; intro a ha hf
              exact st_nil hf (th_n ⟨ha, rfl⟩)
            clear hf; intro a hf
            refine dr_take 21 (.int .i64 i16) rfl (by kernel_rfl) (by kernel_rfl) (by kernel_rfl) (by kernel_rfl) rfl rfl hf (by decide) (wantY hf rfl rfl hb137) (fun w hp => ?_) ⟨_, hp⟩ ?_
            · obtain ⟨_, hp⟩ := hp
              refine st_move hf (wantY hf rfl rfl hb137) rfl (by decide) ?_
              clear hf; intro a ha hf
              exact st_nil hf (th_n ⟨ha, rfl⟩)
            clear hf; intro a hf
            refine dr_take 22 (eptr v38 i16 1) rfl (by kernel_rfl) (by kernel_rfl) (by kernel_rfl) (by kernel_rfl) rfl rfl hf (by decide) (wantY hf rfl rfl hb137) (fun w hp => ?_) ⟨_, hp⟩ ?_
            · obtain ⟨_, hp⟩ := hp
              refine st_index (E := Ek.bool) hf (by decide) Try.underlying27 elt4 (wantY hf rfl rfl hb137) rfl rfl (rl128.sl hp) hc138.1 hc138.2 ?_
              clear hf; intro a ha hf
              exact st_nil hf (th_n ⟨ha, rfl⟩)
            clear hf; intro a hf
            refine dr_take 23 (.bool (gt q82.2 i16)) rfl (by kernel_rfl) (by kernel_rfl) (by kernel_rfl) (by kernel_rfl) rfl rfl hf (by decide) (wantY hf rfl rfl hb137) (fun w hp => ?_) ⟨_, hp⟩ ?_
            · obtain ⟨_, hp⟩ := hp
              refine st_ldB hf (by decide) pl4 (wantY hf rfl rfl hb137) rfl (rl128.sl hp) hc138.1 hc138.2 ?_
              clear hf; intro a ha hf
              exact st_nil hf (th_n ⟨ha, rfl⟩)
            clear hf; intro a hf
            refine dr_take 24 (.bool (!(gt q82.2 i16))) rfl (by kernel_rfl) (by kernel_rfl) (by kernel_rfl) (by kernel_rfl) rfl rfl hf (by decide) (wantY hf rfl rfl hb137) (fun w hp => ?_) ⟨_, hp⟩ ?_
            · obtain ⟨_, hp⟩ := hp
              refine st_not hf (by decide) (wantY hf rfl rfl hb137) rfl ?_
              clear hf; intro a ha hf
              exact st_nil hf (th_n ⟨ha, rfl⟩)
            clear hf; intro a hf
            refine dr_take 25 (.bool (!(gt q82.2 i16))) rfl (by kernel_rfl) (by kernel_rfl) (by kernel_rfl) (by kernel_rfl) rfl rfl hf (by decide) (wantY hf rfl rfl hb137) (fun w hp => ?_) ⟨_, hp⟩ ?_
            · obtain ⟨_, hp⟩ := hp
              refine st_move hf (wantY hf rfl rfl hb137) rfl (by decide) ?_
              clear hf; intro a ha hf
              exact st_nil hf (th_n ⟨ha, rfl⟩)
            clear hf; intro a hf
            refine dr_take 26 (v91) rfl (by kernel_rfl) (by kernel_rfl) (by kernel_rfl) (by kernel_rfl) rfl rfl hf (by decide) (wantY hf rfl rfl hb140) (fun w hp => ?_) ⟨_, hp⟩ ?_
            · obtain ⟨_, hp⟩ := hp
              refine st_move hf (wantY hf rfl rfl hb140) rfl (by decide) ?_
              clear hf; intro a ha hf
              exact st_nil hf (th_n ⟨ha, rfl⟩)
            clear hf; intro a hf
            refine dr_take 27 (.int .i64 i16) rfl (by kernel_rfl) (by kernel_rfl) (by kernel_rfl) (by kernel_rfl) rfl rfl hf (by decide) (wantY hf rfl rfl hb140) (fun w hp => ?_) ⟨_, hp⟩ ?_
            · obtain ⟨_, hp⟩ := hp
              refine st_move hf (wantY hf rfl rfl hb140) rfl (by decide) ?_
              clear hf; intro a ha hf
              exact st_nil hf (th_n ⟨ha, rfl⟩)
            clear hf; intro a hf
            refine dr_take 28 (eptr v91 i16 1) rfl (by kernel_rfl) (by kernel_rfl) (by kernel_rfl) (by kernel_rfl) rfl rfl hf (by decide) (wantY hf rfl rfl hb140) (fun w hp => ?_) ⟨_, hp⟩ ?_
            · obtain ⟨_, hp⟩ := hp
              refine st_index (E := (Ek.int .u8)) hf (by decide) Try.underlying22 elt5 (wantY hf rfl rfl hb140) rfl rfl (rl129.sl hp) hc141.1 hc141.2 ?_
              clear hf; intro a ha hf
              exact st_nil hf (th_n ⟨ha, rfl⟩)
            clear hf; intro a hf
            refine dr_take 29 (.int .u8 (gt q84.1 i16)) rfl (by kernel_rfl) (by kernel_rfl) (by kernel_rfl) (by kernel_rfl) rfl rfl hf (by decide) (wantY hf rfl rfl hb140) (fun w hp => ?_) ⟨_, hp⟩ ?_
            · obtain ⟨_, hp⟩ := hp
              refine st_ldI hf (by decide) pl5 (wantY hf rfl rfl hb140) rfl (rl129.sl hp) hc141.1 hc141.2 ?_
              clear hf; intro a ha hf
              exact st_nil hf (th_n ⟨ha, rfl⟩)
            clear hf; intro a hf
            refine dr_take 30 (.bool ((gt q84.1 i16) != (0 : Int))) rfl (by kernel_rfl) (by kernel_rfl) (by kernel_rfl) (by kernel_rfl) rfl rfl hf (by decide) (wantY hf rfl rfl hb140) (fun w hp => ?_) ⟨_, hp⟩ ?_
            · obtain ⟨_, hp⟩ := hp
              refine st_ineq hf (by decide) (wantY hf rfl rfl hb140) rfl rfl ?_
              clear hf; intro a ha hf
              exact st_nil hf (th_n ⟨ha, rfl⟩)
            clear hf; intro a hf
            refine dr_take 31 (.bool z142) rfl (by kernel_rfl) (by kernel_rfl) (by kernel_rfl) (by kernel_rfl) rfl rfl hf (by decide) (wantY hf rfl rfl hb137) (fun w hp => ?_) ⟨_, hp⟩ ?_
            · obtain ⟨_, hp⟩ := hp
              refine st_pick (v := .bool z142) hf (wantY hf rfl rfl hb137) rfl (fun _ => by rw [← hz139]; rfl) (fun hb' => absurd (hb140.symm.trans hb') (by decide)) (by decide) ?_
              clear hf; intro a ha hf
              exact st_nil hf (th_n ⟨ha, rfl⟩)
            clear hf; intro a hf
            refine dr_take 32 (.bool z143) rfl (by kernel_rfl) (by kernel_rfl) (by kernel_rfl) (by kernel_rfl) rfl rfl hf (by decide) rfl (fun w hp => ?_) ⟨_, hp⟩ ?_
            · obtain ⟨_, hp⟩ := hp
              refine st_pick (v := .bool z143) hf rfl rfl (fun hb' => absurd (hb137.symm.trans hb') (by decide)) (fun _ => by rw [← hz136]; rfl) (by decide) ?_
              clear hf; intro a ha hf
              exact st_nil hf (th_n ⟨ha, rfl⟩)
            clear hf; intro a hf
            refine dr_end (by kernel_rfl) ?_ _
            have hp := bk126 _ _ hp
            have hp := bk121 _ _ hp
            have hp := bk116 _ _ hp
            exact ⟨hf.sub ⟨rfl, rfl, rfl, rfl, rfl, rfl, rfl, rfl, rfl, trivial⟩, hp⟩
          skip
          replace hz139 := ifF hz139 hb140
          replace hz139 := Option.some.inj hz139
          refine dr_begin' (fun a w => Fr 301 a [(3, .int .u8 xx0_N), (4, v5), (5, v14), (7, v25), (10, v38), (13, v91), (14, v92), (16, .int .i64 i16), (192, .bool z143)] ∧ Hp S w0 w (Res.sl Ek.bool 4 v38 q82.2 :: Res.sl (Ek.int .u8) 5 v91 q84.1 :: Res.sl (Ek.int .u8) 5 v5 q3 :: Res.sl Ek.c128 49 v14 q7.1 :: Res.sl Ek.c128 49 v25 q18.1 :: Res.sl Ek.bool 4 v92 q84.2.1 :: ow)) (fun w' => ∃ l, Hp S122 w w' l) [] (by kernel_rfl) ?_
          refine dr_take 0 (v38) rfl (by kernel_rfl) (by kernel_rfl) (by kernel_rfl) (by kernel_rfl) rfl rfl hf (by decide) rfl (fun w hp => ?_) ⟨_, hp⟩ ?_
          · obtain ⟨_, hp⟩ := hp
            refine st_move hf rfl rfl (by decide) ?_
            clear hf; intro a ha hf
            exact st_nil hf (th_n ⟨ha, rfl⟩)
          clear hf; intro a hf
          refine dr_take 1 (.int .i64 i16) rfl (by kernel_rfl) (by kernel_rfl) (by kernel_rfl) (by kernel_rfl) rfl rfl hf (by decide) rfl (fun w hp => ?_) ⟨_, hp⟩ ?_
          · obtain ⟨_, hp⟩ := hp
            refine st_move hf rfl rfl (by decide) ?_
            clear hf; intro a ha hf
            exact st_nil hf (th_n ⟨ha, rfl⟩)
          clear hf; intro a hf
          refine dr_take 2 (eptr v38 i16 1) rfl (by kernel_rfl) (by kernel_rfl) (by kernel_rfl) (by kernel_rfl) rfl rfl hf (by decide) rfl (fun w hp => ?_) ⟨_, hp⟩ ?_
          · obtain ⟨_, hp⟩ := hp
            refine st_index (E := Ek.bool) hf (by decide) Try.underlying27 elt4 rfl rfl rfl (rl128.sl hp) hc130.1 hc130.2 ?_
            clear hf; intro a ha hf
            exact st_nil hf (th_n ⟨ha, rfl⟩)
          clear hf; intro a hf
          refine dr_take 3 (.bool (gt q82.2 i16)) rfl (by kernel_rfl) (by kernel_rfl) (by kernel_rfl) (by kernel_rfl) rfl rfl hf (by decide) rfl (fun w hp => ?_) ⟨_, hp⟩ ?_
          · obtain ⟨_, hp⟩ := hp
            refine st_ldB hf (by decide) pl4 rfl rfl (rl128.sl hp) hc130.1 hc130.2 ?_
            clear hf; intro a ha hf
            exact st_nil hf (th_n ⟨ha, rfl⟩)
          clear hf; intro a hf
          refine dr_take 4 (.bool (gt q82.2 i16)) rfl (by kernel_rfl) (by kernel_rfl) (by kernel_rfl) (by kernel_rfl) rfl rfl hf (by decide) rfl (fun w hp => ?_) ⟨_, hp⟩ ?_
          · obtain ⟨_, hp⟩ := hp
            refine st_move hf rfl rfl (by decide) ?_
            clear hf; intro a ha hf
            exact st_nil hf (th_n ⟨ha, rfl⟩)
          clear hf; intro a hf
          refine dr_take 5 (v91) rfl (by kernel_rfl) (by kernel_rfl) (by kernel_rfl) (by kernel_rfl) rfl rfl hf (by decide) (wantY hf rfl rfl hb132) (fun w hp => ?_) ⟨_, hp⟩ ?_
          · obtain ⟨_, hp⟩ := hp
            refine st_move hf (wantY hf rfl rfl hb132) rfl (by decide) ?_
            clear hf; intro a ha hf
            exact st_nil hf (th_n ⟨ha, rfl⟩)
          clear hf; intro a hf
          refine dr_take 6 (.int .i64 i16) rfl (by kernel_rfl) (by kernel_rfl) (by kernel_rfl) (by kernel_rfl) rfl rfl hf (by decide) (wantY hf rfl rfl hb132) (fun w hp => ?_) ⟨_, hp⟩ ?_
          · obtain ⟨_, hp⟩ := hp
            refine st_move hf (wantY hf rfl rfl hb132) rfl (by decide) ?_
            clear hf; intro a ha hf
            exact st_nil hf (th_n ⟨ha, rfl⟩)
          clear hf; intro a hf
          refine dr_take 7 (eptr v91 i16 1) rfl (by kernel_rfl) (by kernel_rfl) (by kernel_rfl) (by kernel_rfl) rfl rfl hf (by decide) (wantY hf rfl rfl hb132) (fun w hp => ?_) ⟨_, hp⟩ ?_
          · obtain ⟨_, hp⟩ := hp
            refine st_index (E := (Ek.int .u8)) hf (by decide) Try.underlying22 elt5 (wantY hf rfl rfl hb132) rfl rfl (rl129.sl hp) hc133.1 hc133.2 ?_
            clear hf; intro a ha hf
            exact st_nil hf (th_n ⟨ha, rfl⟩)
          clear hf; intro a hf
          refine dr_take 8 (.int .u8 (gt q84.1 i16)) rfl (by kernel_rfl) (by kernel_rfl) (by kernel_rfl) (by kernel_rfl) rfl rfl hf (by decide) (wantY hf rfl rfl hb132) (fun w hp => ?_) ⟨_, hp⟩ ?_
          · obtain ⟨_, hp⟩ := hp
            refine st_ldI hf (by decide) pl5 (wantY hf rfl rfl hb132) rfl (rl129.sl hp) hc133.1 hc133.2 ?_
            clear hf; intro a ha hf
            exact st_nil hf (th_n ⟨ha, rfl⟩)
          clear hf; intro a hf
          refine dr_take 9 (v5) rfl (by kernel_rfl) (by kernel_rfl) (by kernel_rfl) (by kernel_rfl) rfl rfl hf (by decide) (wantY hf rfl rfl hb132) (fun w hp => ?_) ⟨_, hp⟩ ?_
          · obtain ⟨_, hp⟩ := hp
            refine st_move hf (wantY hf rfl rfl hb132) rfl (by decide) ?_
            clear hf; intro a ha hf
            exact st_nil hf (th_n ⟨ha, rfl⟩)
          clear hf; intro a hf
          refine dr_take 10 (.int .i64 i16) rfl (by kernel_rfl) (by kernel_rfl) (by kernel_rfl) (by kernel_rfl) rfl rfl hf (by decide) (wantY hf rfl rfl hb132) (fun w hp => ?_) ⟨_, hp⟩ ?_
          · obtain ⟨_, hp⟩ := hp
            refine st_move hf (wantY hf rfl rfl hb132) rfl (by decide) ?_
            clear hf; intro a ha hf
            exact st_nil hf (th_n ⟨ha, rfl⟩)
          clear hf; intro a hf
          refine dr_take 11 (eptr v5 i16 1) rfl (by kernel_rfl) (by kernel_rfl) (by kernel_rfl) (by kernel_rfl) rfl rfl hf (by decide) (wantY hf rfl rfl hb132) (fun w hp => ?_) ⟨_, hp⟩ ?_
          · obtain ⟨_, hp⟩ := hp
            refine st_index (E := (Ek.int .u8)) hf (by decide) Try.underlying22 elt5 (wantY hf rfl rfl hb132) rfl rfl (rl127.sl hp) hc134.1 hc134.2 ?_
            clear hf; intro a ha hf
            exact st_nil hf (th_n ⟨ha, rfl⟩)
          clear hf; intro a hf
          refine dr_take 12 (.int .u8 (gt q3 i16)) rfl (by kernel_rfl) (by kernel_rfl) (by kernel_rfl) (by kernel_rfl) rfl rfl hf (by decide) (wantY hf rfl rfl hb132) (fun w hp => ?_) ⟨_, hp⟩ ?_
          · obtain ⟨_, hp⟩ := hp
            refine st_ldI hf (by decide) pl5 (wantY hf rfl rfl hb132) rfl (rl127.sl hp) hc134.1 hc134.2 ?_
            clear hf; intro a ha hf
            exact st_nil hf (th_n ⟨ha, rfl⟩)
          clear hf; intro a hf
          refine dr_take 13 (.int .u8 xx0_N) rfl (by kernel_rfl) (by kernel_rfl) (by kernel_rfl) (by kernel_rfl) rfl rfl hf (by decide) (wantY hf rfl rfl hb132) (fun w hp => ?_) ⟨_, hp⟩ ?_
          · obtain ⟨_, hp⟩ := hp
            refine st_move hf (wantY hf rfl rfl hb132) rfl (by decide) ?_
            clear hf; intro a ha hf
            exact st_nil hf (th_n ⟨ha, rfl⟩)
          clear hf; intro a hf
          refine dr_take 14 (.int .u8 ((xx0_N).tmod (4 : Int))) rfl (by kernel_rfl) (by kernel_rfl) (by kernel_rfl) (by kernel_rfl) rfl rfl hf (by decide) (wantY hf rfl rfl hb132) (fun w hp => ?_) ⟨_, hp⟩ ?_
          · obtain ⟨_, hp⟩ := hp
            refine st_irem hf (by decide) (wantY hf rfl rfl hb132) rfl rfl (by decide) ?_
            clear hf; intro a ha hf
            exact st_nil hf (th_n ⟨ha, rfl⟩)
          clear hf; intro a hf
          refine dr_take 15 (.int .u8 (IntKind.u8.wrap ((gt q3 i16) + ((xx0_N).tmod (4 : Int))))) rfl (by kernel_rfl) (by kernel_rfl) (by kernel_rfl) (by kernel_rfl) rfl rfl hf (by decide) (wantY hf rfl rfl hb132) (fun w hp => ?_) ⟨_, hp⟩ ?_
          · obtain ⟨_, hp⟩ := hp
            refine st_iadd hf (by decide) (wantY hf rfl rfl hb132) rfl rfl ?_
            clear hf; intro a ha hf
            exact st_nil hf (th_n ⟨ha, rfl⟩)
          clear hf; intro a hf
          refine dr_take 16 (.int .u8 (((IntKind.u8.wrap ((gt q3 i16) + ((xx0_N).tmod (4 : Int))))).tmod (4 : Int))) rfl (by kernel_rfl) (by kernel_rfl) (by kernel_rfl) (by kernel_rfl) rfl rfl hf (by decide) (wantY hf rfl rfl hb132) (fun w hp => ?_) ⟨_, hp⟩ ?_
          · obtain ⟨_, hp⟩ := hp
            refine st_irem hf (by decide) (wantY hf rfl rfl hb132) rfl rfl (by decide) ?_
            clear hf; intro a ha hf
            exact st_nil hf (th_n ⟨ha, rfl⟩)
          clear hf; intro a hf
          refine dr_take 17 (.bool ((gt q84.1 i16) != (((IntKind.u8.wrap ((gt q3 i16) + ((xx0_N).tmod (4 : Int))))).tmod (4 : Int)))) rfl (by kernel_rfl) (by kernel_rfl) (by kernel_rfl) (by kernel_rfl) rfl rfl hf (by decide) (wantY hf rfl rfl hb132) (fun w hp => ?_) ⟨_, hp⟩ ?_
          · obtain ⟨_, hp⟩ := hp
            refine st_ineq hf (by decide) (wantY hf rfl rfl hb132) rfl rfl ?_
            clear hf; intro a ha hf
            exact st_nil hf (th_n ⟨ha, rfl⟩)
          clear hf; intro a hf
          refine dr_take 18 (.bool z135) rfl (by kernel_rfl) (by kernel_rfl) (by kernel_rfl) (by kernel_rfl) rfl rfl hf (by decide) rfl (fun w hp => ?_) ⟨_, hp⟩ ?_
          · obtain ⟨_, hp⟩ := hp
            refine st_pick (v := .bool z135) hf rfl rfl (fun _ => by rw [← hz131]; rfl) (fun hb' => absurd (hb132.symm.trans hb') (by decide)) (by decide) ?_
            clear hf; intro a ha hf
            exact st_nil hf (th_n ⟨ha, rfl⟩)
          clear hf; intro a hf
          refine dr_take 19 (.bool z135) rfl (by kernel_rfl) (by kernel_rfl) (by kernel_rfl) (by kernel_rfl) rfl rfl hf (by decide) rfl (fun w hp => ?_) ⟨_, hp⟩ ?_
          · obtain ⟨_, hp⟩ := hp
            refine st_move hf rfl rfl (by decide) ?_
            clear hf; intro a ha hf
            exact st_nil hf (th_n ⟨ha, rfl⟩)
          clear hf; intro a hf
          refine dr_take 20 (v38) rfl (by kernel_rfl) (by kernel_rfl) (by kernel_rfl) (by kernel_rfl) rfl rfl hf (by decide) (wantY hf rfl rfl hb137) (fun w hp => ?_) ⟨_, hp⟩ ?_
          · obtain ⟨_, hp⟩ := hp
            refine st_move hf (wantY hf rfl rfl hb137) rfl (by decide) ?_
            clear hf; intro a ha hf
            exact st_nil hf (th_n ⟨ha, rfl⟩)
          clear hf; intro a hf
          refine dr_take 21 (.int .i64 i16) rfl (by kernel_rfl) (by kernel_rfl) (by kernel_rfl) (by kernel_rfl) rfl rfl hf (by decide) (wantY hf rfl rfl hb137) (fun w hp => ?_) ⟨_, hp⟩ ?_
          · obtain ⟨_, hp⟩ := hp
            refine st_move hf (wantY hf rfl rfl hb137) rfl (by decide) ?_
            clear hf; intro a ha hf
            exact st_nil hf (th_n ⟨ha, rfl⟩)
          clear hf; intro a hf
          refine dr_take 22 (eptr v38 i16 1) rfl (by kernel_rfl) (by kernel_rfl) (by kernel_rfl) (by kernel_rfl) rfl rfl hf (by decide) (wantY hf rfl rfl hb137) (fun w hp => ?_) ⟨_, hp⟩ ?_
          · obtain ⟨_, hp⟩ := hp
            refine st_index (E := Ek.bool) hf (by decide) Try.underlying27 elt4 (wantY hf rfl rfl hb137) rfl rfl (rl128.sl hp) hc138.1 hc138.2 ?_
            clear hf; intro a ha hf
            exact st_nil hf (th_n ⟨ha, rfl⟩)
          clear hf; intro a hf
          refine dr_take 23 (.bool (gt q82.2 i16)) rfl (by kernel_rfl) (by kernel_rfl) (by kernel_rfl) (by kernel_rfl) rfl rfl hf (by decide) (wantY hf rfl rfl hb137) (fun w hp => ?_) ⟨_, hp⟩ ?_
          · obtain ⟨_, hp⟩ := hp
            refine st_ldB hf (by decide) pl4 (wantY hf rfl rfl hb137) rfl (rl128.sl hp) hc138.1 hc138.2 ?_
            clear hf; intro a ha hf
            exact st_nil hf (th_n ⟨ha, rfl⟩)
          clear hf; intro a hf
          refine dr_take 24 (.bool (!(gt q82.2 i16))) rfl (by kernel_rfl) (by kernel_rfl) (by kernel_rfl) (by kernel_rfl) rfl rfl hf (by decide) (wantY hf rfl rfl hb137) (fun w hp => ?_) ⟨_, hp⟩ ?_
          · obtain ⟨_, hp⟩ := hp
            refine st_not hf (by decide) (wantY hf rfl rfl hb137) rfl ?_
            clear hf; intro a ha hf
            exact st_nil hf (th_n ⟨ha, rfl⟩)
          clear hf; intro a hf
          refine dr_take 25 (.bool (!(gt q82.2 i16))) rfl (by kernel_rfl) (by kernel_rfl) (by kernel_rfl) (by kernel_rfl) rfl rfl hf (by decide) (wantY hf rfl rfl hb137) (fun w hp => ?_) ⟨_, hp⟩ ?_
          · obtain ⟨_, hp⟩ := hp
            refine st_move hf (wantY hf rfl rfl hb137) rfl (by decide) ?_
            clear hf; intro a ha hf
            exact st_nil hf (th_n ⟨ha, rfl⟩)
          clear hf; intro a hf
          refine dr_out 26 rfl (by kernel_rfl) (by kernel_rfl) (by kernel_rfl) (by kernel_rfl) rfl hf (by decide) rfl (wantN hf rfl rfl hb140) ⟨_, hp⟩ ?_
          clear hf; intro a hf
          refine dr_out 27 rfl (by kernel_rfl) (by kernel_rfl) (by kernel_rfl) (by kernel_rfl) rfl hf (by decide) rfl (wantN hf rfl rfl hb140) ⟨_, hp⟩ ?_
          clear hf; intro a hf
          refine dr_out 28 rfl (by kernel_rfl) (by kernel_rfl) (by kernel_rfl) (by kernel_rfl) rfl hf (by decide) rfl (wantN hf rfl rfl hb140) ⟨_, hp⟩ ?_
          clear hf; intro a hf
          refine dr_out 29 rfl (by kernel_rfl) (by kernel_rfl) (by kernel_rfl) (by kernel_rfl) rfl hf (by decide) rfl (wantN hf rfl rfl hb140) ⟨_, hp⟩ ?_
          clear hf; intro a hf
          refine dr_out 30 rfl (by kernel_rfl) (by kernel_rfl) (by kernel_rfl) (by kernel_rfl) rfl hf (by decide) rfl (wantN hf rfl rfl hb140) ⟨_, hp⟩ ?_
          clear hf; intro a hf
          refine dr_take 31 (.bool z142) rfl (by kernel_rfl) (by kernel_rfl) (by kernel_rfl) (by kernel_rfl) rfl rfl hf (by decide) (wantY hf rfl rfl hb137) (fun w hp => ?_) ⟨_, hp⟩ ?_
          · obtain ⟨_, hp⟩ := hp
            refine st_pick (v := .bool z142) hf (wantY hf rfl rfl hb137) rfl (fun hb' => absurd (hb140.symm.trans hb') (by decide)) (fun _ => by rw [← hz139]; rfl) (by decide) ?_
            clear hf; intro a ha hf
            exact st_nil hf (th_n ⟨ha, rfl⟩)
          clear hf; intro a hf
          refine dr_take 32 (.bool z143) rfl (by kernel_rfl) (by kernel_rfl) (by kernel_rfl) (by kernel_rfl) rfl rfl hf (by decide) rfl (fun w hp => ?_) ⟨_, hp⟩ ?_
          · obtain ⟨_, hp⟩ := hp
            refine st_pick (v := .bool z143) hf rfl rfl (fun hb' => absurd (hb137.symm.trans hb') (by decide)) (fun _ => by rw [← hz136]; rfl) (by decide) ?_
            clear hf; intro a ha hf
            exact st_nil hf (th_n ⟨ha, rfl⟩)
          clear hf; intro a hf
          refine dr_end (by kernel_rfl) ?_ _
          have hp := bk126 _ _ hp
          have hp := bk121 _ _ hp
          have hp := bk116 _ _ hp
          exact ⟨hf.sub ⟨rfl, rfl, rfl, rfl, rfl, rfl, rfl, rfl, rfl, trivial⟩, hp⟩
        skip
        replace hz131 := ifF hz131 hb132
        replace hz131 := Option.some.inj hz131
        have hb137 : z135 = false := hz131.symm
        skip
        replace hz136 := ifF hz136 hb137
        obtain ⟨hc138, hz136⟩ := chk hz136
        obtain ⟨z142, hz139, hz136⟩ := bnd hz136
        replace hz136 := Option.some.inj hz136
        rcases Bool.eq_false_or_eq_true (!(gt q82.2 i16)) with hb140 | hb140
        · skip
          replace hz139 := ifT hz139 hb140
          obtain ⟨hc141, hz139⟩ := chk hz139
          replace hz139 := Option.some.inj hz139
          refine dr_begin' (fun a w => Fr 301 a [(3, .int .u8 xx0_N), (4, v5), (5, v14), (7, v25), (10, v38), (13, v91), (14, v92), (16, .int .i64 i16), (192, .bool z143)] ∧ Hp S w0 w (Res.sl Ek.bool 4 v38 q82.2 :: Res.sl (Ek.int .u8) 5 v91 q84.1 :: Res.sl (Ek.int .u8) 5 v5 q3 :: Res.sl Ek.c128 49 v14 q7.1 :: Res.sl Ek.c128 49 v25 q18.1 :: Res.sl Ek.bool 4 v92 q84.2.1 :: ow)) (fun w' => ∃ l, Hp S122 w w' l) [] (by kernel_rfl) ?_
          refine dr_take 0 (v38) rfl (by kernel_rfl) (by kernel_rfl) (by kernel_rfl) (by kernel_rfl) rfl rfl hf (by decide) rfl (fun w hp => ?_) ⟨_, hp⟩ ?_
          · obtain ⟨_, hp⟩ := hp
            refine st_move hf rfl rfl (by decide) ?_
            clear hf; intro a ha hf
            exact st_nil hf (th_n ⟨ha, rfl⟩)
          clear hf; intro a hf
          refine dr_take 1 (.int .i64 i16) rfl (by kernel_rfl) (by kernel_rfl) (by kernel_rfl) (by kernel_rfl) rfl rfl hf (by decide) rfl (fun w hp => ?_) ⟨_, hp⟩ ?_
          · obtain ⟨_, hp⟩ := hp
            refine st_move hf rfl rfl (by decide) ?_
            clear hf; intro a ha hf
            exact st_nil hf (th_n ⟨ha, rfl⟩)
          clear hf; intro a hf
          refine dr_take 2 (eptr v38 i16 1) rfl (by kernel_rfl) (by kernel_rfl) (by kernel_rfl) (by kernel_rfl) rfl rfl hf (by decide) rfl (fun w hp => ?_) ⟨_, hp⟩ ?_
          · obtain ⟨_, hp⟩ := hp
            refine st_index (E := Ek.bool) hf (by decide) Try.underlying27 elt4 rfl rfl rfl (rl128.sl hp) hc130.1 hc130.2 ?_
            clear hf; intro a ha hf
            exact st_nil hf (th_n ⟨ha, rfl⟩)
          clear hf; intro a hf
          refine dr_take 3 (.bool (gt q82.2 i16)) rfl (by kernel_rfl) (by kernel_rfl) (by kernel_rfl) (by kernel_rfl) rfl rfl hf (by decide) rfl (fun w hp => ?_) ⟨_, hp⟩ ?_
          · obtain ⟨_, hp⟩ := hp
            refine st_ldB hf (by decide) pl4 rfl rfl (rl128.sl hp) hc130.1 hc130.2 ?_
            clear hf; intro a ha hf
            exact st_nil hf (th_n ⟨ha, rfl⟩)
          clear hf; intro a hf
          refine dr_take 4 (.bool (gt q82.2 i16)) rfl (by kernel_rfl) (by kernel_rfl) (by kernel_rfl) (by kernel_rfl) rfl rfl hf (by decide) rfl (fun w hp => ?_) ⟨_, hp⟩ ?_
          · obtain ⟨_, hp⟩ := hp
            refine st_move hf rfl rfl (by decide) ?_
            clear hf; intro a ha hf
            exact st_nil hf (th_n ⟨ha, rfl⟩)
          clear hf; intro a hf
          refine dr_out 5 rfl (by kernel_rfl) (by kernel_rfl) (by kernel_rfl) (by kernel_rfl) rfl hf (by decide) rfl (wantN hf rfl rfl hb132) ⟨_, hp⟩ ?_
          clear hf; intro a hf
          refine dr_out 6 rfl (by kernel_rfl) (by kernel_rfl) (by kernel_rfl) (by kernel_rfl) rfl hf (by decide) rfl (wantN hf rfl rfl hb132) ⟨_, hp⟩ ?_
          clear hf; intro a hf
          refine dr_out 7 rfl (by kernel_rfl) (by kernel_rfl) (by kernel_rfl) (by kernel_rfl) rfl hf (by decide) rfl (wantN hf rfl rfl hb132) ⟨_, hp⟩ ?_
          clear hf; intro a hf
          refine dr_out 8 rfl (by kernel_rfl) (by kernel_rfl) (by kernel_rfl) (by kernel_rfl) rfl hf (by decide) rfl (wantN hf rfl rfl hb132) ⟨_, hp⟩ ?_
          clear hf; intro a hf
          refine dr_out 9 rfl (by kernel_rfl) (by kernel_rfl) (by kernel_rfl) (by kernel_rfl) rfl hf (by decide) rfl (wantN hf rfl rfl hb132) ⟨_, hp⟩ ?_
          clear hf; intro a hf
          refine dr_out 10 rfl (by kernel_rfl) (by kernel_rfl) (by kernel_rfl) (by kernel_rfl) rfl hf (by decide) rfl (wantN hf rfl rfl hb132) ⟨_, hp⟩ ?_
          clear hf; intro a hf
          refine dr_out 11 rfl (by kernel_rfl) (by kernel_rfl) (by kernel_rfl) (by kernel_rfl) rfl hf (by decide) rfl (wantN hf rfl rfl hb132) ⟨_, hp⟩ ?_
          clear hf; intro a hf
          refine dr_out 12 rfl (by kernel_rfl) (by kernel_rfl) (by kernel_rfl) (by kernel_rfl) rfl hf (by decide) rfl (wantN hf rfl rfl hb132) ⟨_, hp⟩ ?_
          clear hf; intro a hf
          refine dr_out 13 rfl (by kernel_rfl) (by kernel_rfl) (by kernel_rfl) (by kernel_rfl) rfl hf (by decide) rfl (wantN hf rfl rfl hb132) ⟨_, hp⟩ ?_
          clear hf; intro a hf
          refine dr_out 14 rfl (by kernel_rfl) (by kernel_rfl) (by kernel_rfl) (by kernel_rfl) rfl hf (by decide) rfl (wantN hf rfl rfl hb132) ⟨_, hp⟩ ?_
          clear hf; intro a hf
          refine dr_out 15 rfl (by kernel_rfl) (by kernel_rfl) (by kernel_rfl) (by kernel_rfl) rfl hf (by decide) rfl (wantN hf rfl rfl hb132) ⟨_, hp⟩ ?_
          clear hf; intro a hf
          refine dr_out 16 rfl (by kernel_rfl) (by kernel_rfl) (by kernel_rfl) (by kernel_rfl) rfl hf (by decide) rfl (wantN hf rfl rfl hb132) ⟨_, hp⟩ ?_
          clear hf; intro a hf
          refine dr_out 17 rfl (by kernel_rfl) (by kernel_rfl) (by kernel_rfl) (by kernel_rfl) rfl hf (by decide) rfl (wantN hf rfl rfl hb132) ⟨_, hp⟩ ?_
          clear hf; intro a hf
          refine dr_take 18 (.bool z135) rfl (by kernel_rfl) (by kernel_rfl) (by kernel_rfl) (by kernel_rfl) rfl rfl hf (by decide) rfl (fun w hp => ?_) ⟨_, hp⟩ ?_
          · obtain ⟨_, hp⟩ := hp
            refine st_pick (v := .bool z135) hf rfl rfl (fun hb' => absurd (hb132.symm.trans hb') (by decide)) (fun _ => by rw [← hz131]; rfl) (by decide) ?_
            clear hf; intro a ha hf
            exact st_nil hf (th_n ⟨ha, rfl⟩)
          clear hf; intro a hf
          refine dr_take 19 (.bool z135) rfl (by kernel_rfl) (by kernel_rfl) (by kernel_rfl) (by kernel_rfl) rfl rfl hf (by decide) rfl (fun w hp => ?_) ⟨_, hp⟩ ?_
          · obtain ⟨_, hp⟩ := hp
            refine st_move hf rfl rfl (by decide) ?_
            clear hf; intro a ha hf
            exact st_nil hf (th_n ⟨ha, rfl⟩)
          clear hf; intro a hf
          refine dr_take 20 (v38) rfl (by kernel_rfl) (by kernel_rfl) (by kernel_rfl) (by kernel_rfl) rfl rfl hf (by decide) (wantY hf rfl rfl hb137) (fun w hp => ?_) ⟨_, hp⟩ ?_
          · obtain ⟨_, hp⟩ := hp
            refine st_move hf (wantY hf rfl rfl hb137) rfl (by decide) ?_
            clear hf; intro a ha hf
            exact st_nil hf (th_n ⟨ha, rfl⟩)
          clear hf; intro a hf
          refine dr_take 21 (.int .i64 i16) rfl (by kernel_rfl) (by kernel_rfl) (by kernel_rfl) (by kernel_rfl) rfl rfl hf (by decide) (wantY hf rfl rfl hb137) (fun w hp => ?_) ⟨_, hp⟩ ?_
          · obtain ⟨_, hp⟩ := hp
            refine st_move hf (wantY hf rfl rfl hb137) rfl (by decide) ?_
            clear hf; intro a ha hf
            exact st_nil hf (th_n ⟨ha, rfl⟩)
          clear hf; intro a hf
          refine dr_take 22 (eptr v38 i16 1) rfl (by kernel_rfl) (by kernel_rfl) (by kernel_rfl) (by kernel_rfl) rfl rfl hf (by decide) (wantY hf rfl rfl hb137) (fun w hp => ?_) ⟨_, hp⟩ ?_
          · obtain ⟨_, hp⟩ := hp
            refine st_index (E := Ek.bool) hf (by decide) Try.underlying27 elt4 (wantY hf rfl rfl hb137) rfl rfl (rl128.sl hp) hc138.1 hc138.2 ?_
            clear hf; intro a ha hf
            exact st_nil hf (th_n ⟨ha, rfl⟩)
          clear hf; intro a hf
          refine dr_take 23 (.bool (gt q82.2 i16)) rfl (by kernel_rfl) (by kernel_rfl) (by kernel_rfl) (by kernel_rfl) rfl rfl hf (by decide) (wantY hf rfl rfl hb137) (fun w hp => ?_) ⟨_, hp⟩ ?_
          · obtain ⟨_, hp⟩ := hp
            refine st_ldB hf (by decide) pl4 (wantY hf rfl rfl hb137) rfl (rl128.sl hp) hc138.1 hc138.2 ?_
            clear hf; intro a ha hf
            exact st_nil hf (th_n ⟨ha, rfl⟩)
          clear hf; intro a hf
          refine dr_take 24 (.bool (!(gt q82.2 i16))) rfl (by kernel_rfl) (by kernel_rfl) (by kernel_rfl) (by kernel_rfl) rfl rfl hf (by decide) (wantY hf rfl rfl hb137) (fun w hp => ?_) ⟨_, hp⟩ ?_
          · obtain ⟨_, hp⟩ := hp
            refine st_not hf (by decide) (wantY hf rfl rfl hb137) rfl ?_
            clear hf; intro a ha hf
            exact st_nil hf (th_n ⟨ha, rfl⟩)
          clear hf; intro a hf
          refine dr_take 25 (.bool (!(gt q82.2 i16))) rfl (by kernel_rfl) (by kernel_rfl) (by kernel_rfl) (by kernel_rfl) rfl rfl hf (by decide) (wantY hf rfl rfl hb137) (fun w hp => ?_) ⟨_, hp⟩ ?_
          · obtain ⟨_, hp⟩ := hp
            refine st_move hf (wantY hf rfl rfl hb137) rfl (by decide) ?_
            clear hf; intro a ha hf
            exact st_nil hf (th_n ⟨ha, rfl⟩)
          clear hf; intro a hf
          refine dr_take 26 (v91) rfl (by kernel_rfl) (by kernel_rfl) (by kernel_rfl) (by kernel_rfl) rfl rfl hf (by decide) (wantY hf rfl rfl hb140) (fun w hp => ?_) ⟨_, hp⟩ ?_
          · obtain ⟨_, hp⟩ := hp
            refine st_move hf (wantY hf rfl rfl hb140) rfl (by decide) ?_
            clear hf; intro a ha hf
            exact st_nil hf (th_n ⟨ha, rfl⟩)
          clear hf; intro a hf
          refine dr_take 27 (.int .i64 i16) rfl (by kernel_rfl) (by kernel_rfl) (by kernel_rfl) (by kernel_rfl) rfl rfl hf (by decide) (wantY hf rfl rfl hb140) (fun w hp => ?_) ⟨_, hp⟩ ?_
          · obtain ⟨_, hp⟩ := hp
            refine st_move hf (wantY hf rfl rfl hb140) rfl (by decide) ?_
            clear hf; intro a ha hf
            exact st_nil hf (th_n ⟨ha, rfl⟩)
          clear hf; intro a hf
          refine dr_take 28 (eptr v91 i16 1) rfl (by kernel_rfl) (by kernel_rfl) (by kernel_rfl) (by kernel_rfl) rfl rfl hf (by decide) (wantY hf rfl rfl hb140) (fun w hp => ?_) ⟨_, hp⟩ ?_
          · obtain ⟨_, hp⟩ := hp
            refine st_index (E := (Ek.int .u8)) hf (by decide) Try.underlying22 elt5 (wantY hf rfl rfl hb140) rfl rfl (rl129.sl hp) hc141.1 hc141.2 ?_
            clear hf; intro a ha hf
            exact st_nil hf (th_n ⟨ha, rfl⟩)
          clear hf; intro a hf
          refine dr_take 29 (.int .u8 (gt q84.1 i16)) rfl (by kernel_rfl) (by kernel_rfl) (by kernel_rfl) (by kernel_rfl) rfl rfl hf (by decide) (wantY hf rfl rfl hb140) (fun w hp => ?_) ⟨_, hp⟩ ?_
          · obtain ⟨_, hp⟩ := hp
            refine st_ldI hf (by decide) pl5 (wantY hf rfl rfl hb140) rfl (rl129.sl hp) hc141.1 hc141.2 ?_
            clear hf; intro a ha hf
            exact st_nil hf (th_n ⟨ha, rfl⟩)
          clear hf; intro a hf
          refine dr_take 30 (.bool ((gt q84.1 i16) != (0 : Int))) rfl (by kernel_rfl) (by kernel_rfl) (by kernel_rfl) (by kernel_rfl) rfl rfl hf (by decide) (wantY hf rfl rfl hb140) (fun w hp => ?_) ⟨_, hp⟩ ?_
          · obtain ⟨_, hp⟩ := hp
            refine st_ineq hf (by decide) (wantY hf rfl rfl hb140) rfl rfl ?_
            clear hf; intro a ha hf
            exact st_nil hf (th_n ⟨ha, rfl⟩)
          clear hf; intro a hf
          refine dr_take 31 (.bool z142) rfl (by kernel_rfl) (by kernel_rfl) (by kernel_rfl) (by kernel_rfl) rfl rfl hf (by decide) (wantY hf rfl rfl hb137) (fun w hp => ?_) ⟨_, hp⟩ ?_
          · obtain ⟨_, hp⟩ := hp
            refine st_pick (v := .bool z142) hf (wantY hf rfl rfl hb137) rfl (fun _ => by rw [← hz139]; rfl) (fun hb' => absurd (hb140.symm.trans hb') (by decide)) (by decide) ?_
            clear hf; intro a ha hf
            exact st_nil hf (th_n ⟨ha, rfl⟩)
          clear hf; intro a hf
          refine dr_take 32 (.bool z143) rfl (by kernel_rfl) (by kernel_rfl) (by kernel_rfl) (by kernel_rfl) rfl rfl hf (by decide) rfl (fun w hp => ?_) ⟨_, hp⟩ ?_
          · obtain ⟨_, hp⟩ := hp
            refine st_pick (v := .bool z143) hf rfl rfl (fun hb' => absurd (hb137.symm.trans hb') (by decide)) (fun _ => by rw [← hz136]; rfl) (by decide) ?_
            clear hf; intro a ha hf
            exact st_nil hf (th_n ⟨ha, rfl⟩)
          clear hf; intro a hf
          refine dr_end (by kernel_rfl) ?_ _
          have hp := bk126 _ _ hp
          have hp := bk121 _ _ hp
          have hp := bk116 _ _ hp
          exact ⟨hf.sub ⟨rfl, rfl, rfl, rfl, rfl, rfl, rfl, rfl, rfl, trivial⟩, hp⟩
        skip
        replace hz139 := ifF hz139 hb140
        replace hz139 := Option.some.inj hz139
        refine dr_begin' (fun a w => Fr 301 a [(3, .int .u8 xx0_N), (4, v5), (5, v14), (7, v25), (10, v38), (13, v91), (14, v92), (16, .int .i64 i16), (192, .bool z143)] ∧ Hp S w0 w (Res.sl Ek.bool 4 v38 q82.2 :: Res.sl (Ek.int .u8) 5 v91 q84.1 :: Res.sl (Ek.int .u8) 5 v5 q3 :: Res.sl Ek.c128 49 v14 q7.1 :: Res.sl Ek.c128 49 v25 q18.1 :: Res.sl Ek.bool 4 v92 q84.2.1 :: ow)) (fun w' => ∃ l, Hp S122 w w' l) [] (by kernel_rfl) ?_
        refine dr_take 0 (v38) rfl (by kernel_rfl) (by kernel_rfl) (by kernel_rfl) (by kernel_rfl) rfl rfl hf (by decide) rfl (fun w hp => ?_) ⟨_, hp⟩ ?_
        · obtain ⟨_, hp⟩ := hp
          refine st_move hf rfl rfl (by decide) ?_
          clear hf; intro a ha hf
          exact st_nil hf (th_n ⟨ha, rfl⟩)
        clear hf; intro a hf
        refine dr_take 1 (.int .i64 i16) rfl (by kernel_rfl) (by kernel_rfl) (by kernel_rfl) (by kernel_rfl) rfl rfl hf (by decide) rfl (fun w hp => ?_) ⟨_, hp⟩ ?_
        · obtain ⟨_, hp⟩ := hp
          refine st_move hf rfl rfl (by decide) ?_
          clear hf; intro a ha hf
          exact st_nil hf (th_n ⟨ha, rfl⟩)
        clear hf; intro a hf
        refine dr_take 2 (eptr v38 i16 1) rfl (by kernel_rfl) (by kernel_rfl) (by kernel_rfl) (by kernel_rfl) rfl rfl hf (by decide) rfl (fun w hp => ?_) ⟨_, hp⟩ ?_
        · obtain ⟨_, hp⟩ := hp
          refine st_index (E := Ek.bool) hf (by decide) Try.underlying27 elt4 rfl rfl rfl (rl128.sl hp) hc130.1 hc130.2 ?_
          clear hf; intro a ha hf
          exact st_nil hf (th_n ⟨ha, rfl⟩)
        clear hf; intro a hf
        refine dr_take 3 (.bool (gt q82.2 i16)) rfl (by kernel_rfl) (by kernel_rfl) (by kernel_rfl) (by kernel_rfl) rfl rfl hf (by decide) rfl (fun w hp => ?_) ⟨_, hp⟩ ?_
        · obtain ⟨_, hp⟩ := hp
          refine st_ldB hf (by decide) pl4 rfl rfl (rl128.sl hp) hc130.1 hc130.2 ?_
          clear hf; intro a ha hf
          exact st_nil hf (th_n ⟨ha, rfl⟩)
        clear hf; intro a hf
        refine dr_take 4 (.bool (gt q82.2 i16)) rfl (by kernel_rfl) (by kernel_rfl) (by kernel_rfl) (by kernel_rfl) rfl rfl hf (by decide) rfl (fun w hp => ?_) ⟨_, hp⟩ ?_
        · obtain ⟨_, hp⟩ := hp
          refine st_move hf rfl rfl (by decide) ?_
          clear hf; intro a ha hf
          exact st_nil hf (th_n ⟨ha, rfl⟩)
        clear hf; intro a hf
        refine dr_out 5 rfl (by kernel_rfl) (by kernel_rfl) (by kernel_rfl) (by kernel_rfl) rfl hf (by decide) rfl (wantN hf rfl rfl hb132) ⟨_, hp⟩ ?_
        clear hf; intro a hf
        refine dr_out 6 rfl (by kernel_rfl) (by kernel_rfl) (by kernel_rfl) (by kernel_rfl) rfl hf (by decide) rfl (wantN hf rfl rfl hb132) ⟨_, hp⟩ ?_
        clear hf; intro a hf
        refine dr_out 7 rfl (by kernel_rfl) (by kernel_rfl) (by kernel_rfl) (by kernel_rfl) rfl hf (by decide) rfl (wantN hf rfl rfl hb132) ⟨_, hp⟩ ?_
        clear hf; intro a hf
        refine dr_out 8 rfl (by kernel_rfl) (by kernel_rfl) (by kernel_rfl) (by kernel_rfl) rfl hf (by decide) rfl (wantN hf rfl rfl hb132) ⟨_, hp⟩ ?_
        clear hf; intro a hf
        refine dr_out 9 rfl (by kernel_rfl) (by kernel_rfl) (by kernel_rfl) (by kernel_rfl) rfl hf (by decide) rfl (wantN hf rfl rfl hb132) ⟨_, hp⟩ ?_
        clear hf; intro a hf
        refine dr_out 10 rfl (by kernel_rfl) (by kernel_rfl) (by kernel_rfl) (by kernel_rfl) rfl hf (by decide) rfl (wantN hf rfl rfl hb132) ⟨_, hp⟩ ?_
        clear hf; intro a hf
        refine dr_out 11 rfl (by kernel_rfl) (by kernel_rfl) (by kernel_rfl) (by kernel_rfl) rfl hf (by decide) rfl (wantN hf rfl rfl hb132) ⟨_, hp⟩ ?_
        clear hf; intro a hf
        refine dr_out 12 rfl (by kernel_rfl) (by kernel_rfl) (by kernel_rfl) (by kernel_rfl) rfl hf (by decide) rfl (wantN hf rfl rfl hb132) ⟨_, hp⟩ ?_
        clear hf; intro a hf
        refine dr_out 13 rfl (by kernel_rfl) (by kernel_rfl) (by kernel_rfl) (by kernel_rfl) rfl hf (by decide) rfl (wantN hf rfl rfl hb132) ⟨_, hp⟩ ?_
        clear hf; intro a hf
        refine dr_out 14 rfl (by kernel_rfl) (by kernel_rfl) (by kernel_rfl) (by kernel_rfl) rfl hf (by decide) rfl (wantN hf rfl rfl hb132) ⟨_, hp⟩ ?_
        clear hf; intro a hf
        refine dr_out 15 rfl (by kernel_rfl) (by kernel_rfl) (by kernel_rfl) (by kernel_rfl) rfl hf (by decide) rfl (wantN hf rfl rfl hb132) ⟨_, hp⟩ ?_
        clear hf; intro a hf
        refine dr_out 16 rfl (by kernel_rfl) (by kernel_rfl) (by kernel_rfl) (by kernel_rfl) rfl hf (by decide) rfl (wantN hf rfl rfl hb132) ⟨_, hp⟩ ?_
        clear hf; intro a hf
        refine dr_out 17 rfl (by kernel_rfl) (by kernel_rfl) (by kernel_rfl) (by kernel_rfl) rfl hf (by decide) rfl (wantN hf rfl rfl hb132) ⟨_, hp⟩ ?_
        clear hf; intro a hf
        refine dr_take 18 (.bool z135) rfl (by kernel_rfl) (by kernel_rfl) (by kernel_rfl) (by kernel_rfl) rfl rfl hf (by decide) rfl (fun w hp => ?_) ⟨_, hp⟩ ?_
        · obtain ⟨_, hp⟩ := hp
          refine st_pick (v := .bool z135) hf rfl rfl (fun hb' => absurd (hb132.symm.trans hb') (by decide)) (fun _ => by rw [← hz131]; rfl) (by decide) ?_
          clear hf; intro a ha hf
          exact st_nil hf (th_n ⟨ha, rfl⟩)
        clear hf; intro a hf
        refine dr_take 19 (.bool z135) rfl (by kernel_rfl) (by kernel_rfl) (by kernel_rfl) (by kernel_rfl) rfl rfl hf (by decide) rfl (fun w hp => ?_) ⟨_, hp⟩ ?_
        · obtain ⟨_, hp⟩ := hp
          refine st_move hf rfl rfl (by decide) ?_
          clear hf; intro a ha hf
          exact st_nil hf (th_n ⟨ha, rfl⟩)
        clear hf; intro a hf
        refine dr_take 20 (v38) rfl (by kernel_rfl) (by kernel_rfl) (by kernel_rfl) (by kernel_rfl) rfl rfl hf (by decide) (wantY hf rfl rfl hb137) (fun w hp => ?_) ⟨_, hp⟩ ?_
        · obtain ⟨_, hp⟩ := hp
          refine st_move hf (wantY hf rfl rfl hb137) rfl (by decide) ?_
          clear hf; intro a ha hf
          exact st_nil hf (th_n ⟨ha, rfl⟩)
        clear hf; intro a hf
        refine dr_take 21 (.int .i64 i16) rfl (by kernel_rfl) (by kernel_rfl) (by kernel_rfl) (by kernel_rfl) rfl rfl hf (by decide) (wantY hf rfl rfl hb137) (fun w hp => ?_) ⟨_, hp⟩ ?_
        · obtain ⟨_, hp⟩ := hp
          refine st_move hf (wantY hf rfl rfl hb137) rfl (by decide) ?_
          clear hf; intro a ha hf
          exact st_nil hf (th_n ⟨ha, rfl⟩)
        clear hf; intro a hf
        refine dr_take 22 (eptr v38 i16 1) rfl (by kernel_rfl) (by kernel_rfl) (by kernel_rfl) (by kernel_rfl) rfl rfl hf (by decide) (wantY hf rfl rfl hb137) (fun w hp => ?_) ⟨_, hp⟩ ?_
        · obtain ⟨_, hp⟩ := hp
          refine st_index (E := Ek.bool) hf (by decide) Try.underlying27 elt4 (wantY hf rfl rfl hb137) rfl rfl (rl128.sl hp) hc138.1 hc138.2 ?_
          clear hf; intro a ha hf
          exact st_nil hf (th_n ⟨ha, rfl⟩)
        clear hf; intro a hf
        refine dr_take 23 (.bool (gt q82.2 i16)) rfl (by kernel_rfl) (by kernel_rfl) (by kernel_rfl) (by kernel_rfl) rfl rfl hf (by decide) (wantY hf rfl rfl hb137) (fun w hp => ?_) ⟨_, hp⟩ ?_
        · obtain ⟨_, hp⟩ := hp
          refine st_ldB hf (by decide) pl4 (wantY hf rfl rfl hb137) rfl (rl128.sl hp) hc138.1 hc138.2 ?_
          clear hf; intro a ha hf
          exact st_nil hf (th_n ⟨ha, rfl⟩)
        clear hf; intro a hf
        refine dr_take 24 (.bool (!(gt q82.2 i16))) rfl (by kernel_rfl) (by kernel_rfl) (by kernel_rfl) (by kernel_rfl) rfl rfl hf (by decide) (wantY hf rfl rfl hb137) (fun w hp => ?_) ⟨_, hp⟩ ?_
        · obtain ⟨_, hp⟩ := hp
          refine st_not hf (by decide) (wantY hf rfl rfl hb137) rfl ?_
          clear hf; intro a ha hf
          exact st_nil hf (th_n ⟨ha, rfl⟩)
        clear hf; intro a hf
        refine dr_take 25 (.bool (!(gt q82.2 i16))) rfl (by kernel_rfl) (by kernel_rfl) (by kernel_rfl) (by kernel_rfl) rfl rfl hf (by decide) (wantY hf rfl rfl hb137) (fun w hp => ?_) ⟨_, hp⟩ ?_
        · obtain ⟨_, hp⟩ := hp
          refine st_move hf (wantY hf rfl rfl hb137) rfl (by decide) ?_
          clear hf; intro a ha hf
          exact st_nil hf (th_n ⟨ha, rfl⟩)
        clear hf; intro a hf
        refine dr_out 26 rfl (by kernel_rfl) (by kernel_rfl) (by kernel_rfl) (by kernel_rfl) rfl hf (by decide) rfl (wantN hf rfl rfl hb140) ⟨_, hp⟩ ?_
        clear hf; intro a hf
        refine dr_out 27 rfl (by kernel_rfl) (by kernel_rfl) (by kernel_rfl) (by kernel_rfl) rfl hf (by decide) rfl (wantN hf rfl rfl hb140) ⟨_, hp⟩ ?_
        clear hf; intro a hf
        refine dr_out 28 rfl (by kernel_rfl) (by kernel_rfl) (by kernel_rfl) (by kernel_rfl) rfl hf (by decide) rfl (wantN hf rfl rfl hb140) ⟨_, hp⟩ ?_
        clear hf; intro a hf
        refine dr_out 29 rfl (by kernel_rfl) (by kernel_rfl) (by kernel_rfl) (by kernel_rfl) rfl hf (by decide) rfl (wantN hf rfl rfl hb140) ⟨_, hp⟩ ?_
        clear hf; intro a hf
        refine dr_out 30 rfl (by kernel_rfl) (by kernel_rfl) (by kernel_rfl) (by kernel_rfl) rfl hf (by decide) rfl (wantN hf rfl rfl hb140) ⟨_, hp⟩ ?_
        clear hf; intro a hf
        refine dr_take 31 (.bool z142) rfl (by kernel_rfl) (by kernel_rfl) (by kernel_rfl) (by kernel_rfl) rfl rfl hf (by decide) (wantY hf rfl rfl hb137) (fun w hp => ?_) ⟨_, hp⟩ ?_
        · obtain ⟨_, hp⟩ := hp
          refine st_pick (v := .bool z142) hf (wantY hf rfl rfl hb137) rfl (fun hb' => absurd (hb140.symm.trans hb') (by decide)) (fun _ => by rw [← hz139]; rfl) (by decide) ?_
          clear hf; intro a ha hf
          exact st_nil hf (th_n ⟨ha, rfl⟩)
        clear hf; intro a hf
        refine dr_take 32 (.bool z143) rfl (by kernel_rfl) (by kernel_rfl) (by kernel_rfl) (by kernel_rfl) rfl rfl hf (by decide) rfl (fun w hp => ?_) ⟨_, hp⟩ ?_
        · obtain ⟨_, hp⟩ := hp
          refine st_pick (v := .bool z143) hf rfl rfl (fun hb' => absurd (hb137.symm.trans hb') (by decide)) (fun _ => by rw [← hz136]; rfl) (by decide) ?_
          clear hf; intro a ha hf
          exact st_nil hf (th_n ⟨ha, rfl⟩)
        clear hf; intro a hf
        refine dr_end (by kernel_rfl) ?_ _
        have hp := bk126 _ _ hp
        have hp := bk121 _ _ hp
        have hp := bk116 _ _ hp
        exact ⟨hf.sub ⟨rfl, rfl, rfl, rfl, rfl, rfl, rfl, rfl, rfl, trivial⟩, hp⟩
      rintro a w ⟨hf, hp⟩
      refine th_n ?_
      refine wp_if hf rfl (fun hb => ?_) (fun hb => ?_)
      · replace h := ifT h hb
        refine wp_seq ?_
        refine wp_reg ?_
        refine st_assign hf rfl rfl (by decide) ?_
        clear hf; intro a ha hf; clear ha
        refine st_nil hf ?_
        refine th_n ?_
        refine wp_ret ?_
        refine ib_r ?_
        refine th_r ?_
        obtain rfl := Option.some.inj h
        have hp : Hp _ _ _ (ow) := Hp.sel (pre := [Res.sl Ek.bool 4 v38 q82.2, Res.sl (Ek.int .u8) 5 v91 q84.1, Res.sl (Ek.int .u8) 5 v5 q3, Res.sl Ek.c128 49 v14 q7.1, Res.sl Ek.c128 49 v25 q18.1, Res.sl Ek.bool 4 v92 q84.2.1]) (tail := ow) (rs' := []) hp [] (by decide) (by simp) rfl
        exact rnd_r (by simp) ⟨rfl, ⟨hf.sub ⟨rfl, trivial⟩, hp⟩⟩
      replace h := ifF h hb
      refine wp_skip ?_
      refine ib_n ?_
      refine th_n ?_
      refine wp_reg ?_
      refine st_move hf rfl rfl (by decide) ?_
      clear hf; intro a ha hf; clear ha
      refine st_iadd hf (by decide) rfl rfl rfl ?_
      clear hf; intro a ha hf; clear ha
      refine st_assign hf rfl rfl (by decide) ?_
      clear hf; intro a ha hf; clear ha
      refine st_nil hf ?_
      obtain rfl := Option.some.inj h
      have hp : Hp _ _ _ (Res.sl (Ek.int .u8) 5 v5 q3 :: Res.sl Ek.c128 49 v14 q7.1 :: Res.sl Ek.c128 49 v25 q18.1 :: Res.sl Ek.bool 4 v38 q82.2 :: Res.sl (Ek.int .u8) 5 v91 q84.1 :: Res.sl Ek.bool 4 v92 q84.2.1 :: ow) := Hp.sel (pre := [Res.sl Ek.bool 4 v38 q82.2, Res.sl (Ek.int .u8) 5 v91 q84.1, Res.sl (Ek.int .u8) 5 v5 q3, Res.sl Ek.c128 49 v14 q7.1, Res.sl Ek.c128 49 v25 q18.1, Res.sl Ek.bool 4 v92 q84.2.1]) (tail := ow) (rs' := [Res.sl (Ek.int .u8) 5 v5 q3, Res.sl Ek.c128 49 v14 q7.1, Res.sl Ek.c128 49 v25 q18.1, Res.sl Ek.bool 4 v38 q82.2, Res.sl (Ek.int .u8) 5 v91 q84.1, Res.sl Ek.bool 4 v92 q84.2.1]) hp [2, 3, 4, 0, 1, 5] (by decide) (by simp) rfl
      exact rnd_l ⟨hf.sub ⟨rfl, rfl, rfl, rfl, rfl, rfl, rfl, rfl, trivial⟩, hp⟩
    replace h := ifF h hb
    refine wp_exit ?_
    refine th_e ?_
    obtain rfl := Option.some.inj h
    exact rnd_r (by simp) ⟨rfl, hf.sub ⟨rfl, rfl, rfl, rfl, rfl, rfl, rfl, trivial⟩, hp⟩
  clear hl hf hp
  intro e a w hne hO
  rcases q144 with q145 | q146
  · replace h := smL h
    obtain ⟨rfl, hf, hp⟩ := hO
    refine ib_same ?_
    refine th_n ?_
    refine wp_seq ?_
    refine wp_reg ?_
    refine st_move hf rfl rfl (by decide) ?_
    clear hf; intro a ha hf; clear ha
    refine st_move hf rfl rfl (by decide) ?_
    clear hf; intro a ha hf; clear ha
    obtain ⟨q147, hcall148, h⟩ := bnd h
    obtain ⟨S149, hp150, rd151, up152, bk153⟩ := Hp.lendS hp (i := 4) rfl
    obtain ⟨S154, hp155, rd156, up157, bk158⟩ := Hp.lendS hp150 (i := 4) rfl
    refine st_call hf (by decide) Try.func32 rfl rfl rfl rfl rfl (f_turns_Marked_c hp155 _ _ ((rd151.now hp150).mono up157) _ _ rd156 hcall148) ?_
    rintro _ w ⟨v159, v160, rfl, hp0⟩
    have hp0 := bk158 _ _ hp0
    have hp0 := bk153 _ _ hp0
    clear hp; have hp := hp0; clear hp0
    replace hp : Hp _ _ _ (Res.sl (Ek.int .u8) 5 v91 q84.1 :: Res.sl Ek.bool 4 v92 q84.2.1 :: Res.sl (Ek.int .u8) 5 v159 q147.1 :: Res.sl Ek.bool 4 v160 q147.2.1 :: Res.sl (Ek.int .u8) 5 v5 q3 :: Res.sl Ek.c128 49 v14 q7.1 :: Res.sl Ek.c128 49 v25 q18.1 :: Res.sl Ek.bool 4 v38 q82.2 :: ow) := hp
    refine ⟨_, rfl, ?_⟩
    clear hf; intro a hf
    refine st_move hf rfl rfl (by decide) ?_
    clear hf; intro a ha hf; clear ha
    refine st_extract hf (by decide) rfl rfl rfl ?_
    clear hf; intro a ha hf; clear ha
    refine st_extract hf (by decide) rfl rfl rfl ?_
    clear hf; intro a ha hf; clear ha
    refine st_extract hf (by decide) rfl rfl rfl ?_
    clear hf; intro a ha hf; clear ha
    refine st_assign hf rfl rfl (by decide) ?_
    clear hf; intro a ha hf; clear ha
    refine st_assign hf rfl rfl (by decide) ?_
    clear hf; intro a ha hf; clear ha
    refine st_assign hf rfl rfl (by decide) ?_
    clear hf; intro a ha hf; clear ha
    refine st_nil hf ?_
    refine th_n ?_
    refine wp_seq ?_
    refine wp_reg ?_
    refine st_move hf rfl rfl (by decide) ?_
    clear hf; intro a ha hf; clear ha
    obtain ⟨q163, hcall164, h⟩ := bnd h
    obtain ⟨S165, hp166, rd167, up168, bk169⟩ := Hp.lendS hp (i := 4) rfl
    refine st_call hf (by decide) Try.func10 rfl rfl rfl rfl rfl (f_turns_Out_c hp166 _ _ rd167 hcall164) ?_
    rintro _ w ⟨v170, rfl, hp0⟩
    have hp0 := bk169 _ _ hp0
    clear hp; have hp := hp0; clear hp0
    replace hp : Hp _ _ _ (Res.sl (Ek.int .u8) 5 v5 q3 :: Res.sl (Ek.int .u8) 5 v170 q163.1 :: Res.sl (Ek.int .u8) 5 v91 q84.1 :: Res.sl Ek.bool 4 v92 q84.2.1 :: Res.sl (Ek.int .u8) 5 v159 q147.1 :: Res.sl Ek.bool 4 v160 q147.2.1 :: Res.sl Ek.c128 49 v14 q7.1 :: Res.sl Ek.c128 49 v25 q18.1 :: Res.sl Ek.bool 4 v38 q82.2 :: ow) := hp
    refine ⟨_, rfl, ?_⟩
    clear hf; intro a hf
    refine st_move hf rfl rfl (by decide) ?_
    clear hf; intro a ha hf; clear ha
    refine st_extract hf (by decide) rfl rfl rfl ?_
    clear hf; intro a ha hf; clear ha
    refine st_extract hf (by decide) rfl rfl rfl ?_
    clear hf; intro a ha hf; clear ha
    refine st_assign hf rfl rfl (by decide) ?_
    clear hf; intro a ha hf; clear ha
    refine st_assign hf rfl rfl (by decide) ?_
    clear hf; intro a ha hf; clear ha
    refine st_nil hf ?_
    refine th_n ?_
    refine wp_seq ?_
    refine wp_seq ?_
    refine wp_reg ?_
    refine st_move hf rfl rfl (by decide) ?_
    clear hf; intro a ha hf; clear ha
    refine st_ineq hf (by decide) rfl rfl rfl ?_
    clear hf; intro a ha hf; clear ha
    refine st_move hf rfl rfl (by decide) ?_
    clear hf; intro a ha hf; clear ha
    refine wpList_cut 3 (fun a w => Fr 301 a [(3, .int .u8 xx0_N), (4, v5), (5, v14), (7, v25), (10, v38), (17, v159), (18, v160), (20, v170), (210, .bool ((q147.2.2 != (0 : Int)) || (q163.2 != (0 : Int))))] ∧ Hp S w0 w (Res.sl (Ek.int .u8) 5 v5 q3 :: Res.sl (Ek.int .u8) 5 v170 q163.1 :: Res.sl (Ek.int .u8) 5 v91 q84.1 :: Res.sl Ek.bool 4 v92 q84.2.1 :: Res.sl (Ek.int .u8) 5 v159 q147.1 :: Res.sl Ek.bool 4 v160 q147.2.1 :: Res.sl Ek.c128 49 v14 q7.1 :: Res.sl Ek.c128 49 v25 q18.1 :: Res.sl Ek.bool 4 v38 q82.2 :: ow)) ?_ ?_
    · rcases Bool.eq_false_or_eq_true (q147.2.2 != (0 : Int)) with hb173 | hb173
      · skip
        refine st_skip hf (wantN hf rfl rfl hb173) rfl (by decide) ?_ rfl
        clear hf; intro a hf
        refine st_skip hf (wantN hf rfl rfl hb173) rfl (by decide) ?_ rfl
        clear hf; intro a hf
        refine st_pick (v := .bool true) hf rfl rfl (fun hb' => ?_) (fun hb' => ?_) (by decide) ?_
        · rfl
        · exact absurd (hb173.symm.trans hb') (by decide)
        clear hf; intro a ha hf; clear ha
        refine st_nil hf (th_n ?_)
        exact ⟨hf.sub ⟨rfl, rfl, rfl, rfl, rfl, rfl, rfl, rfl, (by rw [hb173]; rfl), trivial⟩, hp⟩
      refine st_move hf (wantY hf rfl rfl hb173) rfl (by decide) ?_
      clear hf; intro a ha hf; clear ha
      refine st_ineq hf (by decide) (wantY hf rfl rfl hb173) rfl rfl ?_
      clear hf; intro a ha hf; clear ha
      refine st_pick (v := .bool (q163.2 != (0 : Int))) hf rfl rfl (fun hb' => ?_) (fun hb' => ?_) (by decide) ?_
      · exact absurd (hb173.symm.trans hb') (by decide)
      · rfl
      clear hf; intro a ha hf; clear ha
      refine st_nil hf (th_n ?_)
      exact ⟨hf.sub ⟨rfl, rfl, rfl, rfl, rfl, rfl, rfl, rfl, (by rw [hb173]; rfl), trivial⟩, hp⟩
    rintro a w ⟨hf, hp⟩
    refine st_move hf rfl rfl (by decide) ?_
    clear hf; intro a ha hf; clear ha
    refine wpList_cut 6 (fun a w => Fr 301 a [(3, .int .u8 xx0_N), (4, v5), (5, v14), (7, v25), (10, v38), (17, v159), (18, v160), (20, v170), (217, .bool (((q147.2.2 != (0 : Int)) || (q163.2 != (0 : Int))) || ((q147.1.length : Int) != (q3.length : Int))))] ∧ Hp S w0 w (Res.sl (Ek.int .u8) 5 v5 q3 :: Res.sl (Ek.int .u8) 5 v170 q163.1 :: Res.sl (Ek.int .u8) 5 v91 q84.1 :: Res.sl Ek.bool 4 v92 q84.2.1 :: Res.sl (Ek.int .u8) 5 v159 q147.1 :: Res.sl Ek.bool 4 v160 q147.2.1 :: Res.sl Ek.c128 49 v14 q7.1 :: Res.sl Ek.c128 49 v25 q18.1 :: Res.sl Ek.bool 4 v38 q82.2 :: ow)) ?_ ?_
    · rcases Bool.eq_false_or_eq_true ((q147.2.2 != (0 : Int)) || (q163.2 != (0 : Int))) with hb175 | hb175
      · skip
        refine st_skip hf (wantN hf rfl rfl hb175) rfl (by decide) ?_ rfl
        clear hf; intro a hf
        refine st_skip hf (wantN hf rfl rfl hb175) rfl (by decide) ?_ rfl
        clear hf; intro a hf
        refine st_skip hf (wantN hf rfl rfl hb175) rfl (by decide) ?_ rfl
        clear hf; intro a hf
        refine st_skip hf (wantN hf rfl rfl hb175) rfl (by decide) ?_ rfl
        clear hf; intro a hf
        refine st_skip hf (wantN hf rfl rfl hb175) rfl (by decide) ?_ rfl
        clear hf; intro a hf
        refine st_pick (v := .bool true) hf rfl rfl (fun hb' => ?_) (fun hb' => ?_) (by decide) ?_
        · rfl
        · exact absurd (hb175.symm.trans hb') (by decide)
        clear hf; intro a ha hf; clear ha
        refine st_nil hf (th_n ?_)
        exact ⟨hf.sub ⟨rfl, rfl, rfl, rfl, rfl, rfl, rfl, rfl, (by rw [hb175]; rfl), trivial⟩, hp⟩
      refine st_move hf (wantY hf rfl rfl hb175) rfl (by decide) ?_
      clear hf; intro a ha hf; clear ha
      refine st_len (E := (Ek.int .u8)) hf (by decide) Try.underlying22 (wantY hf rfl rfl hb175) rfl (hp.sl (i := 4) rfl) ?_
      clear hf; intro a ha hf; clear ha
      refine st_move hf (wantY hf rfl rfl hb175) rfl (by decide) ?_
      clear hf; intro a ha hf; clear ha
      refine st_len (E := (Ek.int .u8)) hf (by decide) Try.underlying22 (wantY hf rfl rfl hb175) rfl (hp.sl (i := 0) rfl) ?_
      clear hf; intro a ha hf; clear ha
      refine st_ineq hf (by decide) (wantY hf rfl rfl hb175) rfl rfl ?_
      clear hf; intro a ha hf; clear ha
      refine st_pick (v := .bool ((q147.1.length : Int) != (q3.length : Int))) hf rfl rfl (fun hb' => ?_) (fun hb' => ?_) (by decide) ?_
      · exact absurd (hb175.symm.trans hb') (by decide)
      · rfl
      clear hf; intro a ha hf; clear ha
      refine st_nil hf (th_n ?_)
      exact ⟨hf.sub ⟨rfl, rfl, rfl, rfl, rfl, rfl, rfl, rfl, (by rw [hb175]; rfl), trivial⟩, hp⟩
    rintro a w ⟨hf, hp⟩
    refine st_move hf rfl rfl (by decide) ?_
    clear hf; intro a ha hf; clear ha
    refine wpList_cut 6 (fun a w => Fr 301 a [(3, .int .u8 xx0_N), (4, v5), (5, v14), (7, v25), (10, v38), (17, v159), (18, v160), (20, v170), (224, .bool ((((q147.2.2 != (0 : Int)) || (q163.2 != (0 : Int))) || ((q147.1.length : Int) != (q3.length : Int))) || ((q147.2.1.length : Int) != (q3.length : Int))))] ∧ Hp S w0 w (Res.sl (Ek.int .u8) 5 v5 q3 :: Res.sl (Ek.int .u8) 5 v170 q163.1 :: Res.sl (Ek.int .u8) 5 v91 q84.1 :: Res.sl Ek.bool 4 v92 q84.2.1 :: Res.sl (Ek.int .u8) 5 v159 q147.1 :: Res.sl Ek.bool 4 v160 q147.2.1 :: Res.sl Ek.c128 49 v14 q7.1 :: Res.sl Ek.c128 49 v25 q18.1 :: Res.sl Ek.bool 4 v38 q82.2 :: ow)) ?_ ?_
    · rcases Bool.eq_false_or_eq_true (((q147.2.2 != (0 : Int)) || (q163.2 != (0 : Int))) || ((q147.1.length : Int) != (q3.length : Int))) with hb177 | hb177
      · skip
        refine st_skip hf (wantN hf rfl rfl hb177) rfl (by decide) ?_ rfl
        clear hf; intro a hf
        refine st_skip hf (wantN hf rfl rfl hb177) rfl (by decide) ?_ rfl
        clear hf; intro a hf
        refine st_skip hf (wantN hf rfl rfl hb177) rfl (by decide) ?_ rfl
        clear hf; intro a hf
        refine st_skip hf (wantN hf rfl rfl hb177) rfl (by decide) ?_ rfl
        clear hf; intro a hf
        refine st_skip hf (wantN hf rfl rfl hb177) rfl (by decide) ?_ rfl
        clear hf; intro a hf
        refine st_pick (v := .bool true) hf rfl rfl (fun hb' => ?_) (fun hb' => ?_) (by decide) ?_
        · rfl
        · exact absurd (hb177.symm.trans hb') (by decide)
        clear hf; intro a ha hf; clear ha
        refine st_nil hf (th_n ?_)
        exact ⟨hf.sub ⟨rfl, rfl, rfl, rfl, rfl, rfl, rfl, rfl, (by rw [hb177]; rfl), trivial⟩, hp⟩
      refine st_move hf (wantY hf rfl rfl hb177) rfl (by decide) ?_
      clear hf; intro a ha hf; clear ha
      refine st_len (E := Ek.bool) hf (by decide) Try.underlying27 (wantY hf rfl rfl hb177) rfl (hp.sl (i := 5) rfl) ?_
      clear hf; intro a ha hf; clear ha
      refine st_move hf (wantY hf rfl rfl hb177) rfl (by decide) ?_
      clear hf; intro a ha hf; clear ha
      refine st_len (E := (Ek.int .u8)) hf (by decide) Try.underlying22 (wantY hf rfl rfl hb177) rfl (hp.sl (i := 0) rfl) ?_
      clear hf; intro a ha hf; clear ha
      refine st_ineq hf (by decide) (wantY hf rfl rfl hb177) rfl rfl ?_
      clear hf; intro a ha hf; clear ha
      refine st_pick (v := .bool ((q147.2.1.length : Int) != (q3.length : Int))) hf rfl rfl (fun hb' => ?_) (fun hb' => ?_) (by decide) ?_
      · exact absurd (hb177.symm.trans hb') (by decide)
      · rfl
      clear hf; intro a ha hf; clear ha
      refine st_nil hf (th_n ?_)
      exact ⟨hf.sub ⟨rfl, rfl, rfl, rfl, rfl, rfl, rfl, rfl, (by rw [hb177]; rfl), trivial⟩, hp⟩
    rintro a w ⟨hf, hp⟩
    refine st_move hf rfl rfl (by decide) ?_
    clear hf; intro a ha hf; clear ha
    refine wpList_cut 6 (fun a w => Fr 301 a [(3, .int .u8 xx0_N), (4, v5), (5, v14), (7, v25), (10, v38), (17, v159), (18, v160), (20, v170), (231, .bool (((((q147.2.2 != (0 : Int)) || (q163.2 != (0 : Int))) || ((q147.1.length : Int) != (q3.length : Int))) || ((q147.2.1.length : Int) != (q3.length : Int))) || ((q163.1.length : Int) != (q3.length : Int))))] ∧ Hp S w0 w (Res.sl (Ek.int .u8) 5 v5 q3 :: Res.sl (Ek.int .u8) 5 v170 q163.1 :: Res.sl (Ek.int .u8) 5 v91 q84.1 :: Res.sl Ek.bool 4 v92 q84.2.1 :: Res.sl (Ek.int .u8) 5 v159 q147.1 :: Res.sl Ek.bool 4 v160 q147.2.1 :: Res.sl Ek.c128 49 v14 q7.1 :: Res.sl Ek.c128 49 v25 q18.1 :: Res.sl Ek.bool 4 v38 q82.2 :: ow)) ?_ ?_
    · rcases Bool.eq_false_or_eq_true ((((q147.2.2 != (0 : Int)) || (q163.2 != (0 : Int))) || ((q147.1.length : Int) != (q3.length : Int))) || ((q147.2.1.length : Int) != (q3.length : Int))) with hb179 | hb179
      · skip
        refine st_skip hf (wantN hf rfl rfl hb179) rfl (by decide) ?_ rfl
        clear hf; intro a hf
        refine st_skip hf (wantN hf rfl rfl hb179) rfl (by decide) ?_ rfl
        clear hf; intro a hf
        refine st_skip hf (wantN hf rfl rfl hb179) rfl (by decide) ?_ rfl
        clear hf; intro a hf
        refine st_skip hf (wantN hf rfl rfl hb179) rfl (by decide) ?_ rfl
        clear hf; intro a hf
        refine st_skip hf (wantN hf rfl rfl hb179) rfl (by decide) ?_ rfl
        clear hf; intro a hf
        refine st_pick (v := .bool true) hf rfl rfl (fun hb' => ?_) (fun hb' => ?_) (by decide) ?_
        · rfl
        · exact absurd (hb179.symm.trans hb') (by decide)
        clear hf; intro a ha hf; clear ha
        refine st_nil hf (th_n ?_)
        exact ⟨hf.sub ⟨rfl, rfl, rfl, rfl, rfl, rfl, rfl, rfl, (by rw [hb179]; rfl), trivial⟩, hp⟩
      refine st_move hf (wantY hf rfl rfl hb179) rfl (by decide) ?_
      clear hf; intro a ha hf; clear ha
      refine st_len (E := (Ek.int .u8)) hf (by decide) Try.underlying22 (wantY hf rfl rfl hb179) rfl (hp.sl (i := 1) rfl) ?_
      clear hf; intro a ha hf; clear ha
      refine st_move hf (wantY hf rfl rfl hb179) rfl (by decide) ?_
      clear hf; intro a ha hf; clear ha
      refine st_len (E := (Ek.int .u8)) hf (by decide) Try.underlying22 (wantY hf rfl rfl hb179) rfl (hp.sl (i := 0) rfl) ?_
      clear hf; intro a ha hf; clear ha
      refine st_ineq hf (by decide) (wantY hf rfl rfl hb179) rfl rfl ?_
      clear hf; intro a ha hf; clear ha
      refine st_pick (v := .bool ((q163.1.length : Int) != (q3.length : Int))) hf rfl rfl (fun hb' => ?_) (fun hb' => ?_) (by decide) ?_
      · exact absurd (hb179.symm.trans hb') (by decide)
      · rfl
      clear hf; intro a ha hf; clear ha
      refine st_nil hf (th_n ?_)
      exact ⟨hf.sub ⟨rfl, rfl, rfl, rfl, rfl, rfl, rfl, rfl, (by rw [hb179]; rfl), trivial⟩, hp⟩
    rintro a w ⟨hf, hp⟩
    refine st_nil hf ?_
    refine th_n ?_
    refine wp_if hf rfl (fun hb => ?_) (fun hb => ?_)
    · replace h := ifT h hb
      refine wp_seq ?_
      refine wp_reg ?_
      refine st_assign hf rfl rfl (by decide) ?_
      clear hf; intro a ha hf; clear ha
      refine st_nil hf ?_
      refine th_n ?_
      refine wp_ret ?_
      refine th_r ?_
      obtain rfl := Option.some.inj h
      have hp : Hp _ _ _ (ow) := Hp.sel (pre := [Res.sl (Ek.int .u8) 5 v5 q3, Res.sl (Ek.int .u8) 5 v170 q163.1, Res.sl (Ek.int .u8) 5 v91 q84.1, Res.sl Ek.bool 4 v92 q84.2.1, Res.sl (Ek.int .u8) 5 v159 q147.1, Res.sl Ek.bool 4 v160 q147.2.1, Res.sl Ek.c128 49 v14 q7.1, Res.sl Ek.c128 49 v25 q18.1, Res.sl Ek.bool 4 v38 q82.2]) (tail := ow) (rs' := []) hp [] (by decide) (by simp) rfl
      exact ⟨rfl, ⟨hf.sub ⟨rfl, trivial⟩, hp⟩⟩
    replace h := ifF h hb
    refine wp_skip ?_
    refine th_n ?_
    refine wp_seq ?_
    refine wp_seq ?_
    refine wp_reg ?_
    refine st_assign hf rfl rfl (by decide) ?_
    clear hf; intro a ha hf; clear ha
    refine st_nil hf ?_
    refine th_n ?_
    refine wp_block ?_
    obtain ⟨q219, hl, h⟩ := bnd h
    have hp : Hp _ _ _ (Res.sl (Ek.int .u8) 5 v5 q3 :: Res.sl Ek.c128 49 v14 q7.1 :: Res.sl Ek.c128 49 v25 q18.1 :: Res.sl Ek.bool 4 v38 q82.2 :: Res.sl (Ek.int .u8) 5 v159 q147.1 :: Res.sl Ek.bool 4 v160 q147.2.1 :: Res.sl (Ek.int .u8) 5 v170 q163.1 :: ow) := Hp.sel (pre := [Res.sl (Ek.int .u8) 5 v5 q3, Res.sl (Ek.int .u8) 5 v170 q163.1, Res.sl (Ek.int .u8) 5 v91 q84.1, Res.sl Ek.bool 4 v92 q84.2.1, Res.sl (Ek.int .u8) 5 v159 q147.1, Res.sl Ek.bool 4 v160 q147.2.1, Res.sl Ek.c128 49 v14 q7.1, Res.sl Ek.c128 49 v25 q18.1, Res.sl Ek.bool 4 v38 q82.2]) (tail := ow) (rs' := [Res.sl (Ek.int .u8) 5 v5 q3, Res.sl Ek.c128 49 v14 q7.1, Res.sl Ek.c128 49 v25 q18.1, Res.sl Ek.bool 4 v38 q82.2, Res.sl (Ek.int .u8) 5 v159 q147.1, Res.sl Ek.bool 4 v160 q147.2.1, Res.sl (Ek.int .u8) 5 v170 q163.1]) hp [0, 6, 7, 8, 4, 5, 1] (by decide) (by simp) rfl
    refine wp_loop_pure (f := (f_foghornlaw06_TurnsHeard.s3 q3 q82 q147 q163)) (s := (1 : Int)) (fun s a w => Fr 301 a [(3, .int .u8 xx0_N), (4, v5), (5, v14), (7, v25), (10, v38), (17, v159), (18, v160), (20, v170), (22, .int .i64 s)] ∧ Hp S w0 w (Res.sl (Ek.int .u8) 5 v5 q3 :: Res.sl Ek.c128 49 v14 q7.1 :: Res.sl Ek.c128 49 v25 q18.1 :: Res.sl Ek.bool 4 v38 q82.2 :: Res.sl (Ek.int .u8) 5 v159 q147.1 :: Res.sl Ek.bool 4 v160 q147.2.1 :: Res.sl (Ek.int .u8) 5 v170 q163.1 :: ow)) (fun q e a w => match q with | (Sum.inl q) => e = .exit 4 ∧ Fr 301 a [(3, .int .u8 xx0_N), (4, v5), (5, v14), (7, v25)] ∧ Hp S w0 w (Res.sl (Ek.int .u8) 5 v5 q3 :: Res.sl Ek.c128 49 v14 q7.1 :: Res.sl Ek.c128 49 v25 q18.1 :: ow) | (Sum.inr q) => e = .ret ∧ Fr 301 a [(2, .bool q)] ∧ Hp S w0 w (ow)) ?_ hl ⟨hf.sub ⟨rfl, rfl, rfl, rfl, rfl, rfl, rfl, rfl, rfl, trivial⟩, hp⟩ ?_
    · clear hl hf hp
      intro s x a w h hI
      obtain ⟨k22, hs⟩ : ∃ z, z = s := ⟨s, rfl⟩; subst hs
      obtain ⟨hf, hp⟩ : Fr 301 a [(3, .int .u8 xx0_N), (4, v5), (5, v14), (7, v25), (10, v38), (17, v159), (18, v160), (20, v170), (22, .int .i64 k22)] ∧ Hp S w0 w (Res.sl (Ek.int .u8) 5 v5 q3 :: Res.sl Ek.c128 49 v14 q7.1 :: Res.sl Ek.c128 49 v25 q18.1 :: Res.sl Ek.bool 4 v38 q82.2 :: Res.sl (Ek.int .u8) 5 v159 q147.1 :: Res.sl Ek.bool 4 v160 q147.2.1 :: Res.sl (Ek.int .u8) 5 v170 q163.1 :: ow) := hI
      replace h : f_foghornlaw06_TurnsHeard.s3c q3 q82 q147 q163 k22 = some x := h
      unfold f_foghornlaw06_TurnsHeard.s3c at h
      refine wp_seq ?_
      refine wp_seq ?_
      refine wp_reg ?_
      refine st_move hf rfl rfl (by decide) ?_
      clear hf; intro a ha hf; clear ha
      refine st_move hf rfl rfl (by decide) ?_
      clear hf; intro a ha hf; clear ha
      refine st_len (E := (Ek.int .u8)) hf (by decide) Try.underlying22 rfl rfl (hp.sl (i := 0) rfl) ?_
      clear hf; intro a ha hf; clear ha
      refine st_ilss hf (by decide) rfl rfl rfl ?_
      clear hf; intro a ha hf; clear ha
      refine st_nil hf ?_
      refine th_n ?_
      refine wp_if hf rfl (fun hb => ?_) (fun hb => ?_)
      · replace h := ifT h hb
        refine wp_skip ?_
        refine th_n ?_
        refine wp_seq ?_
        refine wp_block ?_
        refine wp_seq ?_
        obtain ⟨S180, hp181, rd182, up183, bk184⟩ := Hp.lendS hp (i := 5) rfl
        obtain ⟨S185, hp186, rd187, up188, bk189⟩ := Hp.lendS hp181 (i := 3) rfl
        obtain ⟨S190, hp191, rd192, up193, bk194⟩ := Hp.lendS hp186 (i := 3) rfl
        obtain ⟨S195, hp196, rd197, up198, bk199⟩ := Hp.lendS hp191 (i := 3) rfl
        have rl200 := ((((rd187.now hp186).mono up193).now hp191).mono up198)
        have rl201 := ((rd192.now hp191).mono up198)
        have rl202 := ((((((rd182.now hp181).mono up188).now hp186).mono up193).now hp191).mono up198)
        have rl203 := rd197
        obtain ⟨hc204, h⟩ := chk h
        obtain ⟨hc205, h⟩ := chk h
        obtain ⟨z209, hz206, h⟩ := bnd h
        obtain ⟨z218, hz210, h⟩ := bnd h
        refine wp_cutN (fun a w => Fr 301 a [(3, .int .u8 xx0_N), (4, v5), (5, v14), (7, v25), (10, v38), (17, v159), (18, v160), (20, v170), (22, .int .i64 k22), (270, .bool z218)] ∧ Hp S w0 w (Res.sl Ek.bool 4 v160 q147.2.1 :: Res.sl Ek.bool 4 v38 q82.2 :: Res.sl (Ek.int .u8) 5 v159 q147.1 :: Res.sl (Ek.int .u8) 5 v170 q163.1 :: Res.sl (Ek.int .u8) 5 v5 q3 :: Res.sl Ek.c128 49 v14 q7.1 :: Res.sl Ek.c128 49 v25 q18.1 :: ow)) ?_ ?_
        · have hp := hp196.same (Same.drew w)
          rcases Bool.eq_false_or_eq_true (gt q82.2 k22) with hb207 | hb207
          · skip
            replace hz206 := ifT hz206 hb207
            obtain ⟨hc208, hz206⟩ := chk hz206
            replace hz206 := Option.some.inj hz206
            rcases Bool.eq_false_or_eq_true ((gt q147.2.1 k22) != z209) with hb211 | hb211
            · skip
              replace hz210 := ifT hz210 hb211
              replace hz210 := Option.some.inj hz210
              refine dr_begin' (fun a w => Fr 301 a [(3, .int .u8 xx0_N), (4, v5), (5, v14), (7, v25), (10, v38), (17, v159), (18, v160), (20, v170), (22, .int .i64 k22), (270, .bool z218)] ∧ Hp S w0 w (Res.sl Ek.bool 4 v160 q147.2.1 :: Res.sl Ek.bool 4 v38 q82.2 :: Res.sl (Ek.int .u8) 5 v159 q147.1 :: Res.sl (Ek.int .u8) 5 v170 q163.1 :: Res.sl (Ek.int .u8) 5 v5 q3 :: Res.sl Ek.c128 49 v14 q7.1 :: Res.sl Ek.c128 49 v25 q18.1 :: ow)) (fun w' => ∃ l, Hp S195 w w' l) [] (by kernel_rfl) ?_
              refine dr_take 0 (v160) rfl (by kernel_rfl) (by kernel_rfl) (by kernel_rfl) (by kernel_rfl) rfl rfl hf (by decide) rfl (fun w hp => ?_) ⟨_, hp⟩ ?_
              · obtain ⟨_, hp⟩ := hp
                refine st_move hf rfl rfl (by decide) ?_
                clear hf; intro a ha hf
                exact st_nil hf (th_n ⟨ha, rfl⟩)
              clear hf; intro a hf
              refine dr_take 1 (.int .i64 k22) rfl (by kernel_rfl) (by kernel_rfl) (by kernel_rfl) (by kernel_rfl) rfl rfl hf (by decide) rfl (fun w hp => ?_) ⟨_, hp⟩ ?_
              · obtain ⟨_, hp⟩ := hp
                refine st_move hf rfl rfl (by decide) ?_
                clear hf; intro a ha hf
                exact st_nil hf (th_n ⟨ha, rfl⟩)
              clear hf; intro a hf
              refine dr_take 2 (eptr v160 k22 1) rfl (by kernel_rfl) (by kernel_rfl) (by kernel_rfl) (by kernel_rfl) rfl rfl hf (by decide) rfl (fun w hp => ?_) ⟨_, hp⟩ ?_
              · obtain ⟨_, hp⟩ := hp
                refine st_index (E := Ek.bool) hf (by decide) Try.underlying27 elt4 rfl rfl rfl (rl202.sl hp) hc204.1 hc204.2 ?_
                clear hf; intro a ha hf
                exact st_nil hf (th_n ⟨ha, rfl⟩)
              clear hf; intro a hf
              refine dr_take 3 (.bool (gt q147.2.1 k22)) rfl (by kernel_rfl) (by kernel_rfl) (by kernel_rfl) (by kernel_rfl) rfl rfl hf (by decide) rfl (fun w hp => ?_) ⟨_, hp⟩ ?_
              · obtain ⟨_, hp⟩ := hp
                refine st_ldB hf (by decide) pl4 rfl rfl (rl202.sl hp) hc204.1 hc204.2 ?_
                clear hf; intro a ha hf
                exact st_nil hf (th_n ⟨ha, rfl⟩)
              clear hf; intro a hf
              refine dr_take 4 (v38) rfl (by kernel_rfl) (by kernel_rfl) (by kernel_rfl) (by kernel_rfl) rfl rfl hf (by decide) rfl (fun w hp => ?_) ⟨_, hp⟩ ?_
              · obtain ⟨_, hp⟩ := hp
                refine st_move hf rfl rfl (by decide) ?_
                clear hf; intro a ha hf
                exact st_nil hf (th_n ⟨ha, rfl⟩)
              clear hf; intro a hf
              refine dr_take 5 (.int .i64 k22) rfl (by kernel_rfl) (by kernel_rfl) (by kernel_rfl) (by kernel_rfl) rfl rfl hf (by decide) rfl (fun w hp => ?_) ⟨_, hp⟩ ?_
              · obtain ⟨_, hp⟩ := hp
                refine st_move hf rfl rfl (by decide) ?_
                clear hf; intro a ha hf
                exact st_nil hf (th_n ⟨ha, rfl⟩)
              clear hf; intro a hf
              refine dr_take 6 (eptr v38 k22 1) rfl (by kernel_rfl) (by kernel_rfl) (by kernel_rfl) (by kernel_rfl) rfl rfl hf (by decide) rfl (fun w hp => ?_) ⟨_, hp⟩ ?_
              · obtain ⟨_, hp⟩ := hp
                refine st_index (E := Ek.bool) hf (by decide) Try.underlying27 elt4 rfl rfl rfl (rl200.sl hp) hc205.1 hc205.2 ?_
                clear hf; intro a ha hf
                exact st_nil hf (th_n ⟨ha, rfl⟩)
              clear hf; intro a hf
              refine dr_take 7 (.bool (gt q82.2 k22)) rfl (by kernel_rfl) (by kernel_rfl) (by kernel_rfl) (by kernel_rfl) rfl rfl hf (by decide) rfl (fun w hp => ?_) ⟨_, hp⟩ ?_
              · obtain ⟨_, hp⟩ := hp
                refine st_ldB hf (by decide) pl4 rfl rfl (rl200.sl hp) hc205.1 hc205.2 ?_
                clear hf; intro a ha hf
                exact st_nil hf (th_n ⟨ha, rfl⟩)
              clear hf; intro a hf
              refine dr_take 8 (.bool (gt q82.2 k22)) rfl (by kernel_rfl) (by kernel_rfl) (by kernel_rfl) (by kernel_rfl) rfl rfl hf (by decide) rfl (fun w hp => ?_) ⟨_, hp⟩ ?_
              · obtain ⟨_, hp⟩ := hp
                refine st_move hf rfl rfl (by decide) ?_
                clear hf; intro a ha hf
                exact st_nil hf (th_n ⟨ha, rfl⟩)
              clear hf; intro a hf
              refine dr_take 9 (v38) rfl (by kernel_rfl) (by kernel_rfl) (by kernel_rfl) (by kernel_rfl) rfl rfl hf (by decide) (wantY hf rfl rfl hb207) (fun w hp => ?_) ⟨_, hp⟩ ?_
              · obtain ⟨_, hp⟩ := hp
                refine st_move hf (wantY hf rfl rfl hb207) rfl (by decide) ?_
                clear hf; intro a ha hf
                exact st_nil hf (th_n ⟨ha, rfl⟩)
              clear hf; intro a hf
              refine dr_take 10 (.int .i64 k22) rfl (by kernel_rfl) (by kernel_rfl) (by kernel_rfl) (by kernel_rfl) rfl rfl hf (by decide) (wantY hf rfl rfl hb207) (fun w hp => ?_) ⟨_, hp⟩ ?_
              · obtain ⟨_, hp⟩ := hp
                refine st_move hf (wantY hf rfl rfl hb207) rfl (by decide) ?_
                clear hf; intro a ha hf
                exact st_nil hf (th_n ⟨ha, rfl⟩)
              clear hf; intro a hf
              refine dr_take 11 (.int .i64 (IntKind.i64.wrap (k22 - (1 : Int)))) rfl (by kernel_rfl) (by kernel_rfl) (by kernel_rfl) (by kernel_rfl) rfl rfl hf (by decide) (wantY hf rfl rfl hb207) (fun w hp => ?_) ⟨_, hp⟩ ?_
              · obtain ⟨_, hp⟩ := hp
                refine st_isub hf (by decide) (wantY hf rfl rfl hb207) rfl rfl ?_
                clear hf; intro a ha hf
                exact st_nil hf (th_n ⟨ha, rfl⟩)
              clear hf; intro a hf
              refine dr_take 12 (eptr v38 (IntKind.i64.wrap (k22 - (1 : Int))) 1) rfl (by kernel_rfl) (by kernel_rfl) (by kernel_rfl) (by kernel_rfl) rfl rfl hf (by decide) (wantY hf rfl rfl hb207) (fun w hp => ?_) ⟨_, hp⟩ ?_
              · obtain ⟨_, hp⟩ := hp
                refine st_index (E := Ek.bool) hf (by decide) Try.underlying27 elt4 (wantY hf rfl rfl hb207) rfl rfl (rl200.sl hp) hc208.1 hc208.2 ?_
                clear hf; intro a ha hf
                exact st_nil hf (th_n ⟨ha, rfl⟩)
              clear hf; intro a hf
              refine dr_take 13 (.bool (gt q82.2 (IntKind.i64.wrap (k22 - (1 : Int))))) rfl (by kernel_rfl) (by kernel_rfl) (by kernel_rfl) (by kernel_rfl) rfl rfl hf (by decide) (wantY hf rfl rfl hb207) (fun w hp => ?_) ⟨_, hp⟩ ?_
              · obtain ⟨_, hp⟩ := hp
                refine st_ldB hf (by decide) pl4 (wantY hf rfl rfl hb207) rfl (rl200.sl hp) hc208.1 hc208.2 ?_
                clear hf; intro a ha hf
                exact st_nil hf (th_n ⟨ha, rfl⟩)
              clear hf; intro a hf
              refine dr_take 14 (.bool z209) rfl (by kernel_rfl) (by kernel_rfl) (by kernel_rfl) (by kernel_rfl) rfl rfl hf (by decide) rfl (fun w hp => ?_) ⟨_, hp⟩ ?_
              · obtain ⟨_, hp⟩ := hp
                refine st_pick (v := .bool z209) hf rfl rfl (fun _ => by rw [← hz206]; rfl) (fun hb' => absurd (hb207.symm.trans hb') (by decide)) (by decide) ?_
                clear hf; intro a ha hf
                exact st_nil hf (th_n ⟨ha, rfl⟩)
              clear hf; intro a hf
              refine dr_take 15 (.bool ((gt q147.2.1 k22) != z209)) rfl (by kernel_rfl) (by kernel_rfl) (by kernel_rfl) (by kernel_rfl) rfl rfl hf (by decide) rfl (fun w hp => ?_) ⟨_, hp⟩ ?_
              · obtain ⟨_, hp⟩ := hp
                refine st_bneq hf (by decide) Try.underlying4 rfl rfl rfl ?_
                clear hf; intro a ha hf
                exact st_nil hf (th_n ⟨ha, rfl⟩)
              clear hf; intro a hf
              refine dr_take 16 (.bool ((gt q147.2.1 k22) != z209)) rfl (by kernel_rfl) (by kernel_rfl) (by kernel_rfl) (by kernel_rfl) rfl rfl hf (by decide) rfl (fun w hp => ?_) ⟨_, hp⟩ ?_
              · obtain ⟨_, hp⟩ := hp
                refine st_move hf rfl rfl (by decide) ?_
                clear hf; intro a ha hf
                exact st_nil hf (th_n ⟨ha, rfl⟩)
              clear hf; intro a hf
              refine dr_out 17 rfl (by kernel_rfl) (by kernel_rfl) (by kernel_rfl) (by kernel_rfl) rfl hf (by decide) rfl (wantN hf rfl rfl hb211) ⟨_, hp⟩ ?_
              clear hf; intro a hf
              refine dr_out 18 rfl (by kernel_rfl) (by kernel_rfl) (by kernel_rfl) (by kernel_rfl) rfl hf (by decide) rfl (wantN hf rfl rfl hb211) ⟨_, hp⟩ ?_
              clear hf; intro a hf
              refine dr_out 19 rfl (by kernel_rfl) (by kernel_rfl) (by kernel_rfl) (by kernel_rfl) rfl hf (by decide) rfl (wantN hf rfl rfl hb211) ⟨_, hp⟩ ?_
              clear hf; intro a hf
              refine dr_out 20 rfl (by kernel_rfl) (by kernel_rfl) (by kernel_rfl) (by kernel_rfl) rfl hf (by decide) rfl (wantN hf rfl rfl hb211) ⟨_, hp⟩ ?_
              clear hf; intro a hf
              refine dr_outU 21 rfl (by kernel_rfl) (by kernel_rfl) (by kernel_rfl) (by kernel_rfl) rfl hf (by decide) (wantN hf rfl rfl hb211) ⟨_, hp⟩ ?_
              clear hf; intro a hf
              refine dr_out 22 rfl (by kernel_rfl) (by kernel_rfl) (by kernel_rfl) (by kernel_rfl) rfl hf (by decide) rfl (wantU hf rfl rfl) ⟨_, hp⟩ ?_
              clear hf; intro a hf
              refine dr_out 23 rfl (by kernel_rfl) (by kernel_rfl) (by kernel_rfl) (by kernel_rfl) rfl hf (by decide) rfl (wantU hf rfl rfl) ⟨_, hp⟩ ?_
              clear hf; intro a hf
              refine dr_out 24 rfl (by kernel_rfl) (by kernel_rfl) (by kernel_rfl) (by kernel_rfl) rfl hf (by decide) rfl (wantU hf rfl rfl) ⟨_, hp⟩ ?_
              clear hf; intro a hf
              refine dr_out 25 rfl (by kernel_rfl) (by kernel_rfl) (by kernel_rfl) (by kernel_rfl) rfl hf (by decide) rfl (wantU hf rfl rfl) ⟨_, hp⟩ ?_
              clear hf; intro a hf
              refine dr_out 26 rfl (by kernel_rfl) (by kernel_rfl) (by kernel_rfl) (by kernel_rfl) rfl hf (by decide) rfl (wantU hf rfl rfl) ⟨_, hp⟩ ?_
              clear hf; intro a hf
              refine dr_out 27 rfl (by kernel_rfl) (by kernel_rfl) (by kernel_rfl) (by kernel_rfl) rfl hf (by decide) rfl (wantU hf rfl rfl) ⟨_, hp⟩ ?_
              clear hf; intro a hf
              refine dr_out 28 rfl (by kernel_rfl) (by kernel_rfl) (by kernel_rfl) (by kernel_rfl) rfl hf (by decide) rfl (wantU hf rfl rfl) ⟨_, hp⟩ ?_
              clear hf; intro a hf
              refine dr_out 29 rfl (by kernel_rfl) (by kernel_rfl) (by kernel_rfl) (by kernel_rfl) rfl hf (by decide) rfl (wantU hf rfl rfl) ⟨_, hp⟩ ?_
              clear hf; intro a hf
              refine dr_out 30 rfl (by kernel_rfl) (by kernel_rfl) (by kernel_rfl) (by kernel_rfl) rfl hf (by decide) rfl (wantU hf rfl rfl) ⟨_, hp⟩ ?_
              clear hf; intro a hf
              refine dr_out 31 rfl (by kernel_rfl) (by kernel_rfl) (by kernel_rfl) (by kernel_rfl) rfl hf (by decide) rfl (wantN hf rfl rfl hb211) ⟨_, hp⟩ ?_
              clear hf; intro a hf
              refine dr_take 32 (.bool z218) rfl (by kernel_rfl) (by kernel_rfl) (by kernel_rfl) (by kernel_rfl) rfl rfl hf (by decide) rfl (fun w hp => ?_) ⟨_, hp⟩ ?_
              · obtain ⟨_, hp⟩ := hp
                refine st_pick (v := .bool z218) hf rfl rfl (fun _ => by rw [← hz210]; rfl) (fun hb' => absurd (hb211.symm.trans hb') (by decide)) (by decide) ?_
                clear hf; intro a ha hf
                exact st_nil hf (th_n ⟨ha, rfl⟩)
              clear hf; intro a hf
              refine dr_end (by kernel_rfl) ?_ _
              have hp := bk199 _ _ hp
              have hp := bk194 _ _ hp
              have hp := bk189 _ _ hp
              have hp := bk184 _ _ hp
              exact ⟨hf.sub ⟨rfl, rfl, rfl, rfl, rfl, rfl, rfl, rfl, rfl, rfl, trivial⟩, hp⟩
            skip
            replace hz210 := ifF hz210 hb211
            obtain ⟨hc212, hz210⟩ := chk hz210
            obtain ⟨z217, hz213, hz210⟩ := bnd hz210
            replace hz210 := Option.some.inj hz210
            rcases Bool.eq_false_or_eq_true (gt q147.2.1 k22) with hb214 | hb214
            · skip
              replace hz213 := ifT hz213 hb214
              obtain ⟨hc215, hz213⟩ := chk hz213
              obtain ⟨hc216, hz213⟩ := chk hz213
              replace hz213 := Option.some.inj hz213
              refine dr_begin' (fun a w => Fr 301 a [(3, .int .u8 xx0_N), (4, v5), (5, v14), (7, v25), (10, v38), (17, v159), (18, v160), (20, v170), (22, .int .i64 k22), (270, .bool z218)] ∧ Hp S w0 w (Res.sl Ek.bool 4 v160 q147.2.1 :: Res.sl Ek.bool 4 v38 q82.2 :: Res.sl (Ek.int .u8) 5 v159 q147.1 :: Res.sl (Ek.int .u8) 5 v170 q163.1 :: Res.sl (Ek.int .u8) 5 v5 q3 :: Res.sl Ek.c128 49 v14 q7.1 :: Res.sl Ek.c128 49 v25 q18.1 :: ow)) (fun w' => ∃ l, Hp S195 w w' l) [] (by kernel_rfl) ?_
              refine dr_take 0 (v160) rfl (by kernel_rfl) (by kernel_rfl) (by kernel_rfl) (by kernel_rfl) rfl rfl hf (by decide) rfl (fun w hp => ?_) ⟨_, hp⟩ ?_
              · obtain ⟨_, hp⟩ := hp
                refine st_move hf rfl rfl (by decide) ?_
                clear hf; intro a ha hf
                exact st_nil hf (th_n ⟨ha, rfl⟩)
              clear hf; intro a hf
              refine dr_take 1 (.int .i64 k22) rfl (by kernel_rfl) (by kernel_rfl) (by kernel_rfl) (by kernel_rfl) rfl rfl hf (by decide) rfl (fun w hp => ?_) ⟨_, hp⟩ ?_
              · obtain ⟨_, hp⟩ := hp
                refine st_move hf rfl rfl (by decide) ?_
                clear hf; intro a ha hf
                exact st_nil hf (th_n ⟨ha, rfl⟩)
              clear hf; intro a hf
              refine dr_take 2 (eptr v160 k22 1) rfl (by kernel_rfl) (by kernel_rfl) (by kernel_rfl) (by kernel_rfl) rfl rfl hf (by decide) rfl (fun w hp => ?_) ⟨_, hp⟩ ?_
              · obtain ⟨_, hp⟩ := hp
                refine st_index (E := Ek.bool) hf (by decide) Try.underlying27 elt4 rfl rfl rfl (rl202.sl hp) hc204.1 hc204.2 ?_
                clear hf; intro a ha hf
                exact st_nil hf (th_n ⟨ha, rfl⟩)
              clear hf; intro a hf
              refine dr_take 3 (.bool (gt q147.2.1 k22)) rfl (by kernel_rfl) (by kernel_rfl) (by kernel_rfl) (by kernel_rfl) rfl rfl hf (by decide) rfl (fun w hp => ?_) ⟨_, hp⟩ ?_
              · obtain ⟨_, hp⟩ := hp
                refine st_ldB hf (by decide) pl4 rfl rfl (rl202.sl hp) hc204.1 hc204.2 ?_
                clear hf; intro a ha hf
                exact st_nil hf (th_n ⟨ha, rfl⟩)
              clear hf; intro a hf
              refine dr_take 4 (v38) rfl (by kernel_rfl) (by kernel_rfl) (by kernel_rfl) (by kernel_rfl) rfl rfl hf (by decide) rfl (fun w hp => ?_) ⟨_, hp⟩ ?_
              · obtain ⟨_, hp⟩ := hp
                refine st_move hf rfl rfl (by decide) ?_
                clear hf; intro a ha hf
                exact st_nil hf (th_n ⟨ha, rfl⟩)
              clear hf; intro a hf
              refine dr_take 5 (.int .i64 k22) rfl (by kernel_rfl) (by kernel_rfl) (by kernel_rfl) (by kernel_rfl) rfl rfl hf (by decide) rfl (fun w hp => ?_) ⟨_, hp⟩ ?_
              · obtain ⟨_, hp⟩ := hp
                refine st_move hf rfl rfl (by decide) ?_
                clear hf; intro a ha hf
                exact st_nil hf (th_n ⟨ha, rfl⟩)
              clear hf; intro a hf
              refine dr_take 6 (eptr v38 k22 1) rfl (by kernel_rfl) (by kernel_rfl) (by kernel_rfl) (by kernel_rfl) rfl rfl hf (by decide) rfl (fun w hp => ?_) ⟨_, hp⟩ ?_
              · obtain ⟨_, hp⟩ := hp
                refine st_index (E := Ek.bool) hf (by decide) Try.underlying27 elt4 rfl rfl rfl (rl200.sl hp) hc205.1 hc205.2 ?_
                clear hf; intro a ha hf
                exact st_nil hf (th_n ⟨ha, rfl⟩)
              clear hf; intro a hf
              refine dr_take 7 (.bool (gt q82.2 k22)) rfl (by kernel_rfl) (by kernel_rfl) (by kernel_rfl) (by kernel_rfl) rfl rfl hf (by decide) rfl (fun w hp => ?_) ⟨_, hp⟩ ?_
              · obtain ⟨_, hp⟩ := hp
                refine st_ldB hf (by decide) pl4 rfl rfl (rl200.sl hp) hc205.1 hc205.2 ?_
                clear hf; intro a ha hf
                exact st_nil hf (th_n ⟨ha, rfl⟩)
              clear hf; intro a hf
              refine dr_take 8 (.bool (gt q82.2 k22)) rfl (by kernel_rfl) (by kernel_rfl) (by kernel_rfl) (by kernel_rfl) rfl rfl hf (by decide) rfl (fun w hp => ?_) ⟨_, hp⟩ ?_
              · obtain ⟨_, hp⟩ := hp
                refine st_move hf rfl rfl (by decide) ?_
                clear hf; intro a ha hf
                exact st_nil hf (th_n ⟨ha, rfl⟩)
              clear hf; intro a hf
              refine dr_take 9 (v38) rfl (by kernel_rfl) (by kernel_rfl) (by kernel_rfl) (by kernel_rfl) rfl rfl hf (by decide) (wantY hf rfl rfl hb207) (fun w hp => ?_) ⟨_, hp⟩ ?_
              · obtain ⟨_, hp⟩ := hp
                refine st_move hf (wantY hf rfl rfl hb207) rfl (by decide) ?_
                clear hf; intro a ha hf
                exact st_nil hf (th_n ⟨ha, rfl⟩)
              clear hf; intro a hf
              refine dr_take 10 (.int .i64 k22) rfl (by kernel_rfl) (by kernel_rfl) (by kernel_rfl) (by kernel_rfl) rfl rfl hf (by decide) (wantY hf rfl rfl hb207) (fun w hp => ?_) ⟨_, hp⟩ ?_
              · obtain ⟨_, hp⟩ := hp
                refine st_move hf (wantY hf rfl rfl hb207) rfl (by decide) ?_
                clear hf; intro a ha hf
                exact st_nil hf (th_n ⟨ha, rfl⟩)
              clear hf; intro a hf
              refine dr_take 11 (.int .i64 (IntKind.i64.wrap (k22 - (1 : Int)))) rfl (by kernel_rfl) (by kernel_rfl) (by kernel_rfl) (by kernel_rfl) rfl rfl hf (by decide) (wantY hf rfl rfl hb207) (fun w hp => ?_) ⟨_, hp⟩ ?_
              · obtain ⟨_, hp⟩ := hp
                refine st_isub hf (by decide) (wantY hf rfl rfl hb207) rfl rfl ?_
                clear hf; intro a ha hf
                exact st_nil hf (th_n ⟨ha, rfl⟩)
              clear hf; intro a hf
              refine dr_take 12 (eptr v38 (IntKind.i64.wrap (k22 - (1 : Int))) 1) rfl (by kernel_rfl) (by kernel_rfl) (by kernel_rfl) (by kernel_rfl) rfl rfl hf (by decide) (wantY hf rfl rfl hb207) (fun w hp => ?_) ⟨_, hp⟩ ?_
              · obtain ⟨_, hp⟩ := hp
                refine st_index (E := Ek.bool) hf (by decide) Try.underlying27 elt4 (wantY hf rfl rfl hb207) rfl rfl (rl200.sl hp) hc208.1 hc208.2 ?_
                clear hf; intro a ha hf
                exact st_nil hf (th_n ⟨ha, rfl⟩)
              clear hf; intro a hf
              refine dr_take 13 (.bool (gt q82.2 (IntKind.i64.wrap (k22 - (1 : Int))))) rfl (by kernel_rfl) (by kernel_rfl) (by kernel_rfl) (by kernel_rfl) rfl rfl hf (by decide) (wantY hf rfl rfl hb207) (fun w hp => ?_) ⟨_, hp⟩ ?_
              · obtain ⟨_, hp⟩ := hp
                refine st_ldB hf (by decide) pl4 (wantY hf rfl rfl hb207) rfl (rl200.sl hp) hc208.1 hc208.2 ?_
                clear hf; intro a ha hf
                exact st_nil hf (th_n ⟨ha, rfl⟩)
              clear hf; intro a hf
              refine dr_take 14 (.bool z209) rfl (by kernel_rfl) (by kernel_rfl) (by kernel_rfl) (by kernel_rfl) rfl rfl hf (by decide) rfl (fun w hp => ?_) ⟨_, hp⟩ ?_
              · obtain ⟨_, hp⟩ := hp
                refine st_pick (v := .bool z209) hf rfl rfl (fun _ => by rw [← hz206]; rfl) (fun hb' => absurd (hb207.symm.trans hb') (by decide)) (by decide) ?_
                clear hf; intro a ha hf
                exact st_nil hf (th_n ⟨ha, rfl⟩)
              clear hf; intro a hf
              refine dr_take 15 (.bool ((gt q147.2.1 k22) != z209)) rfl (by kernel_rfl) (by kernel_rfl) (by kernel_rfl) (by kernel_rfl) rfl rfl hf (by decide) rfl (fun w hp => ?_) ⟨_, hp⟩ ?_
              · obtain ⟨_, hp⟩ := hp
                refine st_bneq hf (by decide) Try.underlying4 rfl rfl rfl ?_
                clear hf; intro a ha hf
                exact st_nil hf (th_n ⟨ha, rfl⟩)
              clear hf; intro a hf
              refine dr_take 16 (.bool ((gt q147.2.1 k22) != z209)) rfl (by kernel_rfl) (by kernel_rfl) (by kernel_rfl) (by kernel_rfl) rfl rfl hf (by decide) rfl (fun w hp => ?_) ⟨_, hp⟩ ?_
              · obtain ⟨_, hp⟩ := hp
                refine st_move hf rfl rfl (by decide) ?_
                clear hf; intro a ha hf
                exact st_nil hf (th_n ⟨ha, rfl⟩)
              clear hf; intro a hf
              refine dr_take 17 (v160) rfl (by kernel_rfl) (by kernel_rfl) (by kernel_rfl) (by kernel_rfl) rfl rfl hf (by decide) (wantY hf rfl rfl hb211) (fun w hp => ?_) ⟨_, hp⟩ ?_
              · obtain ⟨_, hp⟩ := hp
                refine st_move hf (wantY hf rfl rfl hb211) rfl (by decide) ?_
                clear hf; intro a ha hf
                exact st_nil hf (th_n ⟨ha, rfl⟩)
              clear hf; intro a hf
              refine dr_take 18 (.int .i64 k22) rfl (by kernel_rfl) (by kernel_rfl) (by kernel_rfl) (by kernel_rfl) rfl rfl hf (by decide) (wantY hf rfl rfl hb211) (fun w hp => ?_) ⟨_, hp⟩ ?_
              · obtain ⟨_, hp⟩ := hp
                refine st_move hf (wantY hf rfl rfl hb211) rfl (by decide) ?_
                clear hf; intro a ha hf
                exact st_nil hf (th_n ⟨ha, rfl⟩)
              clear hf; intro a hf
              refine dr_take 19 (eptr v160 k22 1) rfl (by kernel_rfl) (by kernel_rfl) (by kernel_rfl) (by kernel_rfl) rfl rfl hf (by decide) (wantY hf rfl rfl hb211) (fun w hp => ?_) ⟨_, hp⟩ ?_
              · obtain ⟨_, hp⟩ := hp
                refine st_index (E := Ek.bool) hf (by decide) Try.underlying27 elt4 (wantY hf rfl rfl hb211) rfl rfl (rl202.sl hp) hc212.1 hc212.2 ?_
                clear hf; intro a ha hf
                exact st_nil hf (th_n ⟨ha, rfl⟩)
              clear hf; intro a hf
              refine dr_take 20 (.bool (gt q147.2.1 k22)) rfl (by kernel_rfl) (by kernel_rfl) (by kernel_rfl) (by kernel_rfl) rfl rfl hf (by decide) (wantY hf rfl rfl hb211) (fun w hp => ?_) ⟨_, hp⟩ ?_
              · obtain ⟨_, hp⟩ := hp
                refine st_ldB hf (by decide) pl4 (wantY hf rfl rfl hb211) rfl (rl202.sl hp) hc212.1 hc212.2 ?_
                clear hf; intro a ha hf
                exact st_nil hf (th_n ⟨ha, rfl⟩)
              clear hf; intro a hf
              refine dr_take 21 (.bool (gt q147.2.1 k22)) rfl (by kernel_rfl) (by kernel_rfl) (by kernel_rfl) (by kernel_rfl) rfl rfl hf (by decide) (wantY hf rfl rfl hb211) (fun w hp => ?_) ⟨_, hp⟩ ?_
              · obtain ⟨_, hp⟩ := hp
                refine st_move hf (wantY hf rfl rfl hb211) rfl (by decide) ?_
                clear hf; intro a ha hf
                exact st_nil hf (th_n ⟨ha, rfl⟩)
              clear hf; intro a hf
              refine dr_take 22 (v159) rfl (by kernel_rfl) (by kernel_rfl) (by kernel_rfl) (by kernel_rfl) rfl rfl hf (by decide) (wantY hf rfl rfl hb214) (fun w hp => ?_) ⟨_, hp⟩ ?_
              · obtain ⟨_, hp⟩ := hp
                refine st_move hf (wantY hf rfl rfl hb214) rfl (by decide) ?_
                clear hf; intro a ha hf
                exact st_nil hf (th_n ⟨ha, rfl⟩)
              clear hf; intro a hf
              refine dr_take 23 (.int .i64 k22) rfl (by kernel_rfl) (by kernel_rfl) (by kernel_rfl) (by kernel_rfl) rfl rfl hf (by decide) (wantY hf rfl rfl hb214) (fun w hp => ?_) ⟨_, hp⟩ ?_
              · obtain ⟨_, hp⟩ := hp
                refine st_move hf (wantY hf rfl rfl hb214) rfl (by decide) ?_
                clear hf; intro a ha hf
                exact st_nil hf (th_n ⟨ha, rfl⟩)
              clear hf; intro a hf
              refine dr_take 24 (eptr v159 k22 1) rfl (by kernel_rfl) (by kernel_rfl) (by kernel_rfl) (by kernel_rfl) rfl rfl hf (by decide) (wantY hf rfl rfl hb214) (fun w hp => ?_) ⟨_, hp⟩ ?_
              · obtain ⟨_, hp⟩ := hp
                refine st_index (E := (Ek.int .u8)) hf (by decide) Try.underlying22 elt5 (wantY hf rfl rfl hb214) rfl rfl (rl201.sl hp) hc215.1 hc215.2 ?_
                clear hf; intro a ha hf
                exact st_nil hf (th_n ⟨ha, rfl⟩)
              clear hf; intro a hf
              refine dr_take 25 (.int .u8 (gt q147.1 k22)) rfl (by kernel_rfl) (by kernel_rfl) (by kernel_rfl) (by kernel_rfl) rfl rfl hf (by decide) (wantY hf rfl rfl hb214) (fun w hp => ?_) ⟨_, hp⟩ ?_
              · obtain ⟨_, hp⟩ := hp
                refine st_ldI hf (by decide) pl5 (wantY hf rfl rfl hb214) rfl (rl201.sl hp) hc215.1 hc215.2 ?_
                clear hf; intro a ha hf
                exact st_nil hf (th_n ⟨ha, rfl⟩)
              clear hf; intro a hf
              refine dr_take 26 (v170) rfl (by kernel_rfl) (by kernel_rfl) (by kernel_rfl) (by kernel_rfl) rfl rfl hf (by decide) (wantY hf rfl rfl hb214) (fun w hp => ?_) ⟨_, hp⟩ ?_
              · obtain ⟨_, hp⟩ := hp
                refine st_move hf (wantY hf rfl rfl hb214) rfl (by decide) ?_
                clear hf; intro a ha hf
                exact st_nil hf (th_n ⟨ha, rfl⟩)
              clear hf; intro a hf
              refine dr_take 27 (.int .i64 k22) rfl (by kernel_rfl) (by kernel_rfl) (by kernel_rfl) (by kernel_rfl) rfl rfl hf (by decide) (wantY hf rfl rfl hb214) (fun w hp => ?_) ⟨_, hp⟩ ?_
              · obtain ⟨_, hp⟩ := hp
                refine st_move hf (wantY hf rfl rfl hb214) rfl (by decide) ?_
                clear hf; intro a ha hf
                exact st_nil hf (th_n ⟨ha, rfl⟩)
              clear hf; intro a hf
              refine dr_take 28 (eptr v170 k22 1) rfl (by kernel_rfl) (by kernel_rfl) (by kernel_rfl) (by kernel_rfl) rfl rfl hf (by decide) (wantY hf rfl rfl hb214) (fun w hp => ?_) ⟨_, hp⟩ ?_
              · obtain ⟨_, hp⟩ := hp
                refine st_index (E := (Ek.int .u8)) hf (by decide) Try.underlying22 elt5 (wantY hf rfl rfl hb214) rfl rfl (rl203.sl hp) hc216.1 hc216.2 ?_
                clear hf; intro a ha hf
                exact st_nil hf (th_n ⟨ha, rfl⟩)
              clear hf; intro a hf
              refine dr_take 29 (.int .u8 (gt q163.1 k22)) rfl (by kernel_rfl) (by kernel_rfl) (by kernel_rfl) (by kernel_rfl) rfl rfl hf (by decide) (wantY hf rfl rfl hb214) (fun w hp => ?_) ⟨_, hp⟩ ?_
              · obtain ⟨_, hp⟩ := hp
                refine st_ldI hf (by decide) pl5 (wantY hf rfl rfl hb214) rfl (rl203.sl hp) hc216.1 hc216.2 ?_
                clear hf; intro a ha hf
                exact st_nil hf (th_n ⟨ha, rfl⟩)
              clear hf; intro a hf
              refine dr_take 30 (.bool ((gt q147.1 k22) != (gt q163.1 k22))) rfl (by kernel_rfl) (by kernel_rfl) (by kernel_rfl) (by kernel_rfl) rfl rfl hf (by decide) (wantY hf rfl rfl hb214) (fun w hp => ?_) ⟨_, hp⟩ ?_
              · obtain ⟨_, hp⟩ := hp
                refine st_ineq hf (by decide) (wantY hf rfl rfl hb214) rfl rfl ?_
                clear hf; intro a ha hf
                exact st_nil hf (th_n ⟨ha, rfl⟩)
              clear hf; intro a hf
              refine dr_take 31 (.bool z217) rfl (by kernel_rfl) (by kernel_rfl) (by kernel_rfl) (by kernel_rfl) rfl rfl hf (by decide) (wantY hf rfl rfl hb211) (fun w hp => ?_) ⟨_, hp⟩ ?_
              · obtain ⟨_, hp⟩ := hp
                refine st_pick (v := .bool z217) hf (wantY hf rfl rfl hb211) rfl (fun _ => by rw [← hz213]; rfl) (fun hb' => absurd (hb214.symm.trans hb') (by decide)) (by decide) ?_
                clear hf; intro a ha hf
                exact st_nil hf (th_n ⟨ha, rfl⟩)
              clear hf; intro a hf
              refine dr_take 32 (.bool z218) rfl (by kernel_rfl) (by kernel_rfl) (by kernel_rfl) (by kernel_rfl) rfl rfl hf (by decide) rfl (fun w hp => ?_) ⟨_, hp⟩ ?_
              · obtain ⟨_, hp⟩ := hp
                refine st_pick (v := .bool z218) hf rfl rfl (fun hb' => absurd (hb211.symm.trans hb') (by decide)) (fun _ => by rw [← hz210]; rfl) (by decide) ?_
                clear hf; intro a ha hf
                exact st_nil hf (th_n ⟨ha, rfl⟩)
              clear hf; intro a hf
              refine dr_end (by kernel_rfl) ?_ _
              have hp := bk199 _ _ hp
              have hp := bk194 _ _ hp
              have hp := bk189 _ _ hp
              have hp := bk184 _ _ hp
              exact ⟨hf.sub ⟨rfl, rfl, rfl, rfl, rfl, rfl, rfl, rfl, rfl, rfl, trivial⟩, hp⟩
            skip
            replace hz213 := ifF hz213 hb214
            replace hz213 := Option.some.inj hz213
            refine dr_begin' (fun a w => Fr 301 a [(3, .int .u8 xx0_N), (4, v5), (5, v14), (7, v25), (10, v38), (17, v159), (18, v160), (20, v170), (22, .int .i64 k22), (270, .bool z218)] ∧ Hp S w0 w (Res.sl Ek.bool 4 v160 q147.2.1 :: Res.sl Ek.bool 4 v38 q82.2 :: Res.sl (Ek.int .u8) 5 v159 q147.1 :: Res.sl (Ek.int .u8) 5 v170 q163.1 :: Res.sl (Ek.int .u8) 5 v5 q3 :: Res.sl Ek.c128 49 v14 q7.1 :: Res.sl Ek.c128 49 v25 q18.1 :: ow)) (fun w' => ∃ l, Hp S195 w w' l) [] (by kernel_rfl) ?_
            refine dr_take 0 (v160) rfl (by kernel_rfl) (by kernel_rfl) (by kernel_rfl) (by kernel_rfl) rfl rfl hf (by decide) rfl (fun w hp => ?_) ⟨_, hp⟩ ?_
            · obtain ⟨_, hp⟩ := hp
              refine st_move hf rfl rfl (by decide) ?_
              clear hf; intro a ha hf
              exact st_nil hf (th_n ⟨ha, rfl⟩)
            clear hf; intro a hf
            refine dr_take 1 (.int .i64 k22) rfl (by kernel_rfl) (by kernel_rfl) (by kernel_rfl) (by kernel_rfl) rfl rfl hf (by decide) rfl (fun w hp => ?_) ⟨_, hp⟩ ?_
            · obtain ⟨_, hp⟩ := hp
              refine st_move hf rfl rfl (by decide) ?_
              clear hf; intro a ha hf
              exact st_nil hf (th_n ⟨ha, rfl⟩)
            clear hf; intro a hf
            refine dr_take 2 (eptr v160 k22 1) rfl (by kernel_rfl) (by kernel_rfl) (by kernel_rfl) (by kernel_rfl) rfl rfl hf (by decide) rfl (fun w hp => ?_) ⟨_, hp⟩ ?_
            · obtain ⟨_, hp⟩ := hp
              refine st_index (E := Ek.bool) hf (by decide) Try.underlying27 elt4 rfl rfl rfl (rl202.sl hp) hc204.1 hc204.2 ?_
              clear hf; intro a ha hf
              exact st_nil hf (th_n ⟨ha, rfl⟩)
            clear hf; intro a hf
            refine dr_take 3 (.bool (gt q147.2.1 k22)) rfl (by kernel_rfl) (by kernel_rfl) (by kernel_rfl) (by kernel_rfl) rfl rfl hf (by decide) rfl (fun w hp => ?_) ⟨_, hp⟩ ?_
            · obtain ⟨_, hp⟩ := hp
              refine st_ldB hf (by decide) pl4 rfl rfl (rl202.sl hp) hc204.1 hc204.2 ?_
              clear hf; intro a ha hf
              exact st_nil hf (th_n ⟨ha, rfl⟩)
            clear hf; intro a hf
            refine dr_take 4 (v38) rfl (by kernel_rfl) (by kernel_rfl) (by kernel_rfl) (by kernel_rfl) rfl rfl hf (by decide) rfl (fun w hp => ?_) ⟨_, hp⟩ ?_
            · obtain ⟨_, hp⟩ := hp
              refine st_move hf rfl rfl (by decide) ?_
              clear hf; intro a ha hf
              exact st_nil hf (th_n ⟨ha, rfl⟩)
            clear hf; intro a hf
            refine dr_take 5 (.int .i64 k22) rfl (by kernel_rfl) (by kernel_rfl) (by kernel_rfl) (by kernel_rfl) rfl rfl hf (by decide) rfl (fun w hp => ?_) ⟨_, hp⟩ ?_
            · obtain ⟨_, hp⟩ := hp
              refine st_move hf rfl rfl (by decide) ?_
              clear hf; intro a ha hf
              exact st_nil hf (th_n ⟨ha, rfl⟩)
            clear hf; intro a hf
            refine dr_take 6 (eptr v38 k22 1) rfl (by kernel_rfl) (by kernel_rfl) (by kernel_rfl) (by kernel_rfl) rfl rfl hf (by decide) rfl (fun w hp => ?_) ⟨_, hp⟩ ?_
            · obtain ⟨_, hp⟩ := hp
              refine st_index (E := Ek.bool) hf (by decide) Try.underlying27 elt4 rfl rfl rfl (rl200.sl hp) hc205.1 hc205.2 ?_
              clear hf; intro a ha hf
              exact st_nil hf (th_n ⟨ha, rfl⟩)
            clear hf; intro a hf
            refine dr_take 7 (.bool (gt q82.2 k22)) rfl (by kernel_rfl) (by kernel_rfl) (by kernel_rfl) (by kernel_rfl) rfl rfl hf (by decide) rfl (fun w hp => ?_) ⟨_, hp⟩ ?_
            · obtain ⟨_, hp⟩ := hp
              refine st_ldB hf (by decide) pl4 rfl rfl (rl200.sl hp) hc205.1 hc205.2 ?_
              clear hf; intro a ha hf
              exact st_nil hf (th_n ⟨ha, rfl⟩)
            clear hf; intro a hf
            refine dr_take 8 (.bool (gt q82.2 k22)) rfl (by kernel_rfl) (by kernel_rfl) (by kernel_rfl) (by kernel_rfl) rfl rfl hf (by decide) rfl (fun w hp => ?_) ⟨_, hp⟩ ?_
            · obtain ⟨_, hp⟩ := hp
              refine st_move hf rfl rfl (by decide) ?_
              clear hf; intro a ha hf
              exact st_nil hf (th_n ⟨ha, rfl⟩)
            clear hf; intro a hf
            refine dr_take 9 (v38) rfl (by kernel_rfl) (by kernel_rfl) (by kernel_rfl) (by kernel_rfl) rfl rfl hf (by decide) (wantY hf rfl rfl hb207) (fun w hp => ?_) ⟨_, hp⟩ ?_
            · obtain ⟨_, hp⟩ := hp
              refine st_move hf (wantY hf rfl rfl hb207) rfl (by decide) ?_
              clear hf; intro a ha hf
              exact st_nil hf (th_n ⟨ha, rfl⟩)
            clear hf; intro a hf
            refine dr_take 10 (.int .i64 k22) rfl (by kernel_rfl) (by kernel_rfl) (by kernel_rfl) (by kernel_rfl) rfl rfl hf (by decide) (wantY hf rfl rfl hb207) (fun w hp => ?_) ⟨_, hp⟩ ?_
            · obtain ⟨_, hp⟩ := hp
              refine st_move hf (wantY hf rfl rfl hb207) rfl (by decide) ?_
              clear hf; intro a ha hf
              exact st_nil hf (th_n ⟨ha, rfl⟩)
            clear hf; intro a hf
            refine dr_take 11 (.int .i64 (IntKind.i64.wrap (k22 - (1 : Int)))) rfl (by kernel_rfl) (by kernel_rfl) (by kernel_rfl) (by kernel_rfl) rfl rfl hf (by decide) (wantY hf rfl rfl hb207) (fun w hp => ?_) ⟨_, hp⟩ ?_
            · obtain ⟨_, hp⟩ := hp
              refine st_isub hf (by decide) (wantY hf rfl rfl hb207) rfl rfl ?_
              clear hf; intro a ha hf
              exact st_nil hf (th_n ⟨ha, rfl⟩)
            clear hf; intro a hf
            refine dr_take 12 (eptr v38 (IntKind.i64.wrap (k22 - (1 : Int))) 1) rfl (by kernel_rfl) (by kernel_rfl) (by kernel_rfl) (by kernel_rfl) rfl rfl hf (by decide) (wantY hf rfl rfl hb207) (fun w hp => ?_) ⟨_, hp⟩ ?_
            · obtain ⟨_, hp⟩ := hp
              refine st_index (E := Ek.bool) hf (by decide) Try.underlying27 elt4 (wantY hf rfl rfl hb207) rfl rfl (rl200.sl hp) hc208.1 hc208.2 ?_
              clear hf; intro a ha hf
              exact st_nil hf (th_n ⟨ha, rfl⟩)
            clear hf; intro a hf
            refine dr_take 13 (.bool (gt q82.2 (IntKind.i64.wrap (k22 - (1 : Int))))) rfl (by kernel_rfl) (by kernel_rfl) (by kernel_rfl) (by kernel_rfl) rfl rfl hf (by decide) (wantY hf rfl rfl hb207) (fun w hp => ?_) ⟨_, hp⟩ ?_
            · obtain ⟨_, hp⟩ := hp
              refine st_ldB hf (by decide) pl4 (wantY hf rfl rfl hb207) rfl (rl200.sl hp) hc208.1 hc208.2 ?_
              clear hf; intro a ha hf
              exact st_nil hf (th_n ⟨ha, rfl⟩)
            clear hf; intro a hf
            refine dr_take 14 (.bool z209) rfl (by kernel_rfl) (by kernel_rfl) (by kernel_rfl) (by kernel_rfl) rfl rfl hf (by decide) rfl (fun w hp => ?_) ⟨_, hp⟩ ?_
            · obtain ⟨_, hp⟩ := hp
              refine st_pick (v := .bool z209) hf rfl rfl (fun _ => by rw [← hz206]; rfl) (fun hb' => absurd (hb207.symm.trans hb') (by decide)) (by decide) ?_
              clear hf; intro a ha hf
              exact st_nil hf (th_n ⟨ha, rfl⟩)
            clear hf; intro a hf
            refine dr_take 15 (.bool ((gt q147.2.1 k22) != z209)) rfl (by kernel_rfl) (by kernel_rfl) (by kernel_rfl) (by kernel_rfl) rfl rfl hf (by decide) rfl (fun w hp => ?_) ⟨_, hp⟩ ?_
            · obtain ⟨_, hp⟩ := hp
              refine st_bneq hf (by decide) Try.underlying4 rfl rfl rfl ?_
              clear hf; intro a ha hf
              exact st_nil hf (th_n ⟨ha, rfl⟩)
            clear hf; intro a hf
            refine dr_take 16 (.bool ((gt q147.2.1 k22) != z209)) rfl (by kernel_rfl) (by kernel_rfl) (by kernel_rfl) (by kernel_rfl) rfl rfl hf (by decide) rfl (fun w hp => ?_) ⟨_, hp⟩ ?_
            · obtain ⟨_, hp⟩ := hp
              refine st_move hf rfl rfl (by decide) ?_
              clear hf; intro a ha hf
              exact st_nil hf (th_n ⟨ha, rfl⟩)
            clear hf; intro a hf
            refine dr_take 17 (v160) rfl (by kernel_rfl) (by kernel_rfl) (by kernel_rfl) (by kernel_rfl) rfl rfl hf (by decide) (wantY hf rfl rfl hb211) (fun w hp => ?_) ⟨_, hp⟩ ?_
            · obtain ⟨_, hp⟩ := hp
              refine st_move hf (wantY hf rfl rfl hb211) rfl (by decide) ?_
              clear hf; intro a ha hf
              exact st_nil hf (th_n ⟨ha, rfl⟩)
            clear hf; intro a hf
            refine dr_take 18 (.int .i64 k22) rfl (by kernel_rfl) (by kernel_rfl) (by kernel_rfl) (by kernel_rfl) rfl rfl hf (by decide) (wantY hf rfl rfl hb211) (fun w hp => ?_) ⟨_, hp⟩ ?_
            · obtain ⟨_, hp⟩ := hp
              refine st_move hf (wantY hf rfl rfl hb211) rfl (by decide) ?_
              clear hf; intro a ha hf
              exact st_nil hf (th_n ⟨ha, rfl⟩)
            clear hf; intro a hf
            refine dr_take 19 (eptr v160 k22 1) rfl (by kernel_rfl) (by kernel_rfl) (by kernel_rfl) (by kernel_rfl) rfl rfl hf (by decide) (wantY hf rfl rfl hb211) (fun w hp => ?_) ⟨_, hp⟩ ?_
            · obtain ⟨_, hp⟩ := hp
              refine st_index (E := Ek.bool) hf (by decide) Try.underlying27 elt4 (wantY hf rfl rfl hb211) rfl rfl (rl202.sl hp) hc212.1 hc212.2 ?_
              clear hf; intro a ha hf
              exact st_nil hf (th_n ⟨ha, rfl⟩)
            clear hf; intro a hf
            refine dr_take 20 (.bool (gt q147.2.1 k22)) rfl (by kernel_rfl) (by kernel_rfl) (by kernel_rfl) (by kernel_rfl) rfl rfl hf (by decide) (wantY hf rfl rfl hb211) (fun w hp => ?_) ⟨_, hp⟩ ?_
            · obtain ⟨_, hp⟩ := hp
              refine st_ldB hf (by decide) pl4 (wantY hf rfl rfl hb211) rfl (rl202.sl hp) hc212.1 hc212.2 ?_
              clear hf; intro a ha hf
              exact st_nil hf (th_n ⟨ha, rfl⟩)
            clear hf; intro a hf
            refine dr_take 21 (.bool (gt q147.2.1 k22)) rfl (by kernel_rfl) (by kernel_rfl) (by kernel_rfl) (by kernel_rfl) rfl rfl hf (by decide) (wantY hf rfl rfl hb211) (fun w hp => ?_) ⟨_, hp⟩ ?_
            · obtain ⟨_, hp⟩ := hp
              refine st_move hf (wantY hf rfl rfl hb211) rfl (by decide) ?_
              clear hf; intro a ha hf
              exact st_nil hf (th_n ⟨ha, rfl⟩)
            clear hf; intro a hf
            refine dr_out 22 rfl (by kernel_rfl) (by kernel_rfl) (by kernel_rfl) (by kernel_rfl) rfl hf (by decide) rfl (wantN hf rfl rfl hb214) ⟨_, hp⟩ ?_
            clear hf; intro a hf
            refine dr_out 23 rfl (by kernel_rfl) (by kernel_rfl) (by kernel_rfl) (by kernel_rfl) rfl hf (by decide) rfl (wantN hf rfl rfl hb214) ⟨_, hp⟩ ?_
            clear hf; intro a hf
            refine dr_out 24 rfl (by kernel_rfl) (by kernel_rfl) (by kernel_rfl) (by kernel_rfl) rfl hf (by decide) rfl (wantN hf rfl rfl hb214) ⟨_, hp⟩ ?_
            clear hf; intro a hf
            refine dr_out 25 rfl (by kernel_rfl) (by kernel_rfl) (by kernel_rfl) (by kernel_rfl) rfl hf (by decide) rfl (wantN hf rfl rfl hb214) ⟨_, hp⟩ ?_
            clear hf; intro a hf
            refine dr_out 26 rfl (by kernel_rfl) (by kernel_rfl) (by kernel_rfl) (by kernel_rfl) rfl hf (by decide) rfl (wantN hf rfl rfl hb214) ⟨_, hp⟩ ?_
            clear hf; intro a hf
            refine dr_out 27 rfl (by kernel_rfl) (by kernel_rfl) (by kernel_rfl) (by kernel_rfl) rfl hf (by decide) rfl (wantN hf rfl rfl hb214) ⟨_, hp⟩ ?_
            clear hf; intro a hf
            refine dr_out 28 rfl (by kernel_rfl) (by kernel_rfl) (by kernel_rfl) (by kernel_rfl) rfl hf (by decide) rfl (wantN hf rfl rfl hb214) ⟨_, hp⟩ ?_
            clear hf; intro a hf
            refine dr_out 29 rfl (by kernel_rfl) (by kernel_rfl) (by kernel_rfl) (by kernel_rfl) rfl hf (by decide) rfl (wantN hf rfl rfl hb214) ⟨_, hp⟩ ?_
            clear hf; intro a hf
            refine dr_out 30 rfl (by kernel_rfl) (by kernel_rfl) (by kernel_rfl) (by kernel_rfl) rfl hf (by decide) rfl (wantN hf rfl rfl hb214) ⟨_, hp⟩ ?_
            clear hf; intro a hf
            refine dr_take 31 (.bool z217) rfl (by kernel_rfl) (by kernel_rfl) (by kernel_rfl) (by kernel_rfl) rfl rfl hf (by decide) (wantY hf rfl rfl hb211) (fun w hp => ?_) ⟨_, hp⟩ ?_
            · obtain ⟨_, hp⟩ := hp
              refine st_pick (v := .bool z217) hf (wantY hf rfl rfl hb211) rfl (fun hb' => absurd (hb214.symm.trans hb') (by decide)) (fun _ => by rw [← hz213]; rfl) (by decide) ?_
              clear hf; intro a ha hf
              exact st_nil hf (th_n ⟨ha, rfl⟩)
            clear hf; intro a hf
            refine dr_take 32 (.bool z218) rfl (by kernel_rfl) (by kernel_rfl) (by kernel_rfl) (by kernel_rfl) rfl rfl hf (by decide) rfl (fun w hp => ?_) ⟨_, hp⟩ ?_
            · obtain ⟨_, hp⟩ := hp
              refine st_pick (v := .bool z218) hf rfl rfl (fun hb' => absurd (hb211.symm.trans hb') (by decide)) (fun _ => by rw [← hz210]; rfl) (by decide) ?_
              clear hf; intro a ha hf
              exact st_nil hf (th_n ⟨ha, rfl⟩)
            clear hf; intro a hf
            refine dr_end (by kernel_rfl) ?_ _
            have hp := bk199 _ _ hp
            have hp := bk194 _ _ hp
            have hp := bk189 _ _ hp
            have hp := bk184 _ _ hp
            exact ⟨hf.sub ⟨rfl, rfl, rfl, rfl, rfl, rfl, rfl, rfl, rfl, rfl, trivial⟩, hp⟩
          skip
          replace hz206 := ifF hz206 hb207
          replace hz206 := Option.some.inj hz206
          rcases Bool.eq_false_or_eq_true ((gt q147.2.1 k22) != z209) with hb211 | hb211
          · skip
            replace hz210 := ifT hz210 hb211
            replace hz210 := Option.some.inj hz210
            refine dr_begin' (fun a w => Fr 301 a [(3, .int .u8 xx0_N), (4, v5), (5, v14), (7, v25), (10, v38), (17, v159), (18, v160), (20, v170), (22, .int .i64 k22), (270, .bool z218)] ∧ Hp S w0 w (Res.sl Ek.bool 4 v160 q147.2.1 :: Res.sl Ek.bool 4 v38 q82.2 :: Res.sl (Ek.int .u8) 5 v159 q147.1 :: Res.sl (Ek.int .u8) 5 v170 q163.1 :: Res.sl (Ek.int .u8) 5 v5 q3 :: Res.sl Ek.c128 49 v14 q7.1 :: Res.sl Ek.c128 49 v25 q18.1 :: ow)) (fun w' => ∃ l, Hp S195 w w' l) [] (by kernel_rfl) ?_
            refine dr_take 0 (v160) rfl (by kernel_rfl) (by kernel_rfl) (by kernel_rfl) (by kernel_rfl) rfl rfl hf (by decide) rfl (fun w hp => ?_) ⟨_, hp⟩ ?_
            · obtain ⟨_, hp⟩ := hp
              refine st_move hf rfl rfl (by decide) ?_
              clear hf; intro a ha hf
              exact st_nil hf (th_n ⟨ha, rfl⟩)
            clear hf; intro a hf
            refine dr_take 1 (.int .i64 k22) rfl (by kernel_rfl) (by kernel_rfl) (by kernel_rfl) (by kernel_rfl) rfl rfl hf (by decide) rfl (fun w hp => ?_) ⟨_, hp⟩ ?_
            · obtain ⟨_, hp⟩ := hp
              refine st_move hf rfl rfl (by decide) ?_
              clear hf; intro a ha hf
              exact st_nil hf (th_n ⟨ha, rfl⟩)
            clear hf; intro a hf
            refine dr_take 2 (eptr v160 k22 1) rfl (by kernel_rfl) (by kernel_rfl) (by kernel_rfl) (by kernel_rfl) rfl rfl hf (by decide) rfl (fun w hp => ?_) ⟨_, hp⟩ ?_
            · obtain ⟨_, hp⟩ := hp
              refine st_index (E := Ek.bool) hf (by decide) Try.underlying27 elt4 rfl rfl rfl (rl202.sl hp) hc204.1 hc204.2 ?_
              clear hf; intro a ha hf
              exact st_nil hf (th_n ⟨ha, rfl⟩)
            clear hf; intro a hf
            refine dr_take 3 (.bool (gt q147.2.1 k22)) rfl (by kernel_rfl) (by kernel_rfl) (by kernel_rfl) (by kernel_rfl) rfl rfl hf (by decide) rfl (fun w hp => ?_) ⟨_, hp⟩ ?_
            · obtain ⟨_, hp⟩ := hp
              refine st_ldB hf (by decide) pl4 rfl rfl (rl202.sl hp) hc204.1 hc204.2 ?_
              clear hf; intro a ha hf
              exact st_nil hf (th_n ⟨ha, rfl⟩)
            clear hf; intro a hf
            refine dr_take 4 (v38) rfl (by kernel_rfl) (by kernel_rfl) (by kernel_rfl) (by kernel_rfl) rfl rfl hf (by decide) rfl (fun w hp => ?_) ⟨_, hp⟩ ?_
            · obtain ⟨_, hp⟩ := hp
              refine st_move hf rfl rfl (by decide) ?_
              clear hf; intro a ha hf
              exact st_nil hf (th_n ⟨ha, rfl⟩)
            clear hf; intro a hf
            refine dr_take 5 (.int .i64 k22) rfl (by kernel_rfl) (by kernel_rfl) (by kernel_rfl) (by kernel_rfl) rfl rfl hf (by decide) rfl (fun w hp => ?_) ⟨_, hp⟩ ?_
            · obtain ⟨_, hp⟩ := hp
              refine st_move hf rfl rfl (by decide) ?_
              clear hf; intro a ha hf
              exact st_nil hf (th_n ⟨ha, rfl⟩)
            clear hf; intro a hf
            refine dr_take 6 (eptr v38 k22 1) rfl (by kernel_rfl) (by kernel_rfl) (by kernel_rfl) (by kernel_rfl) rfl rfl hf (by decide) rfl (fun w hp => ?_) ⟨_, hp⟩ ?_
            · obtain ⟨_, hp⟩ := hp
              refine st_index (E := Ek.bool) hf (by decide) Try.underlying27 elt4 rfl rfl rfl (rl200.sl hp) hc205.1 hc205.2 ?_
              clear hf; intro a ha hf
              exact st_nil hf (th_n ⟨ha, rfl⟩)
            clear hf; intro a hf
            refine dr_take 7 (.bool (gt q82.2 k22)) rfl (by kernel_rfl) (by kernel_rfl) (by kernel_rfl) (by kernel_rfl) rfl rfl hf (by decide) rfl (fun w hp => ?_) ⟨_, hp⟩ ?_
            · obtain ⟨_, hp⟩ := hp
              refine st_ldB hf (by decide) pl4 rfl rfl (rl200.sl hp) hc205.1 hc205.2 ?_
              clear hf; intro a ha hf
              exact st_nil hf (th_n ⟨ha, rfl⟩)
            clear hf; intro a hf
            refine dr_take 8 (.bool (gt q82.2 k22)) rfl (by kernel_rfl) (by kernel_rfl) (by kernel_rfl) (by kernel_rfl) rfl rfl hf (by decide) rfl (fun w hp => ?_) ⟨_, hp⟩ ?_
            · obtain ⟨_, hp⟩ := hp
              refine st_move hf rfl rfl (by decide) ?_
              clear hf; intro a ha hf
              exact st_nil hf (th_n ⟨ha, rfl⟩)
            clear hf; intro a hf
            refine dr_out 9 rfl (by kernel_rfl) (by kernel_rfl) (by kernel_rfl) (by kernel_rfl) rfl hf (by decide) rfl (wantN hf rfl rfl hb207) ⟨_, hp⟩ ?_
            clear hf; intro a hf
            refine dr_out 10 rfl (by kernel_rfl) (by kernel_rfl) (by kernel_rfl) (by kernel_rfl) rfl hf (by decide) rfl (wantN hf rfl rfl hb207) ⟨_, hp⟩ ?_
            clear hf; intro a hf
            refine dr_out 11 rfl (by kernel_rfl) (by kernel_rfl) (by kernel_rfl) (by kernel_rfl) rfl hf (by decide) rfl (wantN hf rfl rfl hb207) ⟨_, hp⟩ ?_
            clear hf; intro a hf
            refine dr_out 12 rfl (by kernel_rfl) (by kernel_rfl) (by kernel_rfl) (by kernel_rfl) rfl hf (by decide) rfl (wantN hf rfl rfl hb207) ⟨_, hp⟩ ?_
            clear hf; intro a hf
            refine dr_out 13 rfl (by kernel_rfl) (by kernel_rfl) (by kernel_rfl) (by kernel_rfl) rfl hf (by decide) rfl (wantN hf rfl rfl hb207) ⟨_, hp⟩ ?_
            clear hf; intro a hf
            refine dr_take 14 (.bool z209) rfl (by kernel_rfl) (by kernel_rfl) (by kernel_rfl) (by kernel_rfl) rfl rfl hf (by decide) rfl (fun w hp => ?_) ⟨_, hp⟩ ?_
            · obtain ⟨_, hp⟩ := hp
              refine st_pick (v := .bool z209) hf rfl rfl (fun hb' => absurd (hb207.symm.trans hb') (by decide)) (fun _ => by rw [← hz206]; rfl) (by decide) ?_
              clear hf; intro a ha hf
              exact st_nil hf (th_n ⟨ha, rfl⟩)
            clear hf; intro a hf
            refine dr_take 15 (.bool ((gt q147.2.1 k22) != z209)) rfl (by kernel_rfl) (by kernel_rfl) (by kernel_rfl) (by kernel_rfl) rfl rfl hf (by decide) rfl (fun w hp => ?_) ⟨_, hp⟩ ?_
            · obtain ⟨_, hp⟩ := hp
              refine st_bneq hf (by decide) Try.underlying4 rfl rfl rfl ?_
              clear hf; intro a ha hf
              exact st_nil hf (th_n ⟨ha, rfl⟩)
            clear hf; intro a hf
            refine dr_take 16 (.bool ((gt q147.2.1 k22) != z209)) rfl (by kernel_rfl) (by kernel_rfl) (by kernel_rfl) (by kernel_rfl) rfl rfl hf (by decide) rfl (fun w hp => ?_) ⟨_, hp⟩ ?_
            · obtain ⟨_, hp⟩ := hp
              refine st_move hf rfl rfl (by decide) ?_
              clear hf; intro a ha hf
              exact st_nil hf (th_n ⟨ha, rfl⟩)
            clear hf; intro a hf
            refine dr_out 17 rfl (by kernel_rfl) (by kernel_rfl) (by kernel_rfl) (by kernel_rfl) rfl hf (by decide) rfl (wantN hf rfl rfl hb211) ⟨_, hp⟩ ?_
            clear hf; intro a hf
            refine dr_out 18 rfl (by kernel_rfl) (by kernel_rfl) (by kernel_rfl) (by kernel_rfl) rfl hf (by decide) rfl (wantN hf rfl rfl hb211) ⟨_, hp⟩ ?_
            clear hf; intro a hf
            refine dr_out 19 rfl (by kernel_rfl) (by kernel_rfl) (by kernel_rfl) (by kernel_rfl) rfl hf (by decide) rfl (wantN hf rfl rfl hb211) ⟨_, hp⟩ ?_
            clear hf; intro a hf
            refine dr_out 20 rfl (by kernel_rfl) (by kernel_rfl) (by kernel_rfl) (by kernel_rfl) rfl hf (by decide) rfl (wantN hf rfl rfl hb211) ⟨_, hp⟩ ?_
            clear hf; intro a hf
            refine dr_outU 21 rfl (by kernel_rfl) (by kernel_rfl) (by kernel_rfl) (by kernel_rfl) rfl hf (by decide) (wantN hf rfl rfl hb211) ⟨_, hp⟩ ?_
            clear hf; intro a hf
            refine dr_out 22 rfl (by kernel_rfl) (by kernel_rfl) (by kernel_rfl) (by kernel_rfl) rfl hf (by decide) rfl (wantU hf rfl rfl) ⟨_, hp⟩ ?_
            clear hf; intro a hf
            refine dr_out 23 rfl (by kernel_rfl) (by kernel_rfl) (by kernel_rfl) (by kernel_rfl) rfl hf (by decide) rfl (wantU hf rfl rfl) ⟨_, hp⟩ ?_
            clear hf; intro a hf
            refine dr_out 24 rfl (by kernel_rfl) (by kernel_rfl) (by kernel_rfl) (by kernel_rfl) rfl hf (by decide) rfl (wantU hf rfl rfl) ⟨_, hp⟩ ?_
            clear hf; intro a hf
            refine dr_out 25 rfl (by kernel_rfl) (by kernel_rfl) (by kernel_rfl) (by kernel_rfl) rfl hf (by decide) rfl (wantU hf rfl rfl) ⟨_, hp⟩ ?_
            clear hf; intro a hf
            refine dr_out 26 rfl (by kernel_rfl) (by kernel_rfl) (by kernel_rfl) (by kernel_rfl) rfl hf (by decide) rfl (wantU hf rfl rfl) ⟨_, hp⟩ ?_
            clear hf; intro a hf
            refine dr_out 27 rfl (by kernel_rfl) (by kernel_rfl) (by kernel_rfl) (by kernel_rfl) rfl hf (by decide) rfl (wantU hf rfl rfl) ⟨_, hp⟩ ?_
            clear hf; intro a hf
            refine dr_out 28 rfl (by kernel_rfl) (by kernel_rfl) (by kernel_rfl) (by kernel_rfl) rfl hf (by decide) rfl (wantU hf rfl rfl) ⟨_, hp⟩ ?_
            clear hf; intro a hf
            refine dr_out 29 rfl (by kernel_rfl) (by kernel_rfl) (by kernel_rfl) (by kernel_rfl) rfl hf (by decide) rfl (wantU hf rfl rfl) ⟨_, hp⟩ ?_
            clear hf; intro a hf
            refine dr_out 30 rfl (by kernel_rfl) (by kernel_rfl) (by kernel_rfl) (by kernel_rfl) rfl hf (by decide) rfl (wantU hf rfl rfl) ⟨_, hp⟩ ?_
            clear hf; intro a hf
            refine dr_out 31 rfl (by kernel_rfl) (by kernel_rfl) (by kernel_rfl) (by kernel_rfl) rfl hf (by decide) rfl (wantN hf rfl rfl hb211) ⟨_, hp⟩ ?_
            clear hf; intro a hf
            refine dr_take 32 (.bool z218) rfl (by kernel_rfl) (by kernel_rfl) (by kernel_rfl) (by kernel_rfl) rfl rfl hf (by decide) rfl (fun w hp => ?_) ⟨_, hp⟩ ?_
            · obtain ⟨_, hp⟩ := hp
              refine st_pick (v := .bool z218) hf rfl rfl (fun _ => by rw [← hz210]; rfl) (fun hb' => absurd (hb211.symm.trans hb') (by decide)) (by decide) ?_
              clear hf; intro a ha hf
              exact st_nil hf (th_n ⟨ha, rfl⟩)
            clear hf; intro a hf
            refine dr_end (by kernel_rfl) ?_ _
            have hp := bk199 _ _ hp
            have hp := bk194 _ _ hp
            have hp := bk189 _ _ hp
            have hp := bk184 _ _ hp
            exact ⟨hf.sub ⟨rfl, rfl, rfl, rfl, rfl, rfl, rfl, rfl, rfl, rfl, trivial⟩, hp⟩
          skip
          replace hz210 := ifF hz210 hb211
          obtain ⟨hc212, hz210⟩ := chk hz210
          obtain ⟨z217, hz213, hz210⟩ := bnd hz210
          replace hz210 := Option.some.inj hz210
          rcases Bool.eq_false_or_eq_true (gt q147.2.1 k22) with hb214 | hb214
          · skip
            replace hz213 := ifT hz213 hb214
            obtain ⟨hc215, hz213⟩ := chk hz213
            obtain ⟨hc216, hz213⟩ := chk hz213
            replace hz213 := Option.some.inj hz213
            refine dr_begin' (fun a w => Fr 301 a [(3, .int .u8 xx0_N), (4, v5), (5, v14), (7, v25), (10, v38), (17, v159), (18, v160), (20, v170), (22, .int .i64 k22), (270, .bool z218)] ∧ Hp S w0 w (Res.sl Ek.bool 4 v160 q147.2.1 :: Res.sl Ek.bool 4 v38 q82.2 :: Res.sl (Ek.int .u8) 5 v159 q147.1 :: Res.sl (Ek.int .u8) 5 v170 q163.1 :: Res.sl (Ek.int .u8) 5 v5 q3 :: Res.sl Ek.c128 49 v14 q7.1 :: Res.sl Ek.c128 49 v25 q18.1 :: ow)) (fun w' => ∃ l, Hp S195 w w' l) [] (by kernel_rfl) ?_
            refine dr_take 0 (v160) rfl (by kernel_rfl) (by kernel_rfl) (by kernel_rfl) (by kernel_rfl) rfl rfl hf (by decide) rfl (fun w hp => ?_) ⟨_, hp⟩ ?_
            · obtain ⟨_, hp⟩ := hp
              refine st_move hf rfl rfl (by decide) ?_
              clear hf; intro a ha hf
              exact st_nil hf (th_n ⟨ha, rfl⟩)
            clear hf; intro a hf
            refine dr_take 1 (.int .i64 k22) rfl (by kernel_rfl) (by kernel_rfl) (by kernel_rfl) (by kernel_rfl) rfl rfl hf (by decide) rfl (fun w hp => ?_) ⟨_, hp⟩ ?_
            · obtain ⟨_, hp⟩ := hp
              refine st_move hf rfl rfl (by decide) ?_
              clear hf; intro a ha hf
              exact st_nil hf (th_n ⟨ha, rfl⟩)
            clear hf; intro a hf
            refine dr_take 2 (eptr v160 k22 1) rfl (by kernel_rfl) (by kernel_rfl) (by kernel_rfl) (by kernel_rfl) rfl rfl hf (by decide) rfl (fun w hp => ?_) ⟨_, hp⟩ ?_
            · obtain ⟨_, hp⟩ := hp
              refine st_index (E := Ek.bool) hf (by decide) Try.underlying27 elt4 rfl rfl rfl (rl202.sl hp) hc204.1 hc204.2 ?_
              clear hf; intro a ha hf
              exact st_nil hf (th_n ⟨ha, rfl⟩)
            clear hf; intro a hf
            refine dr_take 3 (.bool (gt q147.2.1 k22)) rfl (by kernel_rfl) (by kernel_rfl) (by kernel_rfl) (by kernel_rfl) rfl rfl hf (by decide) rfl (fun w hp => ?_) ⟨_, hp⟩ ?_
            · obtain ⟨_, hp⟩ := hp
              refine st_ldB hf (by decide) pl4 rfl rfl (rl202.sl hp) hc204.1 hc204.2 ?_
              clear hf; intro a ha hf
              exact st_nil hf (th_n ⟨ha, rfl⟩)
            clear hf; intro a hf
            refine dr_take 4 (v38) rfl (by kernel_rfl) (by kernel_rfl) (by kernel_rfl) (by kernel_rfl) rfl rfl hf (by decide) rfl (fun w hp => ?_) ⟨_, hp⟩ ?_
            · obtain ⟨_, hp⟩ := hp
              refine st_move hf rfl rfl (by decide) ?_
              clear hf; intro a ha hf
              exact st_nil hf (th_n ⟨ha, rfl⟩)
            clear hf; intro a hf
            refine dr_take 5 (.int .i64 k22) rfl (by kernel_rfl) (by kernel_rfl) (by kernel_rfl) (by kernel_rfl) rfl rfl hf (by decide) rfl (fun w hp => ?_) ⟨_, hp⟩ ?_
            · obtain ⟨_, hp⟩ := hp
              refine st_move hf rfl rfl (by decide) ?_
              clear hf; intro a ha hf
              exact st_nil hf (th_n ⟨ha, rfl⟩)
            clear hf; intro a hf
            refine dr_take 6 (eptr v38 k22 1) rfl (by kernel_rfl) (by kernel_rfl) (by kernel_rfl) (by kernel_rfl) rfl rfl hf (by decide) rfl (fun w hp => ?_) ⟨_, hp⟩ ?_
            · obtain ⟨_, hp⟩ := hp
              refine st_index (E := Ek.bool) hf (by decide) Try.underlying27 elt4 rfl rfl rfl (rl200.sl hp) hc205.1 hc205.2 ?_
              clear hf; intro a ha hf
              exact st_nil hf (th_n ⟨ha, rfl⟩)
            clear hf; intro a hf
            refine dr_take 7 (.bool (gt q82.2 k22)) rfl (by kernel_rfl) (by kernel_rfl) (by kernel_rfl) (by kernel_rfl) rfl rfl hf (by decide) rfl (fun w hp => ?_) ⟨_, hp⟩ ?_
            · obtain ⟨_, hp⟩ := hp
              refine st_ldB hf (by decide) pl4 rfl rfl (rl200.sl hp) hc205.1 hc205.2 ?_
              clear hf; intro a ha hf
              exact st_nil hf (th_n ⟨ha, rfl⟩)
            clear hf; intro a hf
            refine dr_take 8 (.bool (gt q82.2 k22)) rfl (by kernel_rfl) (by kernel_rfl) (by kernel_rfl) (by kernel_rfl) rfl rfl hf (by decide) rfl (fun w hp => ?_) ⟨_, hp⟩ ?_
            · obtain ⟨_, hp⟩ := hp
              refine st_move hf rfl rfl (by decide) ?_
              clear hf; intro a ha hf
              exact st_nil hf (th_n ⟨ha, rfl⟩)
            clear hf; intro a hf
            refine dr_out 9 rfl (by kernel_rfl) (by kernel_rfl) (by kernel_rfl) (by kernel_rfl) rfl hf (by decide) rfl (wantN hf rfl rfl hb207) ⟨_, hp⟩ ?_
            clear hf; intro a hf
            refine dr_out 10 rfl (by kernel_rfl) (by kernel_rfl) (by kernel_rfl) (by kernel_rfl) rfl hf (by decide) rfl (wantN hf rfl rfl hb207) ⟨_, hp⟩ ?_
            clear hf; intro a hf
            refine dr_out 11 rfl (by kernel_rfl) (by kernel_rfl) (by kernel_rfl) (by kernel_rfl) rfl hf (by decide) rfl (wantN hf rfl rfl hb207) ⟨_, hp⟩ ?_
            clear hf; intro a hf
            refine dr_out 12 rfl (by kernel_rfl) (by kernel_rfl) (by kernel_rfl) (by kernel_rfl) rfl hf (by decide) rfl (wantN hf rfl rfl hb207) ⟨_, hp⟩ ?_
            clear hf; intro a hf
            refine dr_out 13 rfl (by kernel_rfl) (by kernel_rfl) (by kernel_rfl) (by kernel_rfl) rfl hf (by decide) rfl (wantN hf rfl rfl hb207) ⟨_, hp⟩ ?_
            clear hf; intro a hf
            refine dr_take 14 (.bool z209) rfl (by kernel_rfl) (by kernel_rfl) (by kernel_rfl) (by kernel_rfl) rfl rfl hf (by decide) rfl (fun w hp => ?_) ⟨_, hp⟩ ?_
            · obtain ⟨_, hp⟩ := hp
              refine st_pick (v := .bool z209) hf rfl rfl (fun hb' => absurd (hb207.symm.trans hb') (by decide)) (fun _ => by rw [← hz206]; rfl) (by decide) ?_
              clear hf; intro a ha hf
              exact st_nil hf (th_n ⟨ha, rfl⟩)
            clear hf; intro a hf
            refine dr_take 15 (.bool ((gt q147.2.1 k22) != z209)) rfl (by kernel_rfl) (by kernel_rfl) (by kernel_rfl) (by kernel_rfl) rfl rfl hf (by decide) rfl (fun w hp => ?_) ⟨_, hp⟩ ?_
            · obtain ⟨_, hp⟩ := hp
              refine st_bneq hf (by decide) Try.underlying4 rfl rfl rfl ?_
              clear hf; intro a ha hf
              exact st_nil hf (th_n ⟨ha, rfl⟩)
            clear hf; intro a hf
            refine dr_take 16 (.bool ((gt q147.2.1 k22) != z209)) rfl (by kernel_rfl) (by kernel_rfl) (by kernel_rfl) (by kernel_rfl) rfl rfl hf (by decide) rfl (fun w hp => ?_) ⟨_, hp⟩ ?_
            · obtain ⟨_, hp⟩ := hp
              refine st_move hf rfl rfl (by decide) ?_
              clear hf; intro a ha hf
              exact st_nil hf (th_n ⟨ha, rfl⟩)
            clear hf; intro a hf
            refine dr_take 17 (v160) rfl (by kernel_rfl) (by kernel_rfl) (by kernel_rfl) (by kernel_rfl) rfl rfl hf (by decide) (wantY hf rfl rfl hb211) (fun w hp => ?_) ⟨_, hp⟩ ?_
            · obtain ⟨_, hp⟩ := hp
              refine st_move hf (wantY hf rfl rfl hb211) rfl (by decide) ?_
              clear hf; intro a ha hf
              exact st_nil hf (th_n ⟨ha, rfl⟩)
            clear hf; intro a hf
            refine dr_take 18 (.int .i64 k22) rfl (by kernel_rfl) (by kernel_rfl) (by kernel_rfl) (by kernel_rfl) rfl rfl hf (by decide) (wantY hf rfl rfl hb211) (fun w hp => ?_) ⟨_, hp⟩ ?_
            · obtain ⟨_, hp⟩ := hp
              refine st_move hf (wantY hf rfl rfl hb211) rfl (by decide) ?_
              clear hf; intro a ha hf
              exact st_nil hf (th_n ⟨ha, rfl⟩)
            clear hf; intro a hf
            refine dr_take 19 (eptr v160 k22 1) rfl (by kernel_rfl) (by kernel_rfl) (by kernel_rfl) (by kernel_rfl) rfl rfl hf (by decide) (wantY hf rfl rfl hb211) (fun w hp => ?_) ⟨_, hp⟩ ?_
            · obtain ⟨_, hp⟩ := hp
              refine st_index (E := Ek.bool) hf (by decide) Try.underlying27 elt4 (wantY hf rfl rfl hb211) rfl rfl (rl202.sl hp) hc212.1 hc212.2 ?_
              clear hf; intro a ha hf
              exact st_nil hf (th_n ⟨ha, rfl⟩)
            clear hf; intro a hf
            refine dr_take 20 (.bool (gt q147.2.1 k22)) rfl (by kernel_rfl) (by kernel_rfl) (by kernel_rfl) (by kernel_rfl) rfl rfl hf (by decide) (wantY hf rfl rfl hb211) (fun w hp => ?_) ⟨_, hp⟩ ?_
            · obtain ⟨_, hp⟩ := hp
              refine st_ldB hf (by decide) pl4 (wantY hf rfl rfl hb211) rfl (rl202.sl hp) hc212.1 hc212.2 ?_
              clear hf; intro a ha hf
              exact st_nil hf (th_n ⟨ha, rfl⟩)
            clear hf; intro a hf
            refine dr_take 21 (.bool (gt q147.2.1 k22)) rfl (by kernel_rfl) (by kernel_rfl) (by kernel_rfl) (by kernel_rfl) rfl rfl hf (by decide) (wantY hf rfl rfl hb211) (fun w hp => ?_) ⟨_, hp⟩ ?_
            · obtain ⟨_, hp⟩ := hp
              refine st_move hf (wantY hf rfl rfl hb211) rfl (by decide) ?_
              clear hf; intro a ha hf
              exact st_nil hf (th_n ⟨ha, rfl⟩)
            clear hf; intro a hf
            refine dr_take 22 (v159) rfl (by kernel_rfl) (by kernel_rfl) (by kernel_rfl) (by kernel_rfl) rfl rfl hf (by decide) (wantY hf rfl rfl hb214) (fun w hp => ?_) ⟨_, hp⟩ ?_
            · obtain ⟨_, hp⟩ := hp
              refine st_move hf (wantY hf rfl rfl hb214) rfl (by decide) ?_
              clear hf; intro a ha hf
              exact st_nil hf (th_n ⟨ha, rfl⟩)
            clear hf; intro a hf
            refine dr_take 23 (.int .i64 k22) rfl (by kernel_rfl) (by kernel_rfl) (by kernel_rfl) (by kernel_rfl) rfl rfl hf (by decide) (wantY hf rfl rfl hb214) (fun w hp => ?_) ⟨_, hp⟩ ?_
            · obtain ⟨_, hp⟩ := hp
              refine st_move hf (wantY hf rfl rfl hb214) rfl (by decide) ?_
              clear hf; intro a ha hf
              exact st_nil hf (th_n ⟨ha, rfl⟩)
            clear hf; intro a hf
            refine dr_take 24 (eptr v159 k22 1) rfl (by kernel_rfl) (by kernel_rfl) (by kernel_rfl) (by kernel_rfl) rfl rfl hf (by decide) (wantY hf rfl rfl hb214) (fun w hp => ?_) ⟨_, hp⟩ ?_
            · obtain ⟨_, hp⟩ := hp
              refine st_index (E := (Ek.int .u8)) hf (by decide) Try.underlying22 elt5 (wantY hf rfl rfl hb214) rfl rfl (rl201.sl hp) hc215.1 hc215.2 ?_
              clear hf; intro a ha hf
              exact st_nil hf (th_n ⟨ha, rfl⟩)
            clear hf; intro a hf
            refine dr_take 25 (.int .u8 (gt q147.1 k22)) rfl (by kernel_rfl) (by kernel_rfl) (by kernel_rfl) (by kernel_rfl) rfl rfl hf (by decide) (wantY hf rfl rfl hb214) (fun w hp => ?_) ⟨_, hp⟩ ?_
            · obtain ⟨_, hp⟩ := hp
              refine st_ldI hf (by decide) pl5 (wantY hf rfl rfl hb214) rfl (rl201.sl hp) hc215.1 hc215.2 ?_
              clear hf; intro a ha hf
              exact st_nil hf (th_n ⟨ha, rfl⟩)
            clear hf; intro a hf
            refine dr_take 26 (v170) rfl (by kernel_rfl) (by kernel_rfl) (by kernel_rfl) (by kernel_rfl) rfl rfl hf (by decide) (wantY hf rfl rfl hb214) (fun w hp => ?_) ⟨_, hp⟩ ?_
            · obtain ⟨_, hp⟩ := hp
              refine st_move hf (wantY hf rfl rfl hb214) rfl (by decide) ?_
              clear hf; intro a ha hf
              exact st_nil hf (th_n ⟨ha, rfl⟩)
            clear hf; intro a hf
            refine dr_take 27 (.int .i64 k22) rfl (by kernel_rfl) (by kernel_rfl) (by kernel_rfl) (by kernel_rfl) rfl rfl hf (by decide) (wantY hf rfl rfl hb214) (fun w hp => ?_) ⟨_, hp⟩ ?_
            · obtain ⟨_, hp⟩ := hp
              refine st_move hf (wantY hf rfl rfl hb214) rfl (by decide) ?_
              clear hf; intro a ha hf
              exact st_nil hf (th_n ⟨ha, rfl⟩)
            clear hf; intro a hf
            refine dr_take 28 (eptr v170 k22 1) rfl (by kernel_rfl) (by kernel_rfl) (by kernel_rfl) (by kernel_rfl) rfl rfl hf (by decide) (wantY hf rfl rfl hb214) (fun w hp => ?_) ⟨_, hp⟩ ?_
            · obtain ⟨_, hp⟩ := hp
              refine st_index (E := (Ek.int .u8)) hf (by decide) Try.underlying22 elt5 (wantY hf rfl rfl hb214) rfl rfl (rl203.sl hp) hc216.1 hc216.2 ?_
              clear hf; intro a ha hf
              exact st_nil hf (th_n ⟨ha, rfl⟩)
            clear hf; intro a hf
            refine dr_take 29 (.int .u8 (gt q163.1 k22)) rfl (by kernel_rfl) (by kernel_rfl) (by kernel_rfl) (by kernel_rfl) rfl rfl hf (by decide) (wantY hf rfl rfl hb214) (fun w hp => ?_) ⟨_, hp⟩ ?_
            · obtain ⟨_, hp⟩ := hp
              refine st_ldI hf (by decide) pl5 (wantY hf rfl rfl hb214) rfl (rl203.sl hp) hc216.1 hc216.2 ?_
              clear hf; intro a ha hf
              exact st_nil hf (th_n ⟨ha, rfl⟩)
            clear hf; intro a hf
            refine dr_take 30 (.bool ((gt q147.1 k22) != (gt q163.1 k22))) rfl (by kernel_rfl) (by kernel_rfl) (by kernel_rfl) (by kernel_rfl) rfl rfl hf (by decide) (wantY hf rfl rfl hb214) (fun w hp => ?_) ⟨_, hp⟩ ?_
            · obtain ⟨_, hp⟩ := hp
              refine st_ineq hf (by decide) (wantY hf rfl rfl hb214) rfl rfl ?_
              clear hf; intro a ha hf
              exact st_nil hf (th_n ⟨ha, rfl⟩)
            clear hf; intro a hf
            refine dr_take 31 (.bool z217) rfl (by kernel_rfl) (by kernel_rfl) (by kernel_rfl) (by kernel_rfl) rfl rfl hf (by decide) (wantY hf rfl rfl hb211) (fun w hp => ?_) ⟨_, hp⟩ ?_
            · obtain ⟨_, hp⟩ := hp
              refine st_pick (v := .bool z217) hf (wantY hf rfl rfl hb211) rfl (fun _ => by rw [← hz213]; rfl) (fun hb' => absurd (hb214.symm.trans hb') (by decide)) (by decide) ?_
              clear hf; intro a ha hf
              exact st_nil hf (th_n ⟨ha, rfl⟩)
            clear hf; intro a hf
            refine dr_take 32 (.bool z218) rfl (by kernel_rfl) (by kernel_rfl) (by kernel_rfl) (by kernel_rfl) rfl rfl hf (by decide) rfl (fun w hp => ?_) ⟨_, hp⟩ ?_
            · obtain ⟨_, hp⟩ := hp
              refine st_pick (v := .bool z218) hf rfl rfl (fun hb' => absurd (hb211.symm.trans hb') (by decide)) (fun _ => by rw [← hz210]; rfl) (by decide) ?_
              clear hf; intro a ha hf
              exact st_nil hf (th_n ⟨ha, rfl⟩)
            clear hf; intro a hf
            refine dr_end (by kernel_rfl) ?_ _
            have hp := bk199 _ _ hp
            have hp := bk194 _ _ hp
            have hp := bk189 _ _ hp
            have hp := bk184 _ _ hp
            exact ⟨hf.sub ⟨rfl, rfl, rfl, rfl, rfl, rfl, rfl, rfl, rfl, rfl, trivial⟩, hp⟩
          skip
          replace hz213 := ifF hz213 hb214
          replace hz213 := Option.some.inj hz213
          refine dr_begin' (fun a w => Fr 301 a [(3, .int .u8 xx0_N), (4, v5), (5, v14), (7, v25), (10, v38), (17, v159), (18, v160), (20, v170), (22, .int .i64 k22), (270, .bool z218)] ∧ Hp S w0 w (Res.sl Ek.bool 4 v160 q147.2.1 :: Res.sl Ek.bool 4 v38 q82.2 :: Res.sl (Ek.int .u8) 5 v159 q147.1 :: Res.sl (Ek.int .u8) 5 v170 q163.1 :: Res.sl (Ek.int .u8) 5 v5 q3 :: Res.sl Ek.c128 49 v14 q7.1 :: Res.sl Ek.c128 49 v25 q18.1 :: ow)) (fun w' => ∃ l, Hp S195 w w' l) [] (by kernel_rfl) ?_
          refine dr_take 0 (v160) rfl (by kernel_rfl) (by kernel_rfl) (by kernel_rfl) (by kernel_rfl) rfl rfl hf (by decide) rfl (fun w hp => ?_) ⟨_, hp⟩ ?_
          · obtain ⟨_, hp⟩ := hp
            refine st_move hf rfl rfl (by decide) ?_
            clear hf; intro a ha hf
            exact st_nil hf (th_n ⟨ha, rfl⟩)
          clear hf; intro a hf
          refine dr_take 1 (.int .i64 k22) rfl (by kernel_rfl) (by kernel_rfl) (by kernel_rfl) (by kernel_rfl) rfl rfl hf (by decide) rfl (fun w hp => ?_) ⟨_, hp⟩ ?_
          · obtain ⟨_, hp⟩ := hp
            refine st_move hf rfl rfl (by decide) ?_
            clear hf; intro a ha hf
            exact st_nil hf (th_n ⟨ha, rfl⟩)
          clear hf; intro a hf
          refine dr_take 2 (eptr v160 k22 1) rfl (by kernel_rfl) (by kernel_rfl) (by kernel_rfl) (by kernel_rfl) rfl rfl hf (by decide) rfl (fun w hp => ?_) ⟨_, hp⟩ ?_
          · obtain ⟨_, hp⟩ := hp
            refine st_index (E := Ek.bool) hf (by decide) Try.underlying27 elt4 rfl rfl rfl (rl202.sl hp) hc204.1 hc204.2 ?_
            clear hf; intro a ha hf
            exact st_nil hf (th_n ⟨ha, rfl⟩)
          clear hf; intro a hf
          refine dr_take 3 (.bool (gt q147.2.1 k22)) rfl (by kernel_rfl) (by kernel_rfl) (by kernel_rfl) (by kernel_rfl) rfl rfl hf (by decide) rfl (fun w hp => ?_) ⟨_, hp⟩ ?_
          · obtain ⟨_, hp⟩ := hp
            refine st_ldB hf (by decide) pl4 rfl rfl (rl202.sl hp) hc204.1 hc204.2 ?_
            clear hf; intro a ha hf
            exact st_nil hf (th_n ⟨ha, rfl⟩)
          clear hf; intro a hf
          refine dr_take 4 (v38) rfl (by kernel_rfl) (by kernel_rfl) (by kernel_rfl) (by kernel_rfl) rfl rfl hf (by decide) rfl (fun w hp => ?_) ⟨_, hp⟩ ?_
          · obtain ⟨_, hp⟩ := hp
            refine st_move hf rfl rfl (by decide) ?_
            clear hf; intro a ha hf
            exact st_nil hf (th_n ⟨ha, rfl⟩)
          clear hf; intro a hf
          refine dr_take 5 (.int .i64 k22) rfl (by kernel_rfl) (by kernel_rfl) (by kernel_rfl) (by kernel_rfl) rfl rfl hf (by decide) rfl (fun w hp => ?_) ⟨_, hp⟩ ?_
          · obtain ⟨_, hp⟩ := hp
            refine st_move hf rfl rfl (by decide) ?_
            clear hf; intro a ha hf
            exact st_nil hf (th_n ⟨ha, rfl⟩)
          clear hf; intro a hf
          refine dr_take 6 (eptr v38 k22 1) rfl (by kernel_rfl) (by kernel_rfl) (by kernel_rfl) (by kernel_rfl) rfl rfl hf (by decide) rfl (fun w hp => ?_) ⟨_, hp⟩ ?_
          · obtain ⟨_, hp⟩ := hp
            refine st_index (E := Ek.bool) hf (by decide) Try.underlying27 elt4 rfl rfl rfl (rl200.sl hp) hc205.1 hc205.2 ?_
            clear hf; intro a ha hf
            exact st_nil hf (th_n ⟨ha, rfl⟩)
          clear hf; intro a hf
          refine dr_take 7 (.bool (gt q82.2 k22)) rfl (by kernel_rfl) (by kernel_rfl) (by kernel_rfl) (by kernel_rfl) rfl rfl hf (by decide) rfl (fun w hp => ?_) ⟨_, hp⟩ ?_
          · obtain ⟨_, hp⟩ := hp
            refine st_ldB hf (by decide) pl4 rfl rfl (rl200.sl hp) hc205.1 hc205.2 ?_
            clear hf; intro a ha hf
            exact st_nil hf (th_n ⟨ha, rfl⟩)
          clear hf; intro a hf
          refine dr_take 8 (.bool (gt q82.2 k22)) rfl (by kernel_rfl) (by kernel_rfl) (by kernel_rfl) (by kernel_rfl) rfl rfl hf (by decide) rfl (fun w hp => ?_) ⟨_, hp⟩ ?_
          · obtain ⟨_, hp⟩ := hp
            refine st_move hf rfl rfl (by decide) ?_
            clear hf; intro a ha hf
            exact st_nil hf (th_n ⟨ha, rfl⟩)
          clear hf; intro a hf
          refine dr_out 9 rfl (by kernel_rfl) (by kernel_rfl) (by kernel_rfl) (by kernel_rfl) rfl hf (by decide) rfl (wantN hf rfl rfl hb207) ⟨_, hp⟩ ?_
          clear hf; intro a hf
          refine dr_out 10 rfl (by kernel_rfl) (by kernel_rfl) (by kernel_rfl) (by kernel_rfl) rfl hf (by decide) rfl (wantN hf rfl rfl hb207) ⟨_, hp⟩ ?_
          clear hf; intro a hf
          refine dr_out 11 rfl (by kernel_rfl) (by kernel_rfl) (by kernel_rfl) (by kernel_rfl) rfl hf (by decide) rfl (wantN hf rfl rfl hb207) ⟨_, hp⟩ ?_
          clear hf; intro a hf
          refine dr_out 12 rfl (by kernel_rfl) (by kernel_rfl) (by kernel_rfl) (by kernel_rfl) rfl hf (by decide) rfl (wantN hf rfl rfl hb207) ⟨_, hp⟩ ?_
          clear hf; intro a hf
          refine dr_out 13 rfl (by kernel_rfl) (by kernel_rfl) (by kernel_rfl) (by kernel_rfl) rfl hf (by decide) rfl (wantN hf rfl rfl hb207) ⟨_, hp⟩ ?_
          clear hf; intro a hf
          refine dr_take 14 (.bool z209) rfl (by kernel_rfl) (by kernel_rfl) (by kernel_rfl) (by kernel_rfl) rfl rfl hf (by decide) rfl (fun w hp => ?_) ⟨_, hp⟩ ?_
          · obtain ⟨_, hp⟩ := hp
            refine st_pick (v := .bool z209) hf rfl rfl (fun hb' => absurd (hb207.symm.trans hb') (by decide)) (fun _ => by rw [← hz206]; rfl) (by decide) ?_
            clear hf; intro a ha hf
            exact st_nil hf (th_n ⟨ha, rfl⟩)
          clear hf; intro a hf
          refine dr_take 15 (.bool ((gt q147.2.1 k22) != z209)) rfl (by kernel_rfl) (by kernel_rfl) (by kernel_rfl) (by kernel_rfl) rfl rfl hf (by decide) rfl (fun w hp => ?_) ⟨_, hp⟩ ?_
          · obtain ⟨_, hp⟩ := hp
            refine st_bneq hf (by decide) Try.underlying4 rfl rfl rfl ?_
            clear hf; intro a ha hf
            exact st_nil hf (th_n ⟨ha, rfl⟩)
          clear hf; intro a hf
          refine dr_take 16 (.bool ((gt q147.2.1 k22) != z209)) rfl (by kernel_rfl) (by kernel_rfl) (by kernel_rfl) (by kernel_rfl) rfl rfl hf (by decide) rfl (fun w hp => ?_) ⟨_, hp⟩ ?_
          · obtain ⟨_, hp⟩ := hp
            refine st_move hf rfl rfl (by decide) ?_
            clear hf; intro a ha hf
            exact st_nil hf (th_n ⟨ha, rfl⟩)
          clear hf; intro a hf
          refine dr_take 17 (v160) rfl (by kernel_rfl) (by kernel_rfl) (by kernel_rfl) (by kernel_rfl) rfl rfl hf (by decide) (wantY hf rfl rfl hb211) (fun w hp => ?_) ⟨_, hp⟩ ?_
          · obtain ⟨_, hp⟩ := hp
            refine st_move hf (wantY hf rfl rfl hb211) rfl (by decide) ?_
            clear hf; intro a ha hf
            exact st_nil hf (th_n ⟨ha, rfl⟩)
          clear hf; intro a hf
          refine dr_take 18 (.int .i64 k22) rfl (by kernel_rfl) (by kernel_rfl) (by kernel_rfl) (by kernel_rfl) rfl rfl hf (by decide) (wantY hf rfl rfl hb211) (fun w hp => ?_) ⟨_, hp⟩ ?_
          · obtain ⟨_, hp⟩ := hp
            refine st_move hf (wantY hf rfl rfl hb211) rfl (by decide) ?_
            clear hf; intro a ha hf
            exact st_nil hf (th_n ⟨ha, rfl⟩)
          clear hf; intro a hf
          refine dr_take 19 (eptr v160 k22 1) rfl (by kernel_rfl) (by kernel_rfl) (by kernel_rfl) (by kernel_rfl) rfl rfl hf (by decide) (wantY hf rfl rfl hb211) (fun w hp => ?_) ⟨_, hp⟩ ?_
          · obtain ⟨_, hp⟩ := hp
            refine st_index (E := Ek.bool) hf (by decide) Try.underlying27 elt4 (wantY hf rfl rfl hb211) rfl rfl (rl202.sl hp) hc212.1 hc212.2 ?_
            clear hf; intro a ha hf
            exact st_nil hf (th_n ⟨ha, rfl⟩)
          clear hf; intro a hf
          refine dr_take 20 (.bool (gt q147.2.1 k22)) rfl (by kernel_rfl) (by kernel_rfl) (by kernel_rfl) (by kernel_rfl) rfl rfl hf (by decide) (wantY hf rfl rfl hb211) (fun w hp => ?_) ⟨_, hp⟩ ?_
          · obtain ⟨_, hp⟩ := hp
            refine st_ldB hf (by decide) pl4 (wantY hf rfl rfl hb211) rfl (rl202.sl hp) hc212.1 hc212.2 ?_
            clear hf; intro a ha hf
            exact st_nil hf (th_n ⟨ha, rfl⟩)
          clear hf; intro a hf
          refine dr_take 21 (.bool (gt q147.2.1 k22)) rfl (by kernel_rfl) (by kernel_rfl) (by kernel_rfl) (by kernel_rfl) rfl rfl hf (by decide) (wantY hf rfl rfl hb211) (fun w hp => ?_) ⟨_, hp⟩ ?_
          · obtain ⟨_, hp⟩ := hp
            refine st_move hf (wantY hf rfl rfl hb211) rfl (by decide) ?_
            clear hf; intro a ha hf
            exact st_nil hf (th_n ⟨ha, rfl⟩)
          clear hf; intro a hf
          refine dr_out 22 rfl (by kernel_rfl) (by kernel_rfl) (by kernel_rfl) (by kernel_rfl) rfl hf (by decide) rfl (wantN hf rfl rfl hb214) ⟨_, hp⟩ ?_
          clear hf; intro a hf
          refine dr_out 23 rfl (by kernel_rfl) (by kernel_rfl) (by kernel_rfl) (by kernel_rfl) rfl hf (by decide) rfl (wantN hf rfl rfl hb214) ⟨_, hp⟩ ?_
          clear hf; intro a hf
          refine dr_out 24 rfl (by kernel_rfl) (by kernel_rfl) (by kernel_rfl) (by kernel_rfl) rfl hf (by decide) rfl (wantN hf rfl rfl hb214) ⟨_, hp⟩ ?_
          clear hf; intro a hf
          refine dr_out 25 rfl (by kernel_rfl) (by kernel_rfl) (by kernel_rfl) (by kernel_rfl) rfl hf (by decide) rfl (wantN hf rfl rfl hb214) ⟨_, hp⟩ ?_
          clear hf; intro a hf
          refine dr_out 26 rfl (by kernel_rfl) (by kernel_rfl) (by kernel_rfl) (by kernel_rfl) rfl hf (by decide) rfl (wantN hf rfl rfl hb214) ⟨_, hp⟩ ?_
          clear hf; intro a hf
          refine dr_out 27 rfl (by kernel_rfl) (by kernel_rfl) (by kernel_rfl) (by kernel_rfl) rfl hf (by decide) rfl (wantN hf rfl rfl hb214) ⟨_, hp⟩ ?_
          clear hf; intro a hf
          refine dr_out 28 rfl (by kernel_rfl) (by kernel_rfl) (by kernel_rfl) (by kernel_rfl) rfl hf (by decide) rfl (wantN hf rfl rfl hb214) ⟨_, hp⟩ ?_
          clear hf; intro a hf
          refine dr_out 29 rfl (by kernel_rfl) (by kernel_rfl) (by kernel_rfl) (by kernel_rfl) rfl hf (by decide) rfl (wantN hf rfl rfl hb214) ⟨_, hp⟩ ?_
          clear hf; intro a hf
          refine dr_out 30 rfl (by kernel_rfl) (by kernel_rfl) (by kernel_rfl) (by kernel_rfl) rfl hf (by decide) rfl (wantN hf rfl rfl hb214) ⟨_, hp⟩ ?_
          clear hf; intro a hf
          refine dr_take 31 (.bool z217) rfl (by kernel_rfl) (by kernel_rfl) (by kernel_rfl) (by kernel_rfl) rfl rfl hf (by decide) (wantY hf rfl rfl hb211) (fun w hp => ?_) ⟨_, hp⟩ ?_
          · obtain ⟨_, hp⟩ := hp
            refine st_pick (v := .bool z217) hf (wantY hf rfl rfl hb211) rfl (fun hb' => absurd (hb214.symm.trans hb') (by decide)) (fun _ => by rw [← hz213]; rfl) (by decide) ?_
            clear hf; intro a ha hf
            exact st_nil hf (th_n ⟨ha, rfl⟩)
          clear hf; intro a hf
          refine dr_take 32 (.bool z218) rfl (by kernel_rfl) (by kernel_rfl) (by kernel_rfl) (by kernel_rfl) rfl rfl hf (by decide) rfl (fun w hp => ?_) ⟨_, hp⟩ ?_
          · obtain ⟨_, hp⟩ := hp
            refine st_pick (v := .bool z218) hf rfl rfl (fun hb' => absurd (hb211.symm.trans hb') (by decide)) (fun _ => by rw [← hz210]; rfl) (by decide) ?_
            clear hf; intro a ha hf
            exact st_nil hf (th_n ⟨ha, rfl⟩)
          clear hf; intro a hf
          refine dr_end (by kernel_rfl) ?_ _
          have hp := bk199 _ _ hp
          have hp := bk194 _ _ hp
          have hp := bk189 _ _ hp
          have hp := bk184 _ _ hp
          exact ⟨hf.sub ⟨rfl, rfl, rfl, rfl, rfl, rfl, rfl, rfl, rfl, rfl, trivial⟩, hp⟩
        rintro a w ⟨hf, hp⟩
        refine th_n ?_
        refine wp_if hf rfl (fun hb => ?_) (fun hb => ?_)
        · replace h := ifT h hb
          refine wp_seq ?_
          refine wp_reg ?_
          refine st_assign hf rfl rfl (by decide) ?_
          clear hf; intro a ha hf; clear ha
          refine st_nil hf ?_
          refine th_n ?_
          refine wp_ret ?_
          refine ib_r ?_
          refine th_r ?_
          obtain rfl := Option.some.inj h
          have hp : Hp _ _ _ (ow) := Hp.sel (pre := [Res.sl Ek.bool 4 v160 q147.2.1, Res.sl Ek.bool 4 v38 q82.2, Res.sl (Ek.int .u8) 5 v159 q147.1, Res.sl (Ek.int .u8) 5 v170 q163.1, Res.sl (Ek.int .u8) 5 v5 q3, Res.sl Ek.c128 49 v14 q7.1, Res.sl Ek.c128 49 v25 q18.1]) (tail := ow) (rs' := []) hp [] (by decide) (by simp) rfl
          exact rnd_r (by simp) ⟨rfl, ⟨hf.sub ⟨rfl, trivial⟩, hp⟩⟩
        replace h := ifF h hb
        refine wp_skip ?_
        refine ib_n ?_
        refine th_n ?_
        refine wp_reg ?_
        refine st_move hf rfl rfl (by decide) ?_
        clear hf; intro a ha hf; clear ha
        refine st_iadd hf (by decide) rfl rfl rfl ?_
        clear hf; intro a ha hf; clear ha
        refine st_assign hf rfl rfl (by decide) ?_
        clear hf; intro a ha hf; clear ha
        refine st_nil hf ?_
        obtain rfl := Option.some.inj h
        have hp : Hp _ _ _ (Res.sl (Ek.int .u8) 5 v5 q3 :: Res.sl Ek.c128 49 v14 q7.1 :: Res.sl Ek.c128 49 v25 q18.1 :: Res.sl Ek.bool 4 v38 q82.2 :: Res.sl (Ek.int .u8) 5 v159 q147.1 :: Res.sl Ek.bool 4 v160 q147.2.1 :: Res.sl (Ek.int .u8) 5 v170 q163.1 :: ow) := Hp.sel (pre := [Res.sl Ek.bool 4 v160 q147.2.1, Res.sl Ek.bool 4 v38 q82.2, Res.sl (Ek.int .u8) 5 v159 q147.1, Res.sl (Ek.int .u8) 5 v170 q163.1, Res.sl (Ek.int .u8) 5 v5 q3, Res.sl Ek.c128 49 v14 q7.1, Res.sl Ek.c128 49 v25 q18.1]) (tail := ow) (rs' := [Res.sl (Ek.int .u8) 5 v5 q3, Res.sl Ek.c128 49 v14 q7.1, Res.sl Ek.c128 49 v25 q18.1, Res.sl Ek.bool 4 v38 q82.2, Res.sl (Ek.int .u8) 5 v159 q147.1, Res.sl Ek.bool 4 v160 q147.2.1, Res.sl (Ek.int .u8) 5 v170 q163.1]) hp [4, 5, 6, 1, 2, 0, 3] (by decide) (by simp) rfl
        exact rnd_l ⟨hf.sub ⟨rfl, rfl, rfl, rfl, rfl, rfl, rfl, rfl, rfl, trivial⟩, hp⟩
      replace h := ifF h hb
      refine wp_exit ?_
      refine th_e ?_
      obtain rfl := Option.some.inj h
      have hp : Hp _ _ _ (Res.sl (Ek.int .u8) 5 v5 q3 :: Res.sl Ek.c128 49 v14 q7.1 :: Res.sl Ek.c128 49 v25 q18.1 :: ow) := Hp.sel (pre := [Res.sl (Ek.int .u8) 5 v5 q3, Res.sl Ek.c128 49 v14 q7.1, Res.sl Ek.c128 49 v25 q18.1, Res.sl Ek.bool 4 v38 q82.2, Res.sl (Ek.int .u8) 5 v159 q147.1, Res.sl Ek.bool 4 v160 q147.2.1, Res.sl (Ek.int .u8) 5 v170 q163.1]) (tail := ow) (rs' := [Res.sl (Ek.int .u8) 5 v5 q3, Res.sl Ek.c128 49 v14 q7.1, Res.sl Ek.c128 49 v25 q18.1]) hp [0, 1, 2] (by decide) (by simp) rfl
      exact rnd_r (by simp) ⟨rfl, hf.sub ⟨rfl, rfl, rfl, rfl, trivial⟩, hp⟩
    clear hl hf hp
    intro e a w hne hO
    rcases q219 with q220 | q221
    · replace h := smL h
      obtain ⟨rfl, hf, hp⟩ := hO
      refine ib_same ?_
      refine th_n ?_
      refine wp_seq ?_
      refine wp_reg ?_
      refine st_move hf rfl rfl (by decide) ?_
      clear hf; intro a ha hf; clear ha
      refine st_move hf rfl rfl (by decide) ?_
      clear hf; intro a ha hf; clear ha
      obtain ⟨q222, hcall223, h⟩ := bnd h
      obtain ⟨S224, hp225, rd226, up227, bk228⟩ := Hp.lendS hp (i := 1) rfl
      obtain ⟨S229, hp230, rd231, up232, bk233⟩ := Hp.lendS hp225 (i := 1) rfl
      refine st_call hf (by decide) Try.func30 rfl rfl rfl rfl rfl (f_turns_Found_c hp230 _ _ ((rd226.now hp225).mono up232) _ _ rd231 hcall223) ?_
      rintro _ w ⟨rfl, hp0⟩
      have hp0 := bk233 _ _ hp0
      have hp0 := bk228 _ _ hp0
      clear hp; have hp := hp0; clear hp0
      replace hp : Hp _ _ _ (Res.sl Ek.c128 49 v14 q7.1 :: Res.sl Ek.c128 49 v25 q18.1 :: Res.sl (Ek.int .u8) 5 v5 q3 :: ow) := hp
      refine ⟨_, rfl, ?_⟩
      clear hf; intro a hf
      refine st_move hf rfl rfl (by decide) ?_
      clear hf; intro a ha hf; clear ha
      refine st_extract hf (by decide) rfl rfl rfl ?_
      clear hf; intro a ha hf; clear ha
      refine st_extract hf (by decide) rfl rfl rfl ?_
      clear hf; intro a ha hf; clear ha
      refine st_assign hf rfl rfl (by decide) ?_
      clear hf; intro a ha hf; clear ha
      refine st_assign hf rfl rfl (by decide) ?_
      clear hf; intro a ha hf; clear ha
      refine st_nil hf ?_
      refine th_n ?_
      refine wp_seq ?_
      refine wp_seq ?_
      refine wp_reg ?_
      refine st_move hf rfl rfl (by decide) ?_
      clear hf; intro a ha hf; clear ha
      refine st_len (E := (Ek.int .u8)) hf (by decide) Try.underlying22 rfl rfl (hp.sl (i := 2) rfl) ?_
      clear hf; intro a ha hf; clear ha
      refine st_ieql hf (by decide) rfl rfl rfl ?_
      clear hf; intro a ha hf; clear ha
      refine st_nil hf ?_
      refine th_n ?_
      refine wp_if hf rfl (fun hb => ?_) (fun hb => ?_)
      · replace h := ifT h hb
        refine wp_seq ?_
        refine wp_reg ?_
        refine st_move hf rfl rfl (by decide) ?_
        clear hf; intro a ha hf; clear ha
        refine st_ieql hf (by decide) rfl rfl rfl ?_
        clear hf; intro a ha hf; clear ha
        refine st_move hf rfl rfl (by decide) ?_
        clear hf; intro a ha hf; clear ha
        refine wpList_cut 3 (fun a w => Fr 301 a [(285, .bool ((q222.1 == (0 : Int)) && (q222.2 == (0 : Int))))] ∧ Hp S w0 w (Res.sl Ek.c128 49 v14 q7.1 :: Res.sl Ek.c128 49 v25 q18.1 :: Res.sl (Ek.int .u8) 5 v5 q3 :: ow)) ?_ ?_
        · rcases Bool.eq_false_or_eq_true (q222.1 == (0 : Int)) with hb235 | hb235
          · skip
            refine st_move hf (wantY hf rfl rfl hb235) rfl (by decide) ?_
            clear hf; intro a ha hf; clear ha
            refine st_ieql hf (by decide) (wantY hf rfl rfl hb235) rfl rfl ?_
            clear hf; intro a ha hf; clear ha
            refine st_pick (v := .bool (q222.2 == (0 : Int))) hf rfl rfl (fun hb' => ?_) (fun hb' => ?_) (by decide) ?_
            · rfl
            · exact absurd (hb235.symm.trans hb') (by decide)
            clear hf; intro a ha hf; clear ha
            refine st_nil hf (th_n ?_)
            exact ⟨hf.sub ⟨(by rw [hb235]; rfl), trivial⟩, hp⟩
          refine st_skip hf (wantN hf rfl rfl hb235) rfl (by decide) ?_ rfl
          clear hf; intro a hf
          refine st_skip hf (wantN hf rfl rfl hb235) rfl (by decide) ?_ rfl
          clear hf; intro a hf
          refine st_pick (v := .bool false) hf rfl rfl (fun hb' => ?_) (fun hb' => ?_) (by decide) ?_
          · exact absurd (hb235.symm.trans hb') (by decide)
          · rfl
          clear hf; intro a ha hf; clear ha
          refine st_nil hf (th_n ?_)
          exact ⟨hf.sub ⟨(by rw [hb235]; rfl), trivial⟩, hp⟩
        rintro a w ⟨hf, hp⟩
        refine st_move hf rfl rfl (by decide) ?_
        clear hf; intro a ha hf; clear ha
        obtain ⟨z238, hz236, h⟩ := bnd h
        refine wpList_cut 2 (fun a w => Fr 301 a [(288, .bool z238)] ∧ Hp S w0 w (Res.sl Ek.c128 49 v14 q7.1 :: Res.sl Ek.c128 49 v25 q18.1 :: Res.sl (Ek.int .u8) 5 v5 q3 :: ow)) ?_ ?_
        · rcases Bool.eq_false_or_eq_true ((q222.1 == (0 : Int)) && (q222.2 == (0 : Int))) with hb237 | hb237
          · skip
            replace hz236 := ifT hz236 hb237
            obtain ⟨q239, hcall240, hz236⟩ := bnd hz236
            refine st_call hf (by decide) Try.func14 rfl rfl (wantY hf rfl rfl hb237) rfl rfl (f_foghornlaw06_awake_c hp  hcall240) ?_
            rintro _ w ⟨rfl, hp0⟩
            clear hp; have hp := hp0; clear hp0
            replace hp : Hp _ _ _ (Res.sl Ek.c128 49 v14 q7.1 :: Res.sl Ek.c128 49 v25 q18.1 :: Res.sl (Ek.int .u8) 5 v5 q3 :: ow) := hp
            refine ⟨_, rfl, ?_⟩
            clear hf; intro a hf
            obtain rfl := Option.some.inj hz236
            refine st_pick (v := .bool q239) hf rfl rfl (fun hb' => ?_) (fun hb' => ?_) (by decide) ?_
            · rfl
            · exact absurd (hb237.symm.trans hb') (by decide)
            clear hf; intro a ha hf; clear ha
            refine st_nil hf (th_n ?_)
            exact ⟨hf.sub ⟨rfl, trivial⟩, hp⟩
          replace hz236 := ifF hz236 hb237
          refine st_skip hf (wantN hf rfl rfl hb237) rfl (by decide) ?_ rfl
          clear hf; intro a hf
          obtain rfl := Option.some.inj hz236
          refine st_pick (v := .bool false) hf rfl rfl (fun hb' => ?_) (fun hb' => ?_) (by decide) ?_
          · exact absurd (hb237.symm.trans hb') (by decide)
          · rfl
          clear hf; intro a ha hf; clear ha
          refine st_nil hf (th_n ?_)
          exact ⟨hf.sub ⟨rfl, trivial⟩, hp⟩
        rintro a w ⟨hf, hp⟩
        refine st_assign hf rfl rfl (by decide) ?_
        clear hf; intro a ha hf; clear ha
        refine st_nil hf ?_
        refine th_n ?_
        refine wp_ret ?_
        refine th_r ?_
        obtain rfl := Option.some.inj h
        have hp : Hp _ _ _ (ow) := Hp.sel (pre := [Res.sl Ek.c128 49 v14 q7.1, Res.sl Ek.c128 49 v25 q18.1, Res.sl (Ek.int .u8) 5 v5 q3]) (tail := ow) (rs' := []) hp [] (by decide) (by simp) rfl
        exact ⟨rfl, ⟨hf.sub ⟨rfl, trivial⟩, hp⟩⟩
      replace h := ifF h hb
      refine wp_skip ?_
      refine th_n ?_
      refine wp_seq ?_
      refine wp_reg ?_
      refine st_move hf rfl rfl (by decide) ?_
      clear hf; intro a ha hf; clear ha
      refine st_move hf rfl rfl (by decide) ?_
      clear hf; intro a ha hf; clear ha
      refine st_irem hf (by decide) rfl rfl rfl (by decide) ?_
      clear hf; intro a ha hf; clear ha
      refine st_conv_ii hf (by decide) (by rw [Try.underlying5]; rfl) Try.underlying3 rfl rfl ?_
      clear hf; intro a ha hf; clear ha
      refine st_ieql hf (by decide) rfl rfl rfl ?_
      clear hf; intro a ha hf; clear ha
      refine st_move hf rfl rfl (by decide) ?_
      clear hf; intro a ha hf; clear ha
      refine wpList_cut 3 (fun a w => Fr 301 a [(297, .bool ((q222.1 == (IntKind.i64.wrap ((xx0_N).tmod (4 : Int)))) && (q222.2 == (0 : Int))))] ∧ Hp S w0 w (Res.sl Ek.c128 49 v14 q7.1 :: Res.sl Ek.c128 49 v25 q18.1 :: Res.sl (Ek.int .u8) 5 v5 q3 :: ow)) ?_ ?_
      · rcases Bool.eq_false_or_eq_true (q222.1 == (IntKind.i64.wrap ((xx0_N).tmod (4 : Int)))) with hb242 | hb242
        · skip
          refine st_move hf (wantY hf rfl rfl hb242) rfl (by decide) ?_
          clear hf; intro a ha hf; clear ha
          refine st_ieql hf (by decide) (wantY hf rfl rfl hb242) rfl rfl ?_
          clear hf; intro a ha hf; clear ha
          refine st_pick (v := .bool (q222.2 == (0 : Int))) hf rfl rfl (fun hb' => ?_) (fun hb' => ?_) (by decide) ?_
          · rfl
          · exact absurd (hb242.symm.trans hb') (by decide)
          clear hf; intro a ha hf; clear ha
          refine st_nil hf (th_n ?_)
          exact ⟨hf.sub ⟨(by rw [hb242]; rfl), trivial⟩, hp⟩
        refine st_skip hf (wantN hf rfl rfl hb242) rfl (by decide) ?_ rfl
        clear hf; intro a hf
        refine st_skip hf (wantN hf rfl rfl hb242) rfl (by decide) ?_ rfl
        clear hf; intro a hf
        refine st_pick (v := .bool false) hf rfl rfl (fun hb' => ?_) (fun hb' => ?_) (by decide) ?_
        · exact absurd (hb242.symm.trans hb') (by decide)
        · rfl
        clear hf; intro a ha hf; clear ha
        refine st_nil hf (th_n ?_)
        exact ⟨hf.sub ⟨(by rw [hb242]; rfl), trivial⟩, hp⟩
      rintro a w ⟨hf, hp⟩
      refine st_move hf rfl rfl (by decide) ?_
      clear hf; intro a ha hf; clear ha
      obtain ⟨z245, hz243, h⟩ := bnd h
      refine wpList_cut 2 (fun a w => Fr 301 a [(300, .bool z245)] ∧ Hp S w0 w (Res.sl Ek.c128 49 v14 q7.1 :: Res.sl Ek.c128 49 v25 q18.1 :: Res.sl (Ek.int .u8) 5 v5 q3 :: ow)) ?_ ?_
      · rcases Bool.eq_false_or_eq_true ((q222.1 == (IntKind.i64.wrap ((xx0_N).tmod (4 : Int)))) && (q222.2 == (0 : Int))) with hb244 | hb244
        · skip
          replace hz243 := ifT hz243 hb244
          obtain ⟨q246, hcall247, hz243⟩ := bnd hz243
          refine st_call hf (by decide) Try.func14 rfl rfl (wantY hf rfl rfl hb244) rfl rfl (f_foghornlaw06_awake_c hp  hcall247) ?_
          rintro _ w ⟨rfl, hp0⟩
          clear hp; have hp := hp0; clear hp0
          replace hp : Hp _ _ _ (Res.sl Ek.c128 49 v14 q7.1 :: Res.sl Ek.c128 49 v25 q18.1 :: Res.sl (Ek.int .u8) 5 v5 q3 :: ow) := hp
          refine ⟨_, rfl, ?_⟩
          clear hf; intro a hf
          obtain rfl := Option.some.inj hz243
          refine st_pick (v := .bool q246) hf rfl rfl (fun hb' => ?_) (fun hb' => ?_) (by decide) ?_
          · rfl
          · exact absurd (hb244.symm.trans hb') (by decide)
          clear hf; intro a ha hf; clear ha
          refine st_nil hf (th_n ?_)
          exact ⟨hf.sub ⟨rfl, trivial⟩, hp⟩
        replace hz243 := ifF hz243 hb244
        refine st_skip hf (wantN hf rfl rfl hb244) rfl (by decide) ?_ rfl
        clear hf; intro a hf
        obtain rfl := Option.some.inj hz243
        refine st_pick (v := .bool false) hf rfl rfl (fun hb' => ?_) (fun hb' => ?_) (by decide) ?_
        · exact absurd (hb244.symm.trans hb') (by decide)
        · rfl
        clear hf; intro a ha hf; clear ha
        refine st_nil hf (th_n ?_)
        exact ⟨hf.sub ⟨rfl, trivial⟩, hp⟩
      rintro a w ⟨hf, hp⟩
      refine st_assign hf rfl rfl (by decide) ?_
      clear hf; intro a ha hf; clear ha
      refine st_nil hf ?_
      refine th_n ?_
      refine wp_ret ?_
      obtain rfl := Option.some.inj h
      have hp : Hp _ _ _ (ow) := Hp.sel (pre := [Res.sl Ek.c128 49 v14 q7.1, Res.sl Ek.c128 49 v25 q18.1, Res.sl (Ek.int .u8) 5 v5 q3]) (tail := ow) (rs' := []) hp [] (by decide) (by simp) rfl
      exact ⟨rfl, ⟨hf.sub ⟨rfl, trivial⟩, hp⟩⟩
    replace h := smR h
    obtain ⟨rfl, hf, hp⟩ := hO
    refine ib_r ?_
    refine th_r ?_
    obtain rfl := Option.some.inj h
    exact ⟨rfl, ⟨hf.sub ⟨rfl, trivial⟩, hp⟩⟩
  replace h := smR h
  obtain ⟨rfl, hf, hp⟩ := hO
  refine ib_r ?_
  refine th_r ?_
  obtain rfl := Option.some.inj h
  exact ⟨rfl, ⟨hf.sub ⟨rfl, trivial⟩, hp⟩⟩

end Go.Proofs.Ytienojgmpjpcjaa
