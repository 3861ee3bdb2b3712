/- The functions foghorn foghornlaw09.TonesApart: what each answers, as a plain function, and that its call answers it; printed by gen.py. -/
import Derived.Test.YthmobhgjojgipaaProg
import Derived.Test.YthmobhgjojgipaaGlU
import Derived.KernelRfl
import Derived.Test.YthmobhgjojgipaaG2p1
set_option linter.unusedVariables false
set_option linter.unusedSimpArgs false
set_option maxRecDepth 100000
set_option maxHeartbeats 4000000
namespace Go.Proofs.Ythmobhgjojgipaa
open GL
noncomputable def f_foghornlaw09_TonesApart.s1c (xx0_Place : Int) (xx0_Tone : Int) (q3 : Int) (both19 : Int) (d20 : Int) : Option ((Int × Int) ⊕ Int) := (if (decide (d20 < (ishl .i64 (1 : Int) (IntKind.i64.wrap ((2 : Int) * q3))))) = true then (if d20 ≠ 0 then (if d20 ≠ 0 then (some (Sum.inl ((IntKind.i64.wrap (both19 + (IntKind.i64.wrap (d20 * (((IntKind.i64.wrap ((((IntKind.i64.wrap (((((IntKind.i64.wrap (((xx0_Tone).tmod (ishl .i64 (1 : Int) (IntKind.i64.wrap ((2 : Int) * q3)))) + (ishl .i64 (1 : Int) (IntKind.i64.wrap ((2 : Int) * q3)))))).tmod (ishl .i64 (1 : Int) (IntKind.i64.wrap ((2 : Int) * q3))))).tdiv d20))).tmod (4 : Int)) + (((IntKind.i64.wrap (((((IntKind.i64.wrap (((xx0_Place).tmod (ishl .i64 (1 : Int) (IntKind.i64.wrap ((2 : Int) * q3)))) + (ishl .i64 (1 : Int) (IntKind.i64.wrap ((2 : Int) * q3)))))).tmod (ishl .i64 (1 : Int) (IntKind.i64.wrap ((2 : Int) * q3))))).tdiv d20))).tmod (4 : Int))))).tmod (4 : Int)))))), (IntKind.i64.wrap ((4 : Int) * d20))))) else none) else none) else (some (Sum.inr both19)))
noncomputable def f_foghornlaw09_TonesApart.s1 (xx0_Place : Int) (xx0_Tone : Int) (q3 : Int) (s : (Int × Int)) : Option ((Int × Int) ⊕ Int) := f_foghornlaw09_TonesApart.s1c xx0_Place xx0_Tone q3 s.1 s.2
noncomputable def f_foghornlaw09_TonesApart.s2c (xx0_Place : Int) (xx0_Tone : Int) (re1 : Int) (im2 : Int) (q3 : Int) (q18 : ((List (Fl × Fl)) × Int)) (q27 : ((List (Fl × Fl)) × Int)) (q65 : Int) (i21 : Int) : Option (Int ⊕ (Unit ⊕ Bool)) := (if (decide (i21 < (ishl .i64 (1 : Int) (IntKind.i64.wrap ((2 : Int) * q3))))) = true then ((f_tones_Entry q3 i21 (((IntKind.i64.wrap (((xx0_Tone).tmod (ishl .i64 (1 : Int) (IntKind.i64.wrap ((2 : Int) * q3)))) + (ishl .i64 (1 : Int) (IntKind.i64.wrap ((2 : Int) * q3)))))).tmod (ishl .i64 (1 : Int) (IntKind.i64.wrap ((2 : Int) * q3))))).bind fun q66 => ((f_tones_Entry q3 (((IntKind.i64.wrap (((xx0_Tone).tmod (ishl .i64 (1 : Int) (IntKind.i64.wrap ((2 : Int) * q3)))) + (ishl .i64 (1 : Int) (IntKind.i64.wrap ((2 : Int) * q3)))))).tmod (ishl .i64 (1 : Int) (IntKind.i64.wrap ((2 : Int) * q3)))) i21).bind fun q68 => ((f_tones_Entry q3 i21 (((IntKind.i64.wrap (((xx0_Place).tmod (ishl .i64 (1 : Int) (IntKind.i64.wrap ((2 : Int) * q3)))) + (ishl .i64 (1 : Int) (IntKind.i64.wrap ((2 : Int) * q3)))))).tmod (ishl .i64 (1 : Int) (IntKind.i64.wrap ((2 : Int) * q3))))).bind fun q70 => ((f_tones_Entry q3 i21 q65).bind fun q72 => ((if ((((((q66.2 != (0 : Int)) || (q68.2 != (0 : Int))) || (q70.2 != (0 : Int))) || (q72.2 != (0 : Int))) || (q66.1 != q68.1)) || ((((IntKind.i64.wrap (q66.1 + q70.1))).tmod (4 : Int)) != q72.1)) = true then (some true) else (if 0 ≤ i21 ∧ i21 < (q18.1.length : Int) then (if 0 ≤ i21 ∧ i21 < (q27.1.length : Int) then ((f_plane_Mul (gt q27.1 i21) ((fquo (fofi ((re1).tmod (4097 : Int))) (Fl.bits 4634204016564240384)), (fquo (fofi ((im2).tmod (4097 : Int))) (Fl.bits 4634204016564240384)))).bind fun q110 => (some (!ceq (gt q18.1 i21) q110))) else none) else none)).bind fun z116 => ((if z116 = true then (some true) else (if 0 ≤ i21 ∧ i21 < (q27.1.length : Int) then (if 0 ≤ (0 : Int) ∧ (0 : Int) < (q27.1.length : Int) then ((f_plane_Turn (gt q27.1 (0 : Int)) q66.1).bind fun q131 => (some (!ceq (gt q27.1 i21) q131))) else none) else none)).bind fun z137 => (if z137 = true then (some (Sum.inr (Sum.inr false))) else (some (Sum.inl (IntKind.i64.wrap (i21 + (1 : Int)))))))))))) else (some (Sum.inr (Sum.inl ()))))
noncomputable def f_foghornlaw09_TonesApart.s2 (xx0_Place : Int) (xx0_Tone : Int) (re1 : Int) (im2 : Int) (q3 : Int) (q18 : ((List (Fl × Fl)) × Int)) (q27 : ((List (Fl × Fl)) × Int)) (q65 : Int) (s : Int) : Option (Int ⊕ (Unit ⊕ Bool)) := f_foghornlaw09_TonesApart.s2c xx0_Place xx0_Tone re1 im2 q3 q18 q27 q65 s
noncomputable def f_foghornlaw09_TonesApart (xx0_Power : Int) (xx0_Place : Int) (xx0_Tone : Int) (xx0_By : Int) (re1 : Int) (im2 : Int) : Option Bool := ((f_foghornlaw09_power xx0_Power).bind fun q3 => (if 0 ≤ (IntKind.i64.wrap ((2 : Int) * q3)) then (if (ishl .i64 (1 : Int) (IntKind.i64.wrap ((2 : Int) * q3))) ≠ 0 then (if (ishl .i64 (1 : Int) (IntKind.i64.wrap ((2 : Int) * q3))) ≠ 0 then (if (ishl .i64 (1 : Int) (IntKind.i64.wrap ((2 : Int) * q3))) ≠ 0 then (if (ishl .i64 (1 : Int) (IntKind.i64.wrap ((2 : Int) * q3))) ≠ 0 then (if 0 ≤ (ishl .i64 (1 : Int) (IntKind.i64.wrap ((2 : Int) * q3))) ∧ (ishl .i64 (1 : Int) (IntKind.i64.wrap ((2 : Int) * q3))) ≤ (ishl .i64 (1 : Int) (IntKind.i64.wrap ((2 : Int) * q3))) ∧ (ishl .i64 (1 : Int) (IntKind.i64.wrap ((2 : Int) * q3))) * 16 ≤ 281474976710656 then (if 0 ≤ (((IntKind.i64.wrap (((xx0_Tone).tmod (ishl .i64 (1 : Int) (IntKind.i64.wrap ((2 : Int) * q3)))) + (ishl .i64 (1 : Int) (IntKind.i64.wrap ((2 : Int) * q3)))))).tmod (ishl .i64 (1 : Int) (IntKind.i64.wrap ((2 : Int) * q3)))) ∧ (((IntKind.i64.wrap (((xx0_Tone).tmod (ishl .i64 (1 : Int) (IntKind.i64.wrap ((2 : Int) * q3)))) + (ishl .i64 (1 : Int) (IntKind.i64.wrap ((2 : Int) * q3)))))).tmod (ishl .i64 (1 : Int) (IntKind.i64.wrap ((2 : Int) * q3)))) < ((List.replicate ((ishl .i64 (1 : Int) (IntKind.i64.wrap ((2 : Int) * q3)))).toNat (Fl.bits 0, Fl.bits 0)).length : Int) then ((f_tones_Send q3 ((List.replicate ((ishl .i64 (1 : Int) (IntKind.i64.wrap ((2 : Int) * q3)))).toNat (Fl.bits 0, Fl.bits 0)).set ((((IntKind.i64.wrap (((xx0_Tone).tmod (ishl .i64 (1 : Int) (IntKind.i64.wrap ((2 : Int) * q3)))) + (ishl .i64 (1 : Int) (IntKind.i64.wrap ((2 : Int) * q3)))))).tmod (ishl .i64 (1 : Int) (IntKind.i64.wrap ((2 : Int) * q3))))).toNat ((fquo (fofi ((re1).tmod (4097 : Int))) (Fl.bits 4634204016564240384)), (fquo (fofi ((im2).tmod (4097 : Int))) (Fl.bits 4634204016564240384))))).bind fun q18 => ((f_tones_Pure q3 (((IntKind.i64.wrap (((xx0_Tone).tmod (ishl .i64 (1 : Int) (IntKind.i64.wrap ((2 : Int) * q3)))) + (ishl .i64 (1 : Int) (IntKind.i64.wrap ((2 : Int) * q3)))))).tmod (ishl .i64 (1 : Int) (IntKind.i64.wrap ((2 : Int) * q3))))).bind fun q27 => ((f_tones_Back q3 q18.1).bind fun q31 => ((if (((((q18.2 != (0 : Int)) || (q27.2 != (0 : Int))) || (q31.2 != (0 : Int))) || ((q18.1.length : Int) != (ishl .i64 (1 : Int) (IntKind.i64.wrap ((2 : Int) * q3))))) || ((q27.1.length : Int) != (ishl .i64 (1 : Int) (IntKind.i64.wrap ((2 : Int) * q3))))) = true then (some true) else ((f_foghornlaw09_same q31.1 ((List.replicate ((ishl .i64 (1 : Int) (IntKind.i64.wrap ((2 : Int) * q3)))).toNat (Fl.bits 0, Fl.bits 0)).set ((((IntKind.i64.wrap (((xx0_Tone).tmod (ishl .i64 (1 : Int) (IntKind.i64.wrap ((2 : Int) * q3)))) + (ishl .i64 (1 : Int) (IntKind.i64.wrap ((2 : Int) * q3)))))).tmod (ishl .i64 (1 : Int) (IntKind.i64.wrap ((2 : Int) * q3))))).toNat ((fquo (fofi ((re1).tmod (4097 : Int))) (Fl.bits 4634204016564240384)), (fquo (fofi ((im2).tmod (4097 : Int))) (Fl.bits 4634204016564240384))))).bind fun q51 => (some (!q51)))).bind fun z50 => (if z50 = true then (some false) else ((loop (f_foghornlaw09_TonesApart.s1 xx0_Place xx0_Tone q3) ((0 : Int), (1 : Int))).bind (fun q65 => ((loop (f_foghornlaw09_TonesApart.s2 xx0_Place xx0_Tone re1 im2 q3 q18 q27 q65) (0 : Int)).bind (fun q138 => sm q138 (fun q139 => ((f_foghornlaw09_shifted re1 im2 xx0_By).bind fun q141 => ((if q141 = true then ((f_foghornlaw09_awake).bind fun q146 => (some q146)) else (some false)).bind fun z145 => (some z145)))) (fun q140 => (some q140))))))))))) else none) else none) else none) else none) else none) else none) else none))
theorem f_foghornlaw09_TonesApart_c {S : Nat → Prop} {w0 w : World} {ow : List Res} (hp : Hp S w0 w ow) (xx0_Power : Int) (xx0_Place : Int) (xx0_Tone : Int) (xx0_By : Int) (re1 : Int) (im2 : Int) {r : Bool} (h : f_foghornlaw09_TonesApart xx0_Power xx0_Place xx0_Tone xx0_By re1 im2 = some r) :
    Calls Try.prog 4 #[.agg #[.int .i64 xx0_Power, .int .i64 xx0_Place, .int .i64 xx0_Tone, .int .i64 xx0_By], .int .i16 re1, .int .i16 im2] w (fun e w' => e = .returned (.bool r) ∧ Hp S w0 w' (ow)) := by
  unfold f_foghornlaw09_TonesApart at h
  refine enter (n := 225) (args := [.agg #[.int .i64 xx0_Power, .int .i64 xx0_Place, .int .i64 xx0_Tone, .int .i64 xx0_By], .int .i16 re1, .int .i16 im2]) Try.func4 rfl rfl (Nat.le_of_ble_eq_true rfl) fun a hf => ?_
  replace hf : Fr 225 a [(0, .agg #[.int .i64 xx0_Power, .int .i64 xx0_Place, .int .i64 xx0_Tone, .int .i64 xx0_By]), (1, .int .i16 re1), (2, .int .i16 im2)] := hf
  refine wp_mono (Q := fun e a w => e = .ret ∧ Fr 225 a [(6, .bool r)] ∧ Hp S w0 w (ow)) ?_ ?_
  rotate_left
  · rintro e a w ⟨rfl, hf, hp⟩
    exact ret1 hf rfl rfl ⟨rfl, hp⟩
  refine wp_seq ?_
  refine wp_reg ?_
  refine st_boxO (cs := [.int .i64 xx0_Power, .int .i64 xx0_Place, .int .i64 xx0_Tone, .int .i64 xx0_By]) hf (by decide) hp rfl rfl rfl ?_
  clear hf; intro a w v1 hf hp0; clear hp; have hp := hp0; clear hp0
  replace hp : Hp _ _ _ (Res.obj 40 v1 [.int .i64 xx0_Power, .int .i64 xx0_Place, .int .i64 xx0_Tone, .int .i64 xx0_By] :: ow) := hp
  refine st_assign hf rfl rfl (by decide) ?_
  clear hf; intro a ha hf; clear ha
  refine st_nil hf ?_
  refine th_n ?_
  refine wp_seq ?_
  refine wp_reg ?_
  refine st_fa (o' := 0) hf (by decide) (off := 0) (sz := 1) (by kernel_rfl) (by decide) rfl rfl (hp.ob (i := 0) rfl) rfl ?_
  clear hf; intro a ha hf; clear ha
  refine st_ldO (u := .int .i64 xx0_Power) hf (by decide) pl3 rfl rfl (hp.ob (i := 0) rfl) rfl ?_
  clear hf; intro a ha hf; clear ha
  obtain ⟨q3, hcall4, h⟩ := bnd h
  refine st_call hf (by decide) Try.func6 rfl rfl rfl rfl rfl (f_foghornlaw09_power_c hp _ hcall4) ?_
  rintro _ w ⟨rfl, hp0⟩
  clear hp; have hp := hp0; clear hp0
  replace hp : Hp _ _ _ (Res.obj 40 v1 [.int .i64 xx0_Power, .int .i64 xx0_Place, .int .i64 xx0_Tone, .int .i64 xx0_By] :: ow) := hp
  refine ⟨_, rfl, ?_⟩
  clear hf; intro a hf
  refine st_assign hf rfl rfl (by decide) ?_
  clear hf; intro a ha hf; clear ha
  refine st_nil hf ?_
  refine th_n ?_
  refine wp_seq ?_
  refine wp_reg ?_
  refine st_move hf rfl rfl (by decide) ?_
  clear hf; intro a ha hf; clear ha
  refine st_imul hf (by decide) rfl rfl rfl ?_
  clear hf; intro a ha hf; clear ha
  obtain ⟨hc5, h⟩ := chk h
  refine st_ishl hf (by decide) rfl rfl rfl hc5 ?_
  clear hf; intro a ha hf; clear ha
  refine st_assign hf rfl rfl (by decide) ?_
  clear hf; intro a ha hf; clear ha
  refine st_nil hf ?_
  refine th_n ?_
  refine wp_seq ?_
  refine wp_reg ?_
  refine st_fa (o' := 2) hf (by decide) (off := 2) (sz := 1) (by kernel_rfl) (by decide) rfl rfl (hp.ob (i := 0) rfl) rfl ?_
  clear hf; intro a ha hf; clear ha
  refine st_ldO (u := .int .i64 xx0_Tone) hf (by decide) pl3 rfl rfl (hp.ob (i := 0) rfl) rfl ?_
  clear hf; intro a ha hf; clear ha
  refine st_move hf rfl rfl (by decide) ?_
  clear hf; intro a ha hf; clear ha
  obtain ⟨hc6, h⟩ := chk h
  refine st_irem hf (by decide) rfl rfl rfl hc6 ?_
  clear hf; intro a ha hf; clear ha
  refine st_move hf rfl rfl (by decide) ?_
  clear hf; intro a ha hf; clear ha
  refine st_iadd hf (by decide) rfl rfl rfl ?_
  clear hf; intro a ha hf; clear ha
  refine st_move hf rfl rfl (by decide) ?_
  clear hf; intro a ha hf; clear ha
  obtain ⟨hc7, h⟩ := chk h
  refine st_irem hf (by decide) rfl rfl rfl hc7 ?_
  clear hf; intro a ha hf; clear ha
  refine st_assign hf rfl rfl (by decide) ?_
  clear hf; intro a ha hf; clear ha
  refine st_nil hf ?_
  refine th_n ?_
  refine wp_seq ?_
  refine wp_reg ?_
  refine st_fa (o' := 1) hf (by decide) (off := 1) (sz := 1) (by kernel_rfl) (by decide) rfl rfl (hp.ob (i := 0) rfl) rfl ?_
  clear hf; intro a ha hf; clear ha
  refine st_ldO (u := .int .i64 xx0_Place) hf (by decide) pl3 rfl rfl (hp.ob (i := 0) rfl) rfl ?_
  clear hf; intro a ha hf; clear ha
  refine st_move hf rfl rfl (by decide) ?_
  clear hf; intro a ha hf; clear ha
  obtain ⟨hc8, h⟩ := chk h
  refine st_irem hf (by decide) rfl rfl rfl hc8 ?_
  clear hf; intro a ha hf; clear ha
  refine st_move hf rfl rfl (by decide) ?_
  clear hf; intro a ha hf; clear ha
  refine st_iadd hf (by decide) rfl rfl rfl ?_
  clear hf; intro a ha hf; clear ha
  refine st_move hf rfl rfl (by decide) ?_
  clear hf; intro a ha hf; clear ha
  obtain ⟨hc9, h⟩ := chk h
  refine st_irem hf (by decide) rfl rfl rfl hc9 ?_
  clear hf; intro a ha hf; clear ha
  refine st_assign hf rfl rfl (by decide) ?_
  clear hf; intro a ha hf; clear ha
  refine st_nil hf ?_
  refine th_n ?_
  refine wp_seq ?_
  refine wp_reg ?_
  refine st_move hf rfl rfl (by decide) ?_
  clear hf; intro a ha hf; clear ha
  refine st_irem hf (by decide) rfl rfl rfl (by decide) ?_
  clear hf; intro a ha hf; clear ha
  refine st_conv_if Try.underlying41 Try.underlying34 hf (by decide) rfl rfl ?_
  clear hf; intro a ha hf; clear ha
  refine st_farith (op := .quo) rfl hf (by decide) hp rfl rfl rfl (show Fl.rep (FloatKind.f64.nearest ((re1).tmod (4097 : Int))) (fofi ((re1).tmod (4097 : Int))) from rfl) (show Fl.rep 4634204016564240384 (Fl.bits 4634204016564240384) from rfl) ?_
  clear hf; intro a w bb10 y11 hf hp0; clear hp; have hp := hp0; clear hp0
  replace hp : Hp _ _ _ (Res.obj 40 v1 [.int .i64 xx0_Power, .int .i64 xx0_Place, .int .i64 xx0_Tone, .int .i64 xx0_By] :: ow) := hp
  refine st_move hf rfl rfl (by decide) ?_
  clear hf; intro a ha hf; clear ha
  refine st_irem hf (by decide) rfl rfl rfl (by decide) ?_
  clear hf; intro a ha hf; clear ha
  refine st_conv_if Try.underlying41 Try.underlying34 hf (by decide) rfl rfl ?_
  clear hf; intro a ha hf; clear ha
  refine st_farith (op := .quo) rfl hf (by decide) hp rfl rfl rfl (show Fl.rep (FloatKind.f64.nearest ((im2).tmod (4097 : Int))) (fofi ((im2).tmod (4097 : Int))) from rfl) (show Fl.rep 4634204016564240384 (Fl.bits 4634204016564240384) from rfl) ?_
  clear hf; intro a w bb12 y13 hf hp0; clear hp; have hp := hp0; clear hp0
  replace hp : Hp _ _ _ (Res.obj 40 v1 [.int .i64 xx0_Power, .int .i64 xx0_Place, .int .i64 xx0_Tone, .int .i64 xx0_By] :: ow) := hp
  refine st_complex hf (by decide) rfl rfl rfl ?_
  clear hf; intro a ha hf; clear ha
  refine st_assign hf rfl rfl (by decide) ?_
  clear hf; intro a ha hf; clear ha
  refine st_nil hf ?_
  refine th_n ?_
  refine wp_seq ?_
  refine wp_reg ?_
  refine st_move hf rfl rfl (by decide) ?_
  clear hf; intro a ha hf; clear ha
  obtain ⟨hc14, h⟩ := chk h
  refine st_make (E := Ek.c128) hf (by decide) elt28 Try.underlying26 (by decide) hp rfl rfl rfl hc14.1 hc14.2.1 hc14.2.2 ?_
  clear hf; intro a w v15 hf hp0; clear hp; have hp := hp0; clear hp0
  replace hp : Hp _ _ _ (Res.sl Ek.c128 28 v15 (List.replicate ((ishl .i64 (1 : Int) (IntKind.i64.wrap ((2 : Int) * q3)))).toNat (Fl.bits 0, Fl.bits 0)) :: Res.obj 40 v1 [.int .i64 xx0_Power, .int .i64 xx0_Place, .int .i64 xx0_Tone, .int .i64 xx0_By] :: ow) := hp
  refine st_assign hf rfl rfl (by decide) ?_
  clear hf; intro a ha hf; clear ha
  refine st_nil hf ?_
  refine th_n ?_
  refine wp_seq ?_
  refine wp_reg ?_
  refine st_move hf rfl rfl (by decide) ?_
  clear hf; intro a ha hf; clear ha
  refine st_move hf rfl rfl (by decide) ?_
  clear hf; intro a ha hf; clear ha
  refine st_move hf rfl rfl (by decide) ?_
  clear hf; intro a ha hf; clear ha
  obtain ⟨hc17, h⟩ := chk h
  refine st_index (E := Ek.c128) hf (by decide) Try.underlying26 elt28 rfl rfl rfl (hp.sl (i := 0) rfl) hc17.1 hc17.2 ?_
  clear hf; intro a ha hf; clear ha
  refine st_store (E := Ek.c128) hf elt28 hp (i := 0) rfl rfl rfl rfl (show Ek.c128.rep [.complex .f64 bb10 bb12] ((fquo (fofi ((re1).tmod (4097 : Int))) (Fl.bits 4634204016564240384)), (fquo (fofi ((im2).tmod (4097 : Int))) (Fl.bits 4634204016564240384))) from ⟨_, _, rfl, y11, y13⟩) hc17.1 hc17.2 ?_
  clear hf; intro a w hf hp0; clear hp; have hp := hp0; clear hp0
  replace hp : Hp _ _ _ (Res.sl Ek.c128 28 v15 ((List.replicate ((ishl .i64 (1 : Int) (IntKind.i64.wrap ((2 : Int) * q3)))).toNat (Fl.bits 0, Fl.bits 0)).set ((((IntKind.i64.wrap (((xx0_Tone).tmod (ishl .i64 (1 : Int) (IntKind.i64.wrap ((2 : Int) * q3)))) + (ishl .i64 (1 : Int) (IntKind.i64.wrap ((2 : Int) * q3)))))).tmod (ishl .i64 (1 : Int) (IntKind.i64.wrap ((2 : Int) * q3))))).toNat ((fquo (fofi ((re1).tmod (4097 : Int))) (Fl.bits 4634204016564240384)), (fquo (fofi ((im2).tmod (4097 : Int))) (Fl.bits 4634204016564240384)))) :: Res.obj 40 v1 [.int .i64 xx0_Power, .int .i64 xx0_Place, .int .i64 xx0_Tone, .int .i64 xx0_By] :: ow) := hp
  refine st_nil hf ?_
  refine th_n ?_
  refine wp_seq ?_
  refine wp_reg ?_
  refine st_move hf rfl rfl (by decide) ?_
  clear hf; intro a ha hf; clear ha
  refine st_move hf rfl rfl (by decide) ?_
  clear hf; intro a ha hf; clear ha
  obtain ⟨q18, hcall19, h⟩ := bnd h
  obtain ⟨S20, hp21, rd22, up23, bk24⟩ := Hp.lendS hp (i := 0) rfl
  refine st_call hf (by decide) Try.func9 rfl rfl rfl rfl rfl (f_tones_Send_c hp21 _ _ _ rd22 hcall19) ?_
  rintro _ w ⟨v25, rfl, hp0⟩
  have hp0 := bk24 _ _ hp0
  clear hp; have hp := hp0; clear hp0
  replace hp : Hp _ _ _ (Res.sl Ek.c128 28 v15 ((List.replicate ((ishl .i64 (1 : Int) (IntKind.i64.wrap ((2 : Int) * q3)))).toNat (Fl.bits 0, Fl.bits 0)).set ((((IntKind.i64.wrap (((xx0_Tone).tmod (ishl .i64 (1 : Int) (IntKind.i64.wrap ((2 : Int) * q3)))) + (ishl .i64 (1 : Int) (IntKind.i64.wrap ((2 : Int) * q3)))))).tmod (ishl .i64 (1 : Int) (IntKind.i64.wrap ((2 : Int) * q3))))).toNat ((fquo (fofi ((re1).tmod (4097 : Int))) (Fl.bits 4634204016564240384)), (fquo (fofi ((im2).tmod (4097 : Int))) (Fl.bits 4634204016564240384)))) :: Res.sl Ek.c128 28 v25 q18.1 :: Res.obj 40 v1 [.int .i64 xx0_Power, .int .i64 xx0_Place, .int .i64 xx0_Tone, .int .i64 xx0_By] :: ow) := hp
  refine ⟨_, rfl, ?_⟩
  clear hf; intro a hf
  refine st_move hf rfl rfl (by decide) ?_
  clear hf; intro a ha hf; clear ha
  refine st_extract hf (by decide) rfl rfl rfl ?_
  clear hf; intro a ha hf; clear ha
  refine st_extract hf (by decide) rfl rfl rfl ?_
  clear hf; intro a ha hf; clear ha
  refine st_assign hf rfl rfl (by decide) ?_
  clear hf; intro a ha hf; clear ha
  refine st_assign hf rfl rfl (by decide) ?_
  clear hf; intro a ha hf; clear ha
  refine st_nil hf ?_
  refine th_n ?_
  refine wp_seq ?_
  refine wp_reg ?_
  refine st_move hf rfl rfl (by decide) ?_
  clear hf; intro a ha hf; clear ha
  refine st_move hf rfl rfl (by decide) ?_
  clear hf; intro a ha hf; clear ha
  obtain ⟨q27, hcall28, h⟩ := bnd h
  refine st_call hf (by decide) Try.func14 rfl rfl rfl rfl rfl (f_tones_Pure_c hp _ _ hcall28) ?_
  rintro _ w ⟨v29, rfl, hp0⟩
  clear hp; have hp := hp0; clear hp0
  replace hp : Hp _ _ _ (Res.sl Ek.c128 28 v29 q27.1 :: Res.sl Ek.c128 28 v15 ((List.replicate ((ishl .i64 (1 : Int) (IntKind.i64.wrap ((2 : Int) * q3)))).toNat (Fl.bits 0, Fl.bits 0)).set ((((IntKind.i64.wrap (((xx0_Tone).tmod (ishl .i64 (1 : Int) (IntKind.i64.wrap ((2 : Int) * q3)))) + (ishl .i64 (1 : Int) (IntKind.i64.wrap ((2 : Int) * q3)))))).tmod (ishl .i64 (1 : Int) (IntKind.i64.wrap ((2 : Int) * q3))))).toNat ((fquo (fofi ((re1).tmod (4097 : Int))) (Fl.bits 4634204016564240384)), (fquo (fofi ((im2).tmod (4097 : Int))) (Fl.bits 4634204016564240384)))) :: Res.sl Ek.c128 28 v25 q18.1 :: Res.obj 40 v1 [.int .i64 xx0_Power, .int .i64 xx0_Place, .int .i64 xx0_Tone, .int .i64 xx0_By] :: ow) := hp
  refine ⟨_, rfl, ?_⟩
  clear hf; intro a hf
  refine st_move hf rfl rfl (by decide) ?_
  clear hf; intro a ha hf; clear ha
  refine st_extract hf (by decide) rfl rfl rfl ?_
  clear hf; intro a ha hf; clear ha
  refine st_extract hf (by decide) rfl rfl rfl ?_
  clear hf; intro a ha hf; clear ha
  refine st_assign hf rfl rfl (by decide) ?_
  clear hf; intro a ha hf; clear ha
  refine st_assign hf rfl rfl (by decide) ?_
  clear hf; intro a ha hf; clear ha
  refine st_nil hf ?_
  refine th_n ?_
  refine wp_seq ?_
  refine wp_reg ?_
  refine st_move hf rfl rfl (by decide) ?_
  clear hf; intro a ha hf; clear ha
  refine st_move hf rfl rfl (by decide) ?_
  clear hf; intro a ha hf; clear ha
  obtain ⟨q31, hcall32, h⟩ := bnd h
  obtain ⟨S33, hp34, rd35, up36, bk37⟩ := Hp.lendS hp (i := 2) rfl
  refine st_call hf (by decide) Try.func10 rfl rfl rfl rfl rfl (f_tones_Back_c hp34 _ _ _ rd35 hcall32) ?_
  rintro _ w ⟨v38, rfl, hp0⟩
  have hp0 := bk37 _ _ hp0
  clear hp; have hp := hp0; clear hp0
  replace hp : Hp _ _ _ (Res.sl Ek.c128 28 v25 q18.1 :: Res.sl Ek.c128 28 v38 q31.1 :: Res.sl Ek.c128 28 v29 q27.1 :: Res.sl Ek.c128 28 v15 ((List.replicate ((ishl .i64 (1 : Int) (IntKind.i64.wrap ((2 : Int) * q3)))).toNat (Fl.bits 0, Fl.bits 0)).set ((((IntKind.i64.wrap (((xx0_Tone).tmod (ishl .i64 (1 : Int) (IntKind.i64.wrap ((2 : Int) * q3)))) + (ishl .i64 (1 : Int) (IntKind.i64.wrap ((2 : Int) * q3)))))).tmod (ishl .i64 (1 : Int) (IntKind.i64.wrap ((2 : Int) * q3))))).toNat ((fquo (fofi ((re1).tmod (4097 : Int))) (Fl.bits 4634204016564240384)), (fquo (fofi ((im2).tmod (4097 : Int))) (Fl.bits 4634204016564240384)))) :: Res.obj 40 v1 [.int .i64 xx0_Power, .int .i64 xx0_Place, .int .i64 xx0_Tone, .int .i64 xx0_By] :: ow) := hp
  refine ⟨_, rfl, ?_⟩
  clear hf; intro a hf
  refine st_move hf rfl rfl (by decide) ?_
  clear hf; intro a ha hf; clear ha
  refine st_extract hf (by decide) rfl rfl rfl ?_
  clear hf; intro a ha hf; clear ha
  refine st_extract hf (by decide) rfl rfl rfl ?_
  clear hf; intro a ha hf; clear ha
  refine st_assign hf rfl rfl (by decide) ?_
  clear hf; intro a ha hf; clear ha
  refine st_assign hf rfl rfl (by decide) ?_
  clear hf; intro a ha hf; clear ha
  refine st_nil hf ?_
  refine th_n ?_
  refine wp_seq ?_
  refine wp_seq ?_
  refine wp_reg ?_
  refine st_move hf rfl rfl (by decide) ?_
  clear hf; intro a ha hf; clear ha
  refine st_ineq hf (by decide) rfl rfl rfl ?_
  clear hf; intro a ha hf; clear ha
  refine st_move hf rfl rfl (by decide) ?_
  clear hf; intro a ha hf; clear ha
  refine wpList_cut 3 (fun a w => Fr 225 a [(1, .int .i16 re1), (2, .int .i16 im2), (3, optr v1 0), (7, .int .i64 q3), (8, .int .i64 (ishl .i64 (1 : Int) (IntKind.i64.wrap ((2 : Int) * q3)))), (9, .int .i64 (((IntKind.i64.wrap (((xx0_Tone).tmod (ishl .i64 (1 : Int) (IntKind.i64.wrap ((2 : Int) * q3)))) + (ishl .i64 (1 : Int) (IntKind.i64.wrap ((2 : Int) * q3)))))).tmod (ishl .i64 (1 : Int) (IntKind.i64.wrap ((2 : Int) * q3))))), (10, .int .i64 (((IntKind.i64.wrap (((xx0_Place).tmod (ishl .i64 (1 : Int) (IntKind.i64.wrap ((2 : Int) * q3)))) + (ishl .i64 (1 : Int) (IntKind.i64.wrap ((2 : Int) * q3)))))).tmod (ishl .i64 (1 : Int) (IntKind.i64.wrap ((2 : Int) * q3))))), (11, .complex .f64 bb10 bb12), (12, v15), (13, v25), (15, v29), (17, v38), (18, .int .i64 q31.2), (90, .bool ((q18.2 != (0 : Int)) || (q27.2 != (0 : Int))))] ∧ Hp S w0 w (Res.sl Ek.c128 28 v25 q18.1 :: Res.sl Ek.c128 28 v38 q31.1 :: Res.sl Ek.c128 28 v29 q27.1 :: Res.sl Ek.c128 28 v15 ((List.replicate ((ishl .i64 (1 : Int) (IntKind.i64.wrap ((2 : Int) * q3)))).toNat (Fl.bits 0, Fl.bits 0)).set ((((IntKind.i64.wrap (((xx0_Tone).tmod (ishl .i64 (1 : Int) (IntKind.i64.wrap ((2 : Int) * q3)))) + (ishl .i64 (1 : Int) (IntKind.i64.wrap ((2 : Int) * q3)))))).tmod (ishl .i64 (1 : Int) (IntKind.i64.wrap ((2 : Int) * q3))))).toNat ((fquo (fofi ((re1).tmod (4097 : Int))) (Fl.bits 4634204016564240384)), (fquo (fofi ((im2).tmod (4097 : Int))) (Fl.bits 4634204016564240384)))) :: Res.obj 40 v1 [.int .i64 xx0_Power, .int .i64 xx0_Place, .int .i64 xx0_Tone, .int .i64 xx0_By] :: ow)) ?_ ?_
  · rcases Bool.eq_false_or_eq_true (q18.2 != (0 : Int)) with hb41 | hb41
    · skip
      refine st_skip hf (wantN hf rfl rfl hb41) rfl (by decide) ?_ rfl
      clear hf; intro a hf
      refine st_skip hf (wantN hf rfl rfl hb41) rfl (by decide) ?_ rfl
      clear hf; intro a hf
      refine st_pick (v := .bool true) hf rfl rfl (fun hb' => ?_) (fun hb' => ?_) (by decide) ?_
      · rfl
      · exact absurd (hb41.symm.trans hb') (by decide)
      clear hf; intro a ha hf; clear ha
      refine st_nil hf (th_n ?_)
      exact ⟨hf.sub ⟨rfl, rfl, rfl, rfl, rfl, rfl, rfl, rfl, rfl, rfl, rfl, rfl, rfl, (by rw [hb41]; rfl), trivial⟩, hp⟩
    refine st_move hf (wantY hf rfl rfl hb41) rfl (by decide) ?_
    clear hf; intro a ha hf; clear ha
    refine st_ineq hf (by decide) (wantY hf rfl rfl hb41) rfl rfl ?_
    clear hf; intro a ha hf; clear ha
    refine st_pick (v := .bool (q27.2 != (0 : Int))) hf rfl rfl (fun hb' => ?_) (fun hb' => ?_) (by decide) ?_
    · exact absurd (hb41.symm.trans hb') (by decide)
    · rfl
    clear hf; intro a ha hf; clear ha
    refine st_nil hf (th_n ?_)
    exact ⟨hf.sub ⟨rfl, rfl, rfl, rfl, rfl, rfl, rfl, rfl, rfl, rfl, rfl, rfl, rfl, (by rw [hb41]; rfl), trivial⟩, hp⟩
  rintro a w ⟨hf, hp⟩
  refine st_move hf rfl rfl (by decide) ?_
  clear hf; intro a ha hf; clear ha
  refine wpList_cut 3 (fun a w => Fr 225 a [(1, .int .i16 re1), (2, .int .i16 im2), (3, optr v1 0), (7, .int .i64 q3), (8, .int .i64 (ishl .i64 (1 : Int) (IntKind.i64.wrap ((2 : Int) * q3)))), (9, .int .i64 (((IntKind.i64.wrap (((xx0_Tone).tmod (ishl .i64 (1 : Int) (IntKind.i64.wrap ((2 : Int) * q3)))) + (ishl .i64 (1 : Int) (IntKind.i64.wrap ((2 : Int) * q3)))))).tmod (ishl .i64 (1 : Int) (IntKind.i64.wrap ((2 : Int) * q3))))), (10, .int .i64 (((IntKind.i64.wrap (((xx0_Place).tmod (ishl .i64 (1 : Int) (IntKind.i64.wrap ((2 : Int) * q3)))) + (ishl .i64 (1 : Int) (IntKind.i64.wrap ((2 : Int) * q3)))))).tmod (ishl .i64 (1 : Int) (IntKind.i64.wrap ((2 : Int) * q3))))), (11, .complex .f64 bb10 bb12), (12, v15), (13, v25), (15, v29), (17, v38), (94, .bool (((q18.2 != (0 : Int)) || (q27.2 != (0 : Int))) || (q31.2 != (0 : Int))))] ∧ Hp S w0 w (Res.sl Ek.c128 28 v25 q18.1 :: Res.sl Ek.c128 28 v38 q31.1 :: Res.sl Ek.c128 28 v29 q27.1 :: Res.sl Ek.c128 28 v15 ((List.replicate ((ishl .i64 (1 : Int) (IntKind.i64.wrap ((2 : Int) * q3)))).toNat (Fl.bits 0, Fl.bits 0)).set ((((IntKind.i64.wrap (((xx0_Tone).tmod (ishl .i64 (1 : Int) (IntKind.i64.wrap ((2 : Int) * q3)))) + (ishl .i64 (1 : Int) (IntKind.i64.wrap ((2 : Int) * q3)))))).tmod (ishl .i64 (1 : Int) (IntKind.i64.wrap ((2 : Int) * q3))))).toNat ((fquo (fofi ((re1).tmod (4097 : Int))) (Fl.bits 4634204016564240384)), (fquo (fofi ((im2).tmod (4097 : Int))) (Fl.bits 4634204016564240384)))) :: Res.obj 40 v1 [.int .i64 xx0_Power, .int .i64 xx0_Place, .int .i64 xx0_Tone, .int .i64 xx0_By] :: ow)) ?_ ?_
  · rcases Bool.eq_false_or_eq_true ((q18.2 != (0 : Int)) || (q27.2 != (0 : Int))) with hb43 | hb43
    · skip
      refine st_skip hf (wantN hf rfl rfl hb43) rfl (by decide) ?_ rfl
      clear hf; intro a hf
      refine st_skip hf (wantN hf rfl rfl hb43) rfl (by decide) ?_ rfl
      clear hf; intro a hf
      refine st_pick (v := .bool true) hf rfl rfl (fun hb' => ?_) (fun hb' => ?_) (by decide) ?_
      · rfl
      · exact absurd (hb43.symm.trans hb') (by decide)
      clear hf; intro a ha hf; clear ha
      refine st_nil hf (th_n ?_)
      exact ⟨hf.sub ⟨rfl, rfl, rfl, rfl, rfl, rfl, rfl, rfl, rfl, rfl, rfl, rfl, (by rw [hb43]; rfl), trivial⟩, hp⟩
    refine st_move hf (wantY hf rfl rfl hb43) rfl (by decide) ?_
    clear hf; intro a ha hf; clear ha
    refine st_ineq hf (by decide) (wantY hf rfl rfl hb43) rfl rfl ?_
    clear hf; intro a ha hf; clear ha
    refine st_pick (v := .bool (q31.2 != (0 : Int))) hf rfl rfl (fun hb' => ?_) (fun hb' => ?_) (by decide) ?_
    · exact absurd (hb43.symm.trans hb') (by decide)
    · rfl
    clear hf; intro a ha hf; clear ha
    refine st_nil hf (th_n ?_)
    exact ⟨hf.sub ⟨rfl, rfl, rfl, rfl, rfl, rfl, rfl, rfl, rfl, rfl, rfl, rfl, (by rw [hb43]; rfl), trivial⟩, hp⟩
  rintro a w ⟨hf, hp⟩
  refine st_move hf rfl rfl (by decide) ?_
  clear hf; intro a ha hf; clear ha
  refine wpList_cut 5 (fun a w => Fr 225 a [(1, .int .i16 re1), (2, .int .i16 im2), (3, optr v1 0), (7, .int .i64 q3), (8, .int .i64 (ishl .i64 (1 : Int) (IntKind.i64.wrap ((2 : Int) * q3)))), (9, .int .i64 (((IntKind.i64.wrap (((xx0_Tone).tmod (ishl .i64 (1 : Int) (IntKind.i64.wrap ((2 : Int) * q3)))) + (ishl .i64 (1 : Int) (IntKind.i64.wrap ((2 : Int) * q3)))))).tmod (ishl .i64 (1 : Int) (IntKind.i64.wrap ((2 : Int) * q3))))), (10, .int .i64 (((IntKind.i64.wrap (((xx0_Place).tmod (ishl .i64 (1 : Int) (IntKind.i64.wrap ((2 : Int) * q3)))) + (ishl .i64 (1 : Int) (IntKind.i64.wrap ((2 : Int) * q3)))))).tmod (ishl .i64 (1 : Int) (IntKind.i64.wrap ((2 : Int) * q3))))), (11, .complex .f64 bb10 bb12), (12, v15), (13, v25), (15, v29), (17, v38), (100, .bool ((((q18.2 != (0 : Int)) || (q27.2 != (0 : Int))) || (q31.2 != (0 : Int))) || ((q18.1.length : Int) != (ishl .i64 (1 : Int) (IntKind.i64.wrap ((2 : Int) * q3))))))] ∧ Hp S w0 w (Res.sl Ek.c128 28 v25 q18.1 :: Res.sl Ek.c128 28 v38 q31.1 :: Res.sl Ek.c128 28 v29 q27.1 :: Res.sl Ek.c128 28 v15 ((List.replicate ((ishl .i64 (1 : Int) (IntKind.i64.wrap ((2 : Int) * q3)))).toNat (Fl.bits 0, Fl.bits 0)).set ((((IntKind.i64.wrap (((xx0_Tone).tmod (ishl .i64 (1 : Int) (IntKind.i64.wrap ((2 : Int) * q3)))) + (ishl .i64 (1 : Int) (IntKind.i64.wrap ((2 : Int) * q3)))))).tmod (ishl .i64 (1 : Int) (IntKind.i64.wrap ((2 : Int) * q3))))).toNat ((fquo (fofi ((re1).tmod (4097 : Int))) (Fl.bits 4634204016564240384)), (fquo (fofi ((im2).tmod (4097 : Int))) (Fl.bits 4634204016564240384)))) :: Res.obj 40 v1 [.int .i64 xx0_Power, .int .i64 xx0_Place, .int .i64 xx0_Tone, .int .i64 xx0_By] :: ow)) ?_ ?_
  · rcases Bool.eq_false_or_eq_true (((q18.2 != (0 : Int)) || (q27.2 != (0 : Int))) || (q31.2 != (0 : Int))) with hb45 | hb45
    · skip
      refine st_skip hf (wantN hf rfl rfl hb45) rfl (by decide) ?_ rfl
      clear hf; intro a hf
      refine st_skip hf (wantN hf rfl rfl hb45) rfl (by decide) ?_ rfl
      clear hf; intro a hf
      refine st_skip hf (wantN hf rfl rfl hb45) rfl (by decide) ?_ rfl
      clear hf; intro a hf
      refine st_skip hf (wantN hf rfl rfl hb45) rfl (by decide) ?_ rfl
      clear hf; intro a hf
      refine st_pick (v := .bool true) hf rfl rfl (fun hb' => ?_) (fun hb' => ?_) (by decide) ?_
      · rfl
      · exact absurd (hb45.symm.trans hb') (by decide)
      clear hf; intro a ha hf; clear ha
      refine st_nil hf (th_n ?_)
      exact ⟨hf.sub ⟨rfl, rfl, rfl, rfl, rfl, rfl, rfl, rfl, rfl, rfl, rfl, rfl, (by rw [hb45]; rfl), trivial⟩, hp⟩
    refine st_move hf (wantY hf rfl rfl hb45) rfl (by decide) ?_
    clear hf; intro a ha hf; clear ha
    refine st_len (E := Ek.c128) hf (by decide) Try.underlying26 (wantY hf rfl rfl hb45) rfl (hp.sl (i := 0) rfl) ?_
    clear hf; intro a ha hf; clear ha
    refine st_move hf (wantY hf rfl rfl hb45) rfl (by decide) ?_
    clear hf; intro a ha hf; clear ha
    refine st_ineq hf (by decide) (wantY hf rfl rfl hb45) rfl rfl ?_
    clear hf; intro a ha hf; clear ha
    refine st_pick (v := .bool ((q18.1.length : Int) != (ishl .i64 (1 : Int) (IntKind.i64.wrap ((2 : Int) * q3))))) hf rfl rfl (fun hb' => ?_) (fun hb' => ?_) (by decide) ?_
    · exact absurd (hb45.symm.trans hb') (by decide)
    · rfl
    clear hf; intro a ha hf; clear ha
    refine st_nil hf (th_n ?_)
    exact ⟨hf.sub ⟨rfl, rfl, rfl, rfl, rfl, rfl, rfl, rfl, rfl, rfl, rfl, rfl, (by rw [hb45]; rfl), trivial⟩, hp⟩
  rintro a w ⟨hf, hp⟩
  refine st_move hf rfl rfl (by decide) ?_
  clear hf; intro a ha hf; clear ha
  refine wpList_cut 5 (fun a w => Fr 225 a [(1, .int .i16 re1), (2, .int .i16 im2), (3, optr v1 0), (7, .int .i64 q3), (8, .int .i64 (ishl .i64 (1 : Int) (IntKind.i64.wrap ((2 : Int) * q3)))), (9, .int .i64 (((IntKind.i64.wrap (((xx0_Tone).tmod (ishl .i64 (1 : Int) (IntKind.i64.wrap ((2 : Int) * q3)))) + (ishl .i64 (1 : Int) (IntKind.i64.wrap ((2 : Int) * q3)))))).tmod (ishl .i64 (1 : Int) (IntKind.i64.wrap ((2 : Int) * q3))))), (10, .int .i64 (((IntKind.i64.wrap (((xx0_Place).tmod (ishl .i64 (1 : Int) (IntKind.i64.wrap ((2 : Int) * q3)))) + (ishl .i64 (1 : Int) (IntKind.i64.wrap ((2 : Int) * q3)))))).tmod (ishl .i64 (1 : Int) (IntKind.i64.wrap ((2 : Int) * q3))))), (11, .complex .f64 bb10 bb12), (12, v15), (13, v25), (15, v29), (17, v38), (106, .bool (((((q18.2 != (0 : Int)) || (q27.2 != (0 : Int))) || (q31.2 != (0 : Int))) || ((q18.1.length : Int) != (ishl .i64 (1 : Int) (IntKind.i64.wrap ((2 : Int) * q3))))) || ((q27.1.length : Int) != (ishl .i64 (1 : Int) (IntKind.i64.wrap ((2 : Int) * q3))))))] ∧ Hp S w0 w (Res.sl Ek.c128 28 v25 q18.1 :: Res.sl Ek.c128 28 v38 q31.1 :: Res.sl Ek.c128 28 v29 q27.1 :: Res.sl Ek.c128 28 v15 ((List.replicate ((ishl .i64 (1 : Int) (IntKind.i64.wrap ((2 : Int) * q3)))).toNat (Fl.bits 0, Fl.bits 0)).set ((((IntKind.i64.wrap (((xx0_Tone).tmod (ishl .i64 (1 : Int) (IntKind.i64.wrap ((2 : Int) * q3)))) + (ishl .i64 (1 : Int) (IntKind.i64.wrap ((2 : Int) * q3)))))).tmod (ishl .i64 (1 : Int) (IntKind.i64.wrap ((2 : Int) * q3))))).toNat ((fquo (fofi ((re1).tmod (4097 : Int))) (Fl.bits 4634204016564240384)), (fquo (fofi ((im2).tmod (4097 : Int))) (Fl.bits 4634204016564240384)))) :: Res.obj 40 v1 [.int .i64 xx0_Power, .int .i64 xx0_Place, .int .i64 xx0_Tone, .int .i64 xx0_By] :: ow)) ?_ ?_
  · rcases Bool.eq_false_or_eq_true ((((q18.2 != (0 : Int)) || (q27.2 != (0 : Int))) || (q31.2 != (0 : Int))) || ((q18.1.length : Int) != (ishl .i64 (1 : Int) (IntKind.i64.wrap ((2 : Int) * q3))))) with hb47 | hb47
    · skip
      refine st_skip hf (wantN hf rfl rfl hb47) rfl (by decide) ?_ rfl
      clear hf; intro a hf
      refine st_skip hf (wantN hf rfl rfl hb47) rfl (by decide) ?_ rfl
      clear hf; intro a hf
      refine st_skip hf (wantN hf rfl rfl hb47) rfl (by decide) ?_ rfl
      clear hf; intro a hf
      refine st_skip hf (wantN hf rfl rfl hb47) rfl (by decide) ?_ rfl
      clear hf; intro a hf
      refine st_pick (v := .bool true) hf rfl rfl (fun hb' => ?_) (fun hb' => ?_) (by decide) ?_
      · rfl
      · exact absurd (hb47.symm.trans hb') (by decide)
      clear hf; intro a ha hf; clear ha
      refine st_nil hf (th_n ?_)
      exact ⟨hf.sub ⟨rfl, rfl, rfl, rfl, rfl, rfl, rfl, rfl, rfl, rfl, rfl, rfl, (by rw [hb47]; rfl), trivial⟩, hp⟩
    refine st_move hf (wantY hf rfl rfl hb47) rfl (by decide) ?_
    clear hf; intro a ha hf; clear ha
    refine st_len (E := Ek.c128) hf (by decide) Try.underlying26 (wantY hf rfl rfl hb47) rfl (hp.sl (i := 2) rfl) ?_
    clear hf; intro a ha hf; clear ha
    refine st_move hf (wantY hf rfl rfl hb47) rfl (by decide) ?_
    clear hf; intro a ha hf; clear ha
    refine st_ineq hf (by decide) (wantY hf rfl rfl hb47) rfl rfl ?_
    clear hf; intro a ha hf; clear ha
    refine st_pick (v := .bool ((q27.1.length : Int) != (ishl .i64 (1 : Int) (IntKind.i64.wrap ((2 : Int) * q3))))) hf rfl rfl (fun hb' => ?_) (fun hb' => ?_) (by decide) ?_
    · exact absurd (hb47.symm.trans hb') (by decide)
    · rfl
    clear hf; intro a ha hf; clear ha
    refine st_nil hf (th_n ?_)
    exact ⟨hf.sub ⟨rfl, rfl, rfl, rfl, rfl, rfl, rfl, rfl, rfl, rfl, rfl, rfl, (by rw [hb47]; rfl), trivial⟩, hp⟩
  rintro a w ⟨hf, hp⟩
  refine st_move hf rfl rfl (by decide) ?_
  clear hf; intro a ha hf; clear ha
  obtain ⟨z50, hz48, h⟩ := bnd h
  refine wpList_cut 5 (fun a w => Fr 225 a [(1, .int .i16 re1), (2, .int .i16 im2), (3, optr v1 0), (7, .int .i64 q3), (8, .int .i64 (ishl .i64 (1 : Int) (IntKind.i64.wrap ((2 : Int) * q3)))), (9, .int .i64 (((IntKind.i64.wrap (((xx0_Tone).tmod (ishl .i64 (1 : Int) (IntKind.i64.wrap ((2 : Int) * q3)))) + (ishl .i64 (1 : Int) (IntKind.i64.wrap ((2 : Int) * q3)))))).tmod (ishl .i64 (1 : Int) (IntKind.i64.wrap ((2 : Int) * q3))))), (10, .int .i64 (((IntKind.i64.wrap (((xx0_Place).tmod (ishl .i64 (1 : Int) (IntKind.i64.wrap ((2 : Int) * q3)))) + (ishl .i64 (1 : Int) (IntKind.i64.wrap ((2 : Int) * q3)))))).tmod (ishl .i64 (1 : Int) (IntKind.i64.wrap ((2 : Int) * q3))))), (11, .complex .f64 bb10 bb12), (13, v25), (15, v29), (112, .bool z50)] ∧ Hp S w0 w (Res.sl Ek.c128 28 v25 q18.1 :: Res.sl Ek.c128 28 v38 q31.1 :: Res.sl Ek.c128 28 v29 q27.1 :: Res.sl Ek.c128 28 v15 ((List.replicate ((ishl .i64 (1 : Int) (IntKind.i64.wrap ((2 : Int) * q3)))).toNat (Fl.bits 0, Fl.bits 0)).set ((((IntKind.i64.wrap (((xx0_Tone).tmod (ishl .i64 (1 : Int) (IntKind.i64.wrap ((2 : Int) * q3)))) + (ishl .i64 (1 : Int) (IntKind.i64.wrap ((2 : Int) * q3)))))).tmod (ishl .i64 (1 : Int) (IntKind.i64.wrap ((2 : Int) * q3))))).toNat ((fquo (fofi ((re1).tmod (4097 : Int))) (Fl.bits 4634204016564240384)), (fquo (fofi ((im2).tmod (4097 : Int))) (Fl.bits 4634204016564240384)))) :: Res.obj 40 v1 [.int .i64 xx0_Power, .int .i64 xx0_Place, .int .i64 xx0_Tone, .int .i64 xx0_By] :: ow)) ?_ ?_
  · rcases Bool.eq_false_or_eq_true (((((q18.2 != (0 : Int)) || (q27.2 != (0 : Int))) || (q31.2 != (0 : Int))) || ((q18.1.length : Int) != (ishl .i64 (1 : Int) (IntKind.i64.wrap ((2 : Int) * q3))))) || ((q27.1.length : Int) != (ishl .i64 (1 : Int) (IntKind.i64.wrap ((2 : Int) * q3))))) with hb49 | hb49
    · skip
      replace hz48 := ifT hz48 hb49
      refine st_skip hf (wantN hf rfl rfl hb49) rfl (by decide) ?_ rfl
      clear hf; intro a hf
      refine st_skip hf (wantN hf rfl rfl hb49) rfl (by decide) ?_ rfl
      clear hf; intro a hf
      refine st_skip hf (wantN hf rfl rfl hb49) rfl (by decide) ?_ rfl
      clear hf; intro a hf
      refine st_skip hf (wantN hf rfl rfl hb49) rfl (by decide) ?_ rfl
      clear hf; intro a hf
      obtain rfl := Option.some.inj hz48
      refine st_pick (v := .bool true) hf rfl rfl (fun hb' => ?_) (fun hb' => ?_) (by decide) ?_
      · rfl
      · exact absurd (hb49.symm.trans hb') (by decide)
      clear hf; intro a ha hf; clear ha
      refine st_nil hf (th_n ?_)
      exact ⟨hf.sub ⟨rfl, rfl, rfl, rfl, rfl, rfl, rfl, rfl, rfl, rfl, rfl, trivial⟩, hp⟩
    replace hz48 := ifF hz48 hb49
    refine st_move hf (wantY hf rfl rfl hb49) rfl (by decide) ?_
    clear hf; intro a ha hf; clear ha
    refine st_move hf (wantY hf rfl rfl hb49) rfl (by decide) ?_
    clear hf; intro a ha hf; clear ha
    obtain ⟨q51, hcall52, hz48⟩ := bnd hz48
    obtain ⟨S53, hp54, rd55, up56, bk57⟩ := Hp.lendS hp (i := 1) rfl
    obtain ⟨S58, hp59, rd60, up61, bk62⟩ := Hp.lendS hp54 (i := 2) rfl
    refine st_call hf (by decide) Try.func11 rfl rfl (wantY hf rfl rfl hb49) rfl rfl (f_foghornlaw09_same_c hp59 _ _ ((rd55.now hp54).mono up61) _ _ rd60 hcall52) ?_
    rintro _ w ⟨rfl, hp0⟩
    have hp0 := bk62 _ _ hp0
    have hp0 := bk57 _ _ hp0
    clear hp; have hp := hp0; clear hp0
    replace hp : Hp _ _ _ (Res.sl Ek.c128 28 v38 q31.1 :: Res.sl Ek.c128 28 v15 ((List.replicate ((ishl .i64 (1 : Int) (IntKind.i64.wrap ((2 : Int) * q3)))).toNat (Fl.bits 0, Fl.bits 0)).set ((((IntKind.i64.wrap (((xx0_Tone).tmod (ishl .i64 (1 : Int) (IntKind.i64.wrap ((2 : Int) * q3)))) + (ishl .i64 (1 : Int) (IntKind.i64.wrap ((2 : Int) * q3)))))).tmod (ishl .i64 (1 : Int) (IntKind.i64.wrap ((2 : Int) * q3))))).toNat ((fquo (fofi ((re1).tmod (4097 : Int))) (Fl.bits 4634204016564240384)), (fquo (fofi ((im2).tmod (4097 : Int))) (Fl.bits 4634204016564240384)))) :: Res.sl Ek.c128 28 v25 q18.1 :: Res.sl Ek.c128 28 v29 q27.1 :: Res.obj 40 v1 [.int .i64 xx0_Power, .int .i64 xx0_Place, .int .i64 xx0_Tone, .int .i64 xx0_By] :: ow) := hp
    refine ⟨_, rfl, ?_⟩
    clear hf; intro a hf
    refine st_not hf (by decide) (wantY hf rfl rfl hb49) rfl ?_
    clear hf; intro a ha hf; clear ha
    obtain rfl := Option.some.inj hz48
    refine st_pick (v := .bool (!q51)) hf rfl rfl (fun hb' => ?_) (fun hb' => ?_) (by decide) ?_
    · exact absurd (hb49.symm.trans hb') (by decide)
    · rfl
    clear hf; intro a ha hf; clear ha
    refine st_nil hf (th_n ?_)
    have hp : Hp _ _ _ (Res.sl Ek.c128 28 v25 q18.1 :: Res.sl Ek.c128 28 v38 q31.1 :: Res.sl Ek.c128 28 v29 q27.1 :: Res.sl Ek.c128 28 v15 ((List.replicate ((ishl .i64 (1 : Int) (IntKind.i64.wrap ((2 : Int) * q3)))).toNat (Fl.bits 0, Fl.bits 0)).set ((((IntKind.i64.wrap (((xx0_Tone).tmod (ishl .i64 (1 : Int) (IntKind.i64.wrap ((2 : Int) * q3)))) + (ishl .i64 (1 : Int) (IntKind.i64.wrap ((2 : Int) * q3)))))).tmod (ishl .i64 (1 : Int) (IntKind.i64.wrap ((2 : Int) * q3))))).toNat ((fquo (fofi ((re1).tmod (4097 : Int))) (Fl.bits 4634204016564240384)), (fquo (fofi ((im2).tmod (4097 : Int))) (Fl.bits 4634204016564240384)))) :: Res.obj 40 v1 [.int .i64 xx0_Power, .int .i64 xx0_Place, .int .i64 xx0_Tone, .int .i64 xx0_By] :: ow) := Hp.sel (pre := [Res.sl Ek.c128 28 v38 q31.1, Res.sl Ek.c128 28 v15 ((List.replicate ((ishl .i64 (1 : Int) (IntKind.i64.wrap ((2 : Int) * q3)))).toNat (Fl.bits 0, Fl.bits 0)).set ((((IntKind.i64.wrap (((xx0_Tone).tmod (ishl .i64 (1 : Int) (IntKind.i64.wrap ((2 : Int) * q3)))) + (ishl .i64 (1 : Int) (IntKind.i64.wrap ((2 : Int) * q3)))))).tmod (ishl .i64 (1 : Int) (IntKind.i64.wrap ((2 : Int) * q3))))).toNat ((fquo (fofi ((re1).tmod (4097 : Int))) (Fl.bits 4634204016564240384)), (fquo (fofi ((im2).tmod (4097 : Int))) (Fl.bits 4634204016564240384)))), Res.sl Ek.c128 28 v25 q18.1, Res.sl Ek.c128 28 v29 q27.1, Res.obj 40 v1 [.int .i64 xx0_Power, .int .i64 xx0_Place, .int .i64 xx0_Tone, .int .i64 xx0_By]]) (tail := ow) (rs' := [Res.sl Ek.c128 28 v25 q18.1, Res.sl Ek.c128 28 v38 q31.1, Res.sl Ek.c128 28 v29 q27.1, Res.sl Ek.c128 28 v15 ((List.replicate ((ishl .i64 (1 : Int) (IntKind.i64.wrap ((2 : Int) * q3)))).toNat (Fl.bits 0, Fl.bits 0)).set ((((IntKind.i64.wrap (((xx0_Tone).tmod (ishl .i64 (1 : Int) (IntKind.i64.wrap ((2 : Int) * q3)))) + (ishl .i64 (1 : Int) (IntKind.i64.wrap ((2 : Int) * q3)))))).tmod (ishl .i64 (1 : Int) (IntKind.i64.wrap ((2 : Int) * q3))))).toNat ((fquo (fofi ((re1).tmod (4097 : Int))) (Fl.bits 4634204016564240384)), (fquo (fofi ((im2).tmod (4097 : Int))) (Fl.bits 4634204016564240384)))), Res.obj 40 v1 [.int .i64 xx0_Power, .int .i64 xx0_Place, .int .i64 xx0_Tone, .int .i64 xx0_By]]) hp [2, 0, 3, 1, 4] (by decide) (by simp) rfl
    exact ⟨hf.sub ⟨rfl, rfl, rfl, rfl, rfl, rfl, rfl, rfl, rfl, rfl, rfl, trivial⟩, hp⟩
  rintro a w ⟨hf, hp⟩
  refine st_nil hf ?_
  refine th_n ?_
  refine wp_if hf rfl (fun hb => ?_) (fun hb => ?_)
  · replace h := ifT h hb
    refine wp_seq ?_
    refine wp_reg ?_
    refine st_assign hf rfl rfl (by decide) ?_
    clear hf; intro a ha hf; clear ha
    refine st_nil hf ?_
    refine th_n ?_
    refine wp_ret ?_
    refine th_r ?_
    obtain rfl := Option.some.inj h
    have hp : Hp _ _ _ (ow) := Hp.sel (pre := [Res.sl Ek.c128 28 v25 q18.1, Res.sl Ek.c128 28 v38 q31.1, Res.sl Ek.c128 28 v29 q27.1, Res.sl Ek.c128 28 v15 ((List.replicate ((ishl .i64 (1 : Int) (IntKind.i64.wrap ((2 : Int) * q3)))).toNat (Fl.bits 0, Fl.bits 0)).set ((((IntKind.i64.wrap (((xx0_Tone).tmod (ishl .i64 (1 : Int) (IntKind.i64.wrap ((2 : Int) * q3)))) + (ishl .i64 (1 : Int) (IntKind.i64.wrap ((2 : Int) * q3)))))).tmod (ishl .i64 (1 : Int) (IntKind.i64.wrap ((2 : Int) * q3))))).toNat ((fquo (fofi ((re1).tmod (4097 : Int))) (Fl.bits 4634204016564240384)), (fquo (fofi ((im2).tmod (4097 : Int))) (Fl.bits 4634204016564240384)))), Res.obj 40 v1 [.int .i64 xx0_Power, .int .i64 xx0_Place, .int .i64 xx0_Tone, .int .i64 xx0_By]]) (tail := ow) (rs' := []) hp [] (by decide) (by simp) rfl
    exact ⟨rfl, ⟨hf.sub ⟨rfl, trivial⟩, hp⟩⟩
  replace h := ifF h hb
  refine wp_skip ?_
  refine th_n ?_
  refine wp_seq ?_
  refine wp_reg ?_
  refine st_assign hf rfl rfl (by decide) ?_
  clear hf; intro a ha hf; clear ha
  refine st_nil hf ?_
  refine th_n ?_
  refine wp_seq ?_
  refine wp_seq ?_
  refine wp_reg ?_
  refine st_assign hf rfl rfl (by decide) ?_
  clear hf; intro a ha hf; clear ha
  refine st_nil hf ?_
  refine th_n ?_
  refine wp_block ?_
  obtain ⟨q65, hl, h⟩ := bnd h
  have hp : Hp _ _ _ (Res.obj 40 v1 [.int .i64 xx0_Power, .int .i64 xx0_Place, .int .i64 xx0_Tone, .int .i64 xx0_By] :: Res.sl Ek.c128 28 v25 q18.1 :: Res.sl Ek.c128 28 v29 q27.1 :: ow) := Hp.sel (pre := [Res.sl Ek.c128 28 v25 q18.1, Res.sl Ek.c128 28 v38 q31.1, Res.sl Ek.c128 28 v29 q27.1, Res.sl Ek.c128 28 v15 ((List.replicate ((ishl .i64 (1 : Int) (IntKind.i64.wrap ((2 : Int) * q3)))).toNat (Fl.bits 0, Fl.bits 0)).set ((((IntKind.i64.wrap (((xx0_Tone).tmod (ishl .i64 (1 : Int) (IntKind.i64.wrap ((2 : Int) * q3)))) + (ishl .i64 (1 : Int) (IntKind.i64.wrap ((2 : Int) * q3)))))).tmod (ishl .i64 (1 : Int) (IntKind.i64.wrap ((2 : Int) * q3))))).toNat ((fquo (fofi ((re1).tmod (4097 : Int))) (Fl.bits 4634204016564240384)), (fquo (fofi ((im2).tmod (4097 : Int))) (Fl.bits 4634204016564240384)))), Res.obj 40 v1 [.int .i64 xx0_Power, .int .i64 xx0_Place, .int .i64 xx0_Tone, .int .i64 xx0_By]]) (tail := ow) (rs' := [Res.obj 40 v1 [.int .i64 xx0_Power, .int .i64 xx0_Place, .int .i64 xx0_Tone, .int .i64 xx0_By], Res.sl Ek.c128 28 v25 q18.1, Res.sl Ek.c128 28 v29 q27.1]) hp [4, 0, 2] (by decide) (by simp) rfl
  refine wp_loop_pure (f := (f_foghornlaw09_TonesApart.s1 xx0_Place xx0_Tone q3)) (s := ((0 : Int), (1 : Int))) (fun s a w => Fr 225 a [(1, .int .i16 re1), (2, .int .i16 im2), (3, optr v1 0), (7, .int .i64 q3), (8, .int .i64 (ishl .i64 (1 : Int) (IntKind.i64.wrap ((2 : Int) * q3)))), (9, .int .i64 (((IntKind.i64.wrap (((xx0_Tone).tmod (ishl .i64 (1 : Int) (IntKind.i64.wrap ((2 : Int) * q3)))) + (ishl .i64 (1 : Int) (IntKind.i64.wrap ((2 : Int) * q3)))))).tmod (ishl .i64 (1 : Int) (IntKind.i64.wrap ((2 : Int) * q3))))), (10, .int .i64 (((IntKind.i64.wrap (((xx0_Place).tmod (ishl .i64 (1 : Int) (IntKind.i64.wrap ((2 : Int) * q3)))) + (ishl .i64 (1 : Int) (IntKind.i64.wrap ((2 : Int) * q3)))))).tmod (ishl .i64 (1 : Int) (IntKind.i64.wrap ((2 : Int) * q3))))), (11, .complex .f64 bb10 bb12), (13, v25), (15, v29), (19, .int .i64 s.1), (20, .int .i64 s.2)] ∧ Hp S w0 w (Res.obj 40 v1 [.int .i64 xx0_Power, .int .i64 xx0_Place, .int .i64 xx0_Tone, .int .i64 xx0_By] :: Res.sl Ek.c128 28 v25 q18.1 :: Res.sl Ek.c128 28 v29 q27.1 :: ow)) (fun q e a w => e = .exit 0 ∧ Fr 225 a [(1, .int .i16 re1), (2, .int .i16 im2), (3, optr v1 0), (7, .int .i64 q3), (8, .int .i64 (ishl .i64 (1 : Int) (IntKind.i64.wrap ((2 : Int) * q3)))), (9, .int .i64 (((IntKind.i64.wrap (((xx0_Tone).tmod (ishl .i64 (1 : Int) (IntKind.i64.wrap ((2 : Int) * q3)))) + (ishl .i64 (1 : Int) (IntKind.i64.wrap ((2 : Int) * q3)))))).tmod (ishl .i64 (1 : Int) (IntKind.i64.wrap ((2 : Int) * q3))))), (10, .int .i64 (((IntKind.i64.wrap (((xx0_Place).tmod (ishl .i64 (1 : Int) (IntKind.i64.wrap ((2 : Int) * q3)))) + (ishl .i64 (1 : Int) (IntKind.i64.wrap ((2 : Int) * q3)))))).tmod (ishl .i64 (1 : Int) (IntKind.i64.wrap ((2 : Int) * q3))))), (11, .complex .f64 bb10 bb12), (13, v25), (15, v29), (19, .int .i64 q)] ∧ Hp S w0 w (Res.obj 40 v1 [.int .i64 xx0_Power, .int .i64 xx0_Place, .int .i64 xx0_Tone, .int .i64 xx0_By] :: Res.sl Ek.c128 28 v25 q18.1 :: Res.sl Ek.c128 28 v29 q27.1 :: ow)) ?_ hl ⟨hf.sub ⟨rfl, rfl, rfl, rfl, rfl, rfl, rfl, rfl, rfl, rfl, rfl, rfl, trivial⟩, hp⟩ ?_
  · clear hl hf hp
    intro s x a w h hI
    obtain ⟨both19, d20⟩ := s
    obtain ⟨hf, hp⟩ : Fr 225 a [(1, .int .i16 re1), (2, .int .i16 im2), (3, optr v1 0), (7, .int .i64 q3), (8, .int .i64 (ishl .i64 (1 : Int) (IntKind.i64.wrap ((2 : Int) * q3)))), (9, .int .i64 (((IntKind.i64.wrap (((xx0_Tone).tmod (ishl .i64 (1 : Int) (IntKind.i64.wrap ((2 : Int) * q3)))) + (ishl .i64 (1 : Int) (IntKind.i64.wrap ((2 : Int) * q3)))))).tmod (ishl .i64 (1 : Int) (IntKind.i64.wrap ((2 : Int) * q3))))), (10, .int .i64 (((IntKind.i64.wrap (((xx0_Place).tmod (ishl .i64 (1 : Int) (IntKind.i64.wrap ((2 : Int) * q3)))) + (ishl .i64 (1 : Int) (IntKind.i64.wrap ((2 : Int) * q3)))))).tmod (ishl .i64 (1 : Int) (IntKind.i64.wrap ((2 : Int) * q3))))), (11, .complex .f64 bb10 bb12), (13, v25), (15, v29), (19, .int .i64 both19), (20, .int .i64 d20)] ∧ Hp S w0 w (Res.obj 40 v1 [.int .i64 xx0_Power, .int .i64 xx0_Place, .int .i64 xx0_Tone, .int .i64 xx0_By] :: Res.sl Ek.c128 28 v25 q18.1 :: Res.sl Ek.c128 28 v29 q27.1 :: ow) := hI
    replace h : f_foghornlaw09_TonesApart.s1c xx0_Place xx0_Tone q3 both19 d20 = some x := h
    unfold f_foghornlaw09_TonesApart.s1c at h
    refine wp_seq ?_
    refine wp_seq ?_
    refine wp_reg ?_
    refine st_move hf rfl rfl (by decide) ?_
    clear hf; intro a ha hf; clear ha
    refine st_move hf rfl rfl (by decide) ?_
    clear hf; intro a ha hf; clear ha
    refine st_ilss hf (by decide) rfl rfl rfl ?_
    clear hf; intro a ha hf; clear ha
    refine st_nil hf ?_
    refine th_n ?_
    refine wp_if hf rfl (fun hb => ?_) (fun hb => ?_)
    · replace h := ifT h hb
      refine wp_skip ?_
      refine th_n ?_
      refine wp_seq ?_
      refine wp_block ?_
      obtain ⟨hc63, h⟩ := chk h
      obtain ⟨hc64, h⟩ := chk h
      refine wp_cutN (fun a w => Fr 225 a [(1, .int .i16 re1), (2, .int .i16 im2), (3, optr v1 0), (7, .int .i64 q3), (8, .int .i64 (ishl .i64 (1 : Int) (IntKind.i64.wrap ((2 : Int) * q3)))), (9, .int .i64 (((IntKind.i64.wrap (((xx0_Tone).tmod (ishl .i64 (1 : Int) (IntKind.i64.wrap ((2 : Int) * q3)))) + (ishl .i64 (1 : Int) (IntKind.i64.wrap ((2 : Int) * q3)))))).tmod (ishl .i64 (1 : Int) (IntKind.i64.wrap ((2 : Int) * q3))))), (10, .int .i64 (((IntKind.i64.wrap (((xx0_Place).tmod (ishl .i64 (1 : Int) (IntKind.i64.wrap ((2 : Int) * q3)))) + (ishl .i64 (1 : Int) (IntKind.i64.wrap ((2 : Int) * q3)))))).tmod (ishl .i64 (1 : Int) (IntKind.i64.wrap ((2 : Int) * q3))))), (11, .complex .f64 bb10 bb12), (13, v25), (15, v29), (19, .int .i64 (IntKind.i64.wrap (both19 + (IntKind.i64.wrap (d20 * (((IntKind.i64.wrap ((((IntKind.i64.wrap (((((IntKind.i64.wrap (((xx0_Tone).tmod (ishl .i64 (1 : Int) (IntKind.i64.wrap ((2 : Int) * q3)))) + (ishl .i64 (1 : Int) (IntKind.i64.wrap ((2 : Int) * q3)))))).tmod (ishl .i64 (1 : Int) (IntKind.i64.wrap ((2 : Int) * q3))))).tdiv d20))).tmod (4 : Int)) + (((IntKind.i64.wrap (((((IntKind.i64.wrap (((xx0_Place).tmod (ishl .i64 (1 : Int) (IntKind.i64.wrap ((2 : Int) * q3)))) + (ishl .i64 (1 : Int) (IntKind.i64.wrap ((2 : Int) * q3)))))).tmod (ishl .i64 (1 : Int) (IntKind.i64.wrap ((2 : Int) * q3))))).tdiv d20))).tmod (4 : Int))))).tmod (4 : Int))))))), (20, .int .i64 d20)] ∧ Hp S w0 w (Res.obj 40 v1 [.int .i64 xx0_Power, .int .i64 xx0_Place, .int .i64 xx0_Tone, .int .i64 xx0_By] :: Res.sl Ek.c128 28 v25 q18.1 :: Res.sl Ek.c128 28 v29 q27.1 :: ow)) ?_ ?_
      · have hp := hp.same (Same.drew w)
        refine dr_begin' (fun a w => Fr 225 a [(1, .int .i16 re1), (2, .int .i16 im2), (3, optr v1 0), (7, .int .i64 q3), (8, .int .i64 (ishl .i64 (1 : Int) (IntKind.i64.wrap ((2 : Int) * q3)))), (9, .int .i64 (((IntKind.i64.wrap (((xx0_Tone).tmod (ishl .i64 (1 : Int) (IntKind.i64.wrap ((2 : Int) * q3)))) + (ishl .i64 (1 : Int) (IntKind.i64.wrap ((2 : Int) * q3)))))).tmod (ishl .i64 (1 : Int) (IntKind.i64.wrap ((2 : Int) * q3))))), (10, .int .i64 (((IntKind.i64.wrap (((xx0_Place).tmod (ishl .i64 (1 : Int) (IntKind.i64.wrap ((2 : Int) * q3)))) + (ishl .i64 (1 : Int) (IntKind.i64.wrap ((2 : Int) * q3)))))).tmod (ishl .i64 (1 : Int) (IntKind.i64.wrap ((2 : Int) * q3))))), (11, .complex .f64 bb10 bb12), (13, v25), (15, v29), (19, .int .i64 (IntKind.i64.wrap (both19 + (IntKind.i64.wrap (d20 * (((IntKind.i64.wrap ((((IntKind.i64.wrap (((((IntKind.i64.wrap (((xx0_Tone).tmod (ishl .i64 (1 : Int) (IntKind.i64.wrap ((2 : Int) * q3)))) + (ishl .i64 (1 : Int) (IntKind.i64.wrap ((2 : Int) * q3)))))).tmod (ishl .i64 (1 : Int) (IntKind.i64.wrap ((2 : Int) * q3))))).tdiv d20))).tmod (4 : Int)) + (((IntKind.i64.wrap (((((IntKind.i64.wrap (((xx0_Place).tmod (ishl .i64 (1 : Int) (IntKind.i64.wrap ((2 : Int) * q3)))) + (ishl .i64 (1 : Int) (IntKind.i64.wrap ((2 : Int) * q3)))))).tmod (ishl .i64 (1 : Int) (IntKind.i64.wrap ((2 : Int) * q3))))).tdiv d20))).tmod (4 : Int))))).tmod (4 : Int))))))), (20, .int .i64 d20)] ∧ Hp S w0 w (Res.obj 40 v1 [.int .i64 xx0_Power, .int .i64 xx0_Place, .int .i64 xx0_Tone, .int .i64 xx0_By] :: Res.sl Ek.c128 28 v25 q18.1 :: Res.sl Ek.c128 28 v29 q27.1 :: ow)) (fun w' => ∃ l, Hp S w0 w' l) [] (by kernel_rfl) ?_
        refine dr_take 0 (.int .i64 both19) rfl (by kernel_rfl) (by kernel_rfl) (by kernel_rfl) (by kernel_rfl) rfl rfl hf (by decide) rfl (fun w hp => ?_) ⟨_, hp⟩ ?_
        · obtain ⟨_, hp⟩ := hp
          refine st_move hf rfl rfl (by decide) ?_
          clear hf; intro a ha hf
          exact st_nil hf (th_n ⟨ha, rfl⟩)
        clear hf; intro a hf
        refine dr_take 1 (.int .i64 d20) rfl (by kernel_rfl) (by kernel_rfl) (by kernel_rfl) (by kernel_rfl) rfl rfl hf (by decide) rfl (fun w hp => ?_) ⟨_, hp⟩ ?_
        · obtain ⟨_, hp⟩ := hp
          refine st_move hf rfl rfl (by decide) ?_
          clear hf; intro a ha hf
          exact st_nil hf (th_n ⟨ha, rfl⟩)
        clear hf; intro a hf
        refine dr_take 2 (.int .i64 (((IntKind.i64.wrap (((xx0_Tone).tmod (ishl .i64 (1 : Int) (IntKind.i64.wrap ((2 : Int) * q3)))) + (ishl .i64 (1 : Int) (IntKind.i64.wrap ((2 : Int) * q3)))))).tmod (ishl .i64 (1 : Int) (IntKind.i64.wrap ((2 : Int) * q3))))) rfl (by kernel_rfl) (by kernel_rfl) (by kernel_rfl) (by kernel_rfl) rfl rfl hf (by decide) rfl (fun w hp => ?_) ⟨_, hp⟩ ?_
        · obtain ⟨_, hp⟩ := hp
          refine st_move hf rfl rfl (by decide) ?_
          clear hf; intro a ha hf
          exact st_nil hf (th_n ⟨ha, rfl⟩)
        clear hf; intro a hf
        refine dr_take 3 (.int .i64 d20) rfl (by kernel_rfl) (by kernel_rfl) (by kernel_rfl) (by kernel_rfl) rfl rfl hf (by decide) rfl (fun w hp => ?_) ⟨_, hp⟩ ?_
        · obtain ⟨_, hp⟩ := hp
          refine st_move hf rfl rfl (by decide) ?_
          clear hf; intro a ha hf
          exact st_nil hf (th_n ⟨ha, rfl⟩)
        clear hf; intro a hf
        refine dr_take 4 (.int .i64 (IntKind.i64.wrap (((((IntKind.i64.wrap (((xx0_Tone).tmod (ishl .i64 (1 : Int) (IntKind.i64.wrap ((2 : Int) * q3)))) + (ishl .i64 (1 : Int) (IntKind.i64.wrap ((2 : Int) * q3)))))).tmod (ishl .i64 (1 : Int) (IntKind.i64.wrap ((2 : Int) * q3))))).tdiv d20))) rfl (by kernel_rfl) (by kernel_rfl) (by kernel_rfl) (by kernel_rfl) rfl rfl hf (by decide) rfl (fun w hp => ?_) ⟨_, hp⟩ ?_
        · obtain ⟨_, hp⟩ := hp
          refine st_iquo hf (by decide) rfl rfl rfl hc63 ?_
          clear hf; intro a ha hf
          exact st_nil hf (th_n ⟨ha, rfl⟩)
        clear hf; intro a hf
        refine dr_take 5 (.int .i64 (((IntKind.i64.wrap (((((IntKind.i64.wrap (((xx0_Tone).tmod (ishl .i64 (1 : Int) (IntKind.i64.wrap ((2 : Int) * q3)))) + (ishl .i64 (1 : Int) (IntKind.i64.wrap ((2 : Int) * q3)))))).tmod (ishl .i64 (1 : Int) (IntKind.i64.wrap ((2 : Int) * q3))))).tdiv d20))).tmod (4 : Int))) rfl (by kernel_rfl) (by kernel_rfl) (by kernel_rfl) (by kernel_rfl) rfl rfl hf (by decide) rfl (fun w hp => ?_) ⟨_, hp⟩ ?_
        · obtain ⟨_, hp⟩ := hp
          refine st_irem hf (by decide) rfl rfl rfl (by decide) ?_
          clear hf; intro a ha hf
          exact st_nil hf (th_n ⟨ha, rfl⟩)
        clear hf; intro a hf
        refine dr_take 6 (.int .i64 (((IntKind.i64.wrap (((xx0_Place).tmod (ishl .i64 (1 : Int) (IntKind.i64.wrap ((2 : Int) * q3)))) + (ishl .i64 (1 : Int) (IntKind.i64.wrap ((2 : Int) * q3)))))).tmod (ishl .i64 (1 : Int) (IntKind.i64.wrap ((2 : Int) * q3))))) rfl (by kernel_rfl) (by kernel_rfl) (by kernel_rfl) (by kernel_rfl) rfl rfl hf (by decide) rfl (fun w hp => ?_) ⟨_, hp⟩ ?_
        · obtain ⟨_, hp⟩ := hp
          refine st_move hf rfl rfl (by decide) ?_
          clear hf; intro a ha hf
          exact st_nil hf (th_n ⟨ha, rfl⟩)
        clear hf; intro a hf
        refine dr_take 7 (.int .i64 d20) rfl (by kernel_rfl) (by kernel_rfl) (by kernel_rfl) (by kernel_rfl) rfl rfl hf (by decide) rfl (fun w hp => ?_) ⟨_, hp⟩ ?_
        · obtain ⟨_, hp⟩ := hp
          refine st_move hf rfl rfl (by decide) ?_
          clear hf; intro a ha hf
          exact st_nil hf (th_n ⟨ha, rfl⟩)
        clear hf; intro a hf
        refine dr_take 8 (.int .i64 (IntKind.i64.wrap (((((IntKind.i64.wrap (((xx0_Place).tmod (ishl .i64 (1 : Int) (IntKind.i64.wrap ((2 : Int) * q3)))) + (ishl .i64 (1 : Int) (IntKind.i64.wrap ((2 : Int) * q3)))))).tmod (ishl .i64 (1 : Int) (IntKind.i64.wrap ((2 : Int) * q3))))).tdiv d20))) rfl (by kernel_rfl) (by kernel_rfl) (by kernel_rfl) (by kernel_rfl) rfl rfl hf (by decide) rfl (fun w hp => ?_) ⟨_, hp⟩ ?_
        · obtain ⟨_, hp⟩ := hp
          refine st_iquo hf (by decide) rfl rfl rfl hc64 ?_
          clear hf; intro a ha hf
          exact st_nil hf (th_n ⟨ha, rfl⟩)
        clear hf; intro a hf
        refine dr_take 9 (.int .i64 (((IntKind.i64.wrap (((((IntKind.i64.wrap (((xx0_Place).tmod (ishl .i64 (1 : Int) (IntKind.i64.wrap ((2 : Int) * q3)))) + (ishl .i64 (1 : Int) (IntKind.i64.wrap ((2 : Int) * q3)))))).tmod (ishl .i64 (1 : Int) (IntKind.i64.wrap ((2 : Int) * q3))))).tdiv d20))).tmod (4 : Int))) rfl (by kernel_rfl) (by kernel_rfl) (by kernel_rfl) (by kernel_rfl) rfl rfl hf (by decide) rfl (fun w hp => ?_) ⟨_, hp⟩ ?_
        · obtain ⟨_, hp⟩ := hp
          refine st_irem hf (by decide) rfl rfl rfl (by decide) ?_
          clear hf; intro a ha hf
          exact st_nil hf (th_n ⟨ha, rfl⟩)
        clear hf; intro a hf
        refine dr_take 10 (.int .i64 (IntKind.i64.wrap ((((IntKind.i64.wrap (((((IntKind.i64.wrap (((xx0_Tone).tmod (ishl .i64 (1 : Int) (IntKind.i64.wrap ((2 : Int) * q3)))) + (ishl .i64 (1 : Int) (IntKind.i64.wrap ((2 : Int) * q3)))))).tmod (ishl .i64 (1 : Int) (IntKind.i64.wrap ((2 : Int) * q3))))).tdiv d20))).tmod (4 : Int)) + (((IntKind.i64.wrap (((((IntKind.i64.wrap (((xx0_Place).tmod (ishl .i64 (1 : Int) (IntKind.i64.wrap ((2 : Int) * q3)))) + (ishl .i64 (1 : Int) (IntKind.i64.wrap ((2 : Int) * q3)))))).tmod (ishl .i64 (1 : Int) (IntKind.i64.wrap ((2 : Int) * q3))))).tdiv d20))).tmod (4 : Int))))) rfl (by kernel_rfl) (by kernel_rfl) (by kernel_rfl) (by kernel_rfl) rfl rfl hf (by decide) rfl (fun w hp => ?_) ⟨_, hp⟩ ?_
        · obtain ⟨_, hp⟩ := hp
          refine st_iadd hf (by decide) rfl rfl rfl ?_
          clear hf; intro a ha hf
          exact st_nil hf (th_n ⟨ha, rfl⟩)
        clear hf; intro a hf
        refine dr_take 11 (.int .i64 (((IntKind.i64.wrap ((((IntKind.i64.wrap (((((IntKind.i64.wrap (((xx0_Tone).tmod (ishl .i64 (1 : Int) (IntKind.i64.wrap ((2 : Int) * q3)))) + (ishl .i64 (1 : Int) (IntKind.i64.wrap ((2 : Int) * q3)))))).tmod (ishl .i64 (1 : Int) (IntKind.i64.wrap ((2 : Int) * q3))))).tdiv d20))).tmod (4 : Int)) + (((IntKind.i64.wrap (((((IntKind.i64.wrap (((xx0_Place).tmod (ishl .i64 (1 : Int) (IntKind.i64.wrap ((2 : Int) * q3)))) + (ishl .i64 (1 : Int) (IntKind.i64.wrap ((2 : Int) * q3)))))).tmod (ishl .i64 (1 : Int) (IntKind.i64.wrap ((2 : Int) * q3))))).tdiv d20))).tmod (4 : Int))))).tmod (4 : Int))) rfl (by kernel_rfl) (by kernel_rfl) (by kernel_rfl) (by kernel_rfl) rfl rfl hf (by decide) rfl (fun w hp => ?_) ⟨_, hp⟩ ?_
        · obtain ⟨_, hp⟩ := hp
          refine st_irem hf (by decide) rfl rfl rfl (by decide) ?_
          clear hf; intro a ha hf
          exact st_nil hf (th_n ⟨ha, rfl⟩)
        clear hf; intro a hf
        refine dr_take 12 (.int .i64 (IntKind.i64.wrap (d20 * (((IntKind.i64.wrap ((((IntKind.i64.wrap (((((IntKind.i64.wrap (((xx0_Tone).tmod (ishl .i64 (1 : Int) (IntKind.i64.wrap ((2 : Int) * q3)))) + (ishl .i64 (1 : Int) (IntKind.i64.wrap ((2 : Int) * q3)))))).tmod (ishl .i64 (1 : Int) (IntKind.i64.wrap ((2 : Int) * q3))))).tdiv d20))).tmod (4 : Int)) + (((IntKind.i64.wrap (((((IntKind.i64.wrap (((xx0_Place).tmod (ishl .i64 (1 : Int) (IntKind.i64.wrap ((2 : Int) * q3)))) + (ishl .i64 (1 : Int) (IntKind.i64.wrap ((2 : Int) * q3)))))).tmod (ishl .i64 (1 : Int) (IntKind.i64.wrap ((2 : Int) * q3))))).tdiv d20))).tmod (4 : Int))))).tmod (4 : Int))))) rfl (by kernel_rfl) (by kernel_rfl) (by kernel_rfl) (by kernel_rfl) rfl rfl hf (by decide) rfl (fun w hp => ?_) ⟨_, hp⟩ ?_
        · obtain ⟨_, hp⟩ := hp
          refine st_imul hf (by decide) rfl rfl rfl ?_
          clear hf; intro a ha hf
          exact st_nil hf (th_n ⟨ha, rfl⟩)
        clear hf; intro a hf
        refine dr_take 13 (.int .i64 (IntKind.i64.wrap (both19 + (IntKind.i64.wrap (d20 * (((IntKind.i64.wrap ((((IntKind.i64.wrap (((((IntKind.i64.wrap (((xx0_Tone).tmod (ishl .i64 (1 : Int) (IntKind.i64.wrap ((2 : Int) * q3)))) + (ishl .i64 (1 : Int) (IntKind.i64.wrap ((2 : Int) * q3)))))).tmod (ishl .i64 (1 : Int) (IntKind.i64.wrap ((2 : Int) * q3))))).tdiv d20))).tmod (4 : Int)) + (((IntKind.i64.wrap (((((IntKind.i64.wrap (((xx0_Place).tmod (ishl .i64 (1 : Int) (IntKind.i64.wrap ((2 : Int) * q3)))) + (ishl .i64 (1 : Int) (IntKind.i64.wrap ((2 : Int) * q3)))))).tmod (ishl .i64 (1 : Int) (IntKind.i64.wrap ((2 : Int) * q3))))).tdiv d20))).tmod (4 : Int))))).tmod (4 : Int))))))) rfl (by kernel_rfl) (by kernel_rfl) (by kernel_rfl) (by kernel_rfl) rfl rfl hf (by decide) rfl (fun w hp => ?_) ⟨_, hp⟩ ?_
        · obtain ⟨_, hp⟩ := hp
          refine st_iadd hf (by decide) rfl rfl rfl ?_
          clear hf; intro a ha hf
          exact st_nil hf (th_n ⟨ha, rfl⟩)
        clear hf; intro a hf
        refine dr_take 14 (.int .i64 (IntKind.i64.wrap (both19 + (IntKind.i64.wrap (d20 * (((IntKind.i64.wrap ((((IntKind.i64.wrap (((((IntKind.i64.wrap (((xx0_Tone).tmod (ishl .i64 (1 : Int) (IntKind.i64.wrap ((2 : Int) * q3)))) + (ishl .i64 (1 : Int) (IntKind.i64.wrap ((2 : Int) * q3)))))).tmod (ishl .i64 (1 : Int) (IntKind.i64.wrap ((2 : Int) * q3))))).tdiv d20))).tmod (4 : Int)) + (((IntKind.i64.wrap (((((IntKind.i64.wrap (((xx0_Place).tmod (ishl .i64 (1 : Int) (IntKind.i64.wrap ((2 : Int) * q3)))) + (ishl .i64 (1 : Int) (IntKind.i64.wrap ((2 : Int) * q3)))))).tmod (ishl .i64 (1 : Int) (IntKind.i64.wrap ((2 : Int) * q3))))).tdiv d20))).tmod (4 : Int))))).tmod (4 : Int))))))) rfl (by kernel_rfl) (by kernel_rfl) (by kernel_rfl) (by kernel_rfl) rfl rfl hf (by decide) rfl (fun w hp => ?_) ⟨_, hp⟩ ?_
        · obtain ⟨_, hp⟩ := hp
          refine st_assign hf rfl rfl (by decide) ?_
          clear hf; intro a ha hf
          exact st_nil hf (th_n ⟨ha, rfl⟩)
        clear hf; intro a hf
        refine dr_end (by kernel_rfl) ?_ _
        exact ⟨hf.sub ⟨rfl, rfl, rfl, rfl, rfl, rfl, rfl, rfl, rfl, rfl, rfl, rfl, trivial⟩, hp⟩
      rintro a w ⟨hf, hp⟩
      refine ib_n ?_
      refine th_n ?_
      refine wp_reg ?_
      refine st_move hf rfl rfl (by decide) ?_
      clear hf; intro a ha hf; clear ha
      refine st_imul hf (by decide) rfl rfl rfl ?_
      clear hf; intro a ha hf; clear ha
      refine st_assign hf rfl rfl (by decide) ?_
      clear hf; intro a ha hf; clear ha
      refine st_nil hf ?_
      obtain rfl := Option.some.inj h
      exact rnd_l ⟨hf.sub ⟨rfl, rfl, rfl, rfl, rfl, rfl, rfl, rfl, rfl, rfl, rfl, rfl, trivial⟩, hp⟩
    replace h := ifF h hb
    refine wp_exit ?_
    refine th_e ?_
    obtain rfl := Option.some.inj h
    exact rnd_r (by simp) ⟨rfl, hf.sub ⟨rfl, rfl, rfl, rfl, rfl, rfl, rfl, rfl, rfl, rfl, rfl, trivial⟩, hp⟩
  clear hl hf hp
  intro e a w hne hO
  obtain ⟨rfl, hf, hp⟩ := hO
  refine ib_same ?_
  refine th_n ?_
  refine wp_seq ?_
  refine wp_seq ?_
  refine wp_reg ?_
  refine st_assign hf rfl rfl (by decide) ?_
  clear hf; intro a ha hf; clear ha
  refine st_nil hf ?_
  refine th_n ?_
  refine wp_block ?_
  obtain ⟨q138, hl, h⟩ := bnd h
  refine wp_loop_pure (f := (f_foghornlaw09_TonesApart.s2 xx0_Place xx0_Tone re1 im2 q3 q18 q27 q65)) (s := (0 : Int)) (fun s a w => Fr 225 a [(1, .int .i16 re1), (2, .int .i16 im2), (3, optr v1 0), (7, .int .i64 q3), (8, .int .i64 (ishl .i64 (1 : Int) (IntKind.i64.wrap ((2 : Int) * q3)))), (9, .int .i64 (((IntKind.i64.wrap (((xx0_Tone).tmod (ishl .i64 (1 : Int) (IntKind.i64.wrap ((2 : Int) * q3)))) + (ishl .i64 (1 : Int) (IntKind.i64.wrap ((2 : Int) * q3)))))).tmod (ishl .i64 (1 : Int) (IntKind.i64.wrap ((2 : Int) * q3))))), (10, .int .i64 (((IntKind.i64.wrap (((xx0_Place).tmod (ishl .i64 (1 : Int) (IntKind.i64.wrap ((2 : Int) * q3)))) + (ishl .i64 (1 : Int) (IntKind.i64.wrap ((2 : Int) * q3)))))).tmod (ishl .i64 (1 : Int) (IntKind.i64.wrap ((2 : Int) * q3))))), (11, .complex .f64 bb10 bb12), (13, v25), (15, v29), (19, .int .i64 q65), (21, .int .i64 s)] ∧ Hp S w0 w (Res.obj 40 v1 [.int .i64 xx0_Power, .int .i64 xx0_Place, .int .i64 xx0_Tone, .int .i64 xx0_By] :: Res.sl Ek.c128 28 v25 q18.1 :: Res.sl Ek.c128 28 v29 q27.1 :: ow)) (fun q e a w => match q with | (Sum.inl q) => e = .exit 2 ∧ Fr 225 a [(1, .int .i16 re1), (2, .int .i16 im2), (3, optr v1 0)] ∧ Hp S w0 w (Res.obj 40 v1 [.int .i64 xx0_Power, .int .i64 xx0_Place, .int .i64 xx0_Tone, .int .i64 xx0_By] :: ow) | (Sum.inr q) => e = .ret ∧ Fr 225 a [(6, .bool q)] ∧ Hp S w0 w (ow)) ?_ hl ⟨hf.sub ⟨rfl, rfl, rfl, rfl, rfl, rfl, rfl, rfl, rfl, rfl, rfl, rfl, trivial⟩, hp⟩ ?_
  · clear hl hf hp
    intro s x a w h hI
    obtain ⟨i21, hs⟩ : ∃ z, z = s := ⟨s, rfl⟩; subst hs
    obtain ⟨hf, hp⟩ : Fr 225 a [(1, .int .i16 re1), (2, .int .i16 im2), (3, optr v1 0), (7, .int .i64 q3), (8, .int .i64 (ishl .i64 (1 : Int) (IntKind.i64.wrap ((2 : Int) * q3)))), (9, .int .i64 (((IntKind.i64.wrap (((xx0_Tone).tmod (ishl .i64 (1 : Int) (IntKind.i64.wrap ((2 : Int) * q3)))) + (ishl .i64 (1 : Int) (IntKind.i64.wrap ((2 : Int) * q3)))))).tmod (ishl .i64 (1 : Int) (IntKind.i64.wrap ((2 : Int) * q3))))), (10, .int .i64 (((IntKind.i64.wrap (((xx0_Place).tmod (ishl .i64 (1 : Int) (IntKind.i64.wrap ((2 : Int) * q3)))) + (ishl .i64 (1 : Int) (IntKind.i64.wrap ((2 : Int) * q3)))))).tmod (ishl .i64 (1 : Int) (IntKind.i64.wrap ((2 : Int) * q3))))), (11, .complex .f64 bb10 bb12), (13, v25), (15, v29), (19, .int .i64 q65), (21, .int .i64 i21)] ∧ Hp S w0 w (Res.obj 40 v1 [.int .i64 xx0_Power, .int .i64 xx0_Place, .int .i64 xx0_Tone, .int .i64 xx0_By] :: Res.sl Ek.c128 28 v25 q18.1 :: Res.sl Ek.c128 28 v29 q27.1 :: ow) := hI
    replace h : f_foghornlaw09_TonesApart.s2c xx0_Place xx0_Tone re1 im2 q3 q18 q27 q65 i21 = some x := h
    unfold f_foghornlaw09_TonesApart.s2c at h
    refine wp_seq ?_
    refine wp_seq ?_
    refine wp_reg ?_
    refine st_move hf rfl rfl (by decide) ?_
    clear hf; intro a ha hf; clear ha
    refine st_move hf rfl rfl (by decide) ?_
    clear hf; intro a ha hf; clear ha
    refine st_ilss hf (by decide) rfl rfl rfl ?_
    clear hf; intro a ha hf; clear ha
    refine st_nil hf ?_
    refine th_n ?_
    refine wp_if hf rfl (fun hb => ?_) (fun hb => ?_)
    · replace h := ifT h hb
      refine wp_skip ?_
      refine th_n ?_
      refine wp_seq ?_
      refine wp_block ?_
      refine wp_seq ?_
      refine wp_reg ?_
      refine st_move hf rfl rfl (by decide) ?_
      clear hf; intro a ha hf; clear ha
      refine st_move hf rfl rfl (by decide) ?_
      clear hf; intro a ha hf; clear ha
      refine st_move hf rfl rfl (by decide) ?_
      clear hf; intro a ha hf; clear ha
      obtain ⟨q66, hcall67, h⟩ := bnd h
      refine st_call hf (by decide) Try.func15 rfl rfl rfl rfl rfl (f_tones_Entry_c hp _ _ _ hcall67) ?_
      rintro _ w ⟨rfl, hp0⟩
      clear hp; have hp := hp0; clear hp0
      replace hp : Hp _ _ _ (Res.obj 40 v1 [.int .i64 xx0_Power, .int .i64 xx0_Place, .int .i64 xx0_Tone, .int .i64 xx0_By] :: Res.sl Ek.c128 28 v25 q18.1 :: Res.sl Ek.c128 28 v29 q27.1 :: ow) := hp
      refine ⟨_, rfl, ?_⟩
      clear hf; intro a hf
      refine st_move hf rfl rfl (by decide) ?_
      clear hf; intro a ha hf; clear ha
      refine st_extract hf (by decide) rfl rfl rfl ?_
      clear hf; intro a ha hf; clear ha
      refine st_extract hf (by decide) rfl rfl rfl ?_
      clear hf; intro a ha hf; clear ha
      refine st_assign hf rfl rfl (by decide) ?_
      clear hf; intro a ha hf; clear ha
      refine st_assign hf rfl rfl (by decide) ?_
      clear hf; intro a ha hf; clear ha
      refine st_nil hf ?_
      refine th_n ?_
      refine wp_seq ?_
      refine wp_reg ?_
      refine st_move hf rfl rfl (by decide) ?_
      clear hf; intro a ha hf; clear ha
      refine st_move hf rfl rfl (by decide) ?_
      clear hf; intro a ha hf; clear ha
      refine st_move hf rfl rfl (by decide) ?_
      clear hf; intro a ha hf; clear ha
      obtain ⟨q68, hcall69, h⟩ := bnd h
      refine st_call hf (by decide) Try.func15 rfl rfl rfl rfl rfl (f_tones_Entry_c hp _ _ _ hcall69) ?_
      rintro _ w ⟨rfl, hp0⟩
      clear hp; have hp := hp0; clear hp0
      replace hp : Hp _ _ _ (Res.obj 40 v1 [.int .i64 xx0_Power, .int .i64 xx0_Place, .int .i64 xx0_Tone, .int .i64 xx0_By] :: Res.sl Ek.c128 28 v25 q18.1 :: Res.sl Ek.c128 28 v29 q27.1 :: ow) := hp
      refine ⟨_, rfl, ?_⟩
      clear hf; intro a hf
      refine st_move hf rfl rfl (by decide) ?_
      clear hf; intro a ha hf; clear ha
      refine st_extract hf (by decide) rfl rfl rfl ?_
      clear hf; intro a ha hf; clear ha
      refine st_extract hf (by decide) rfl rfl rfl ?_
      clear hf; intro a ha hf; clear ha
      refine st_assign hf rfl rfl (by decide) ?_
      clear hf; intro a ha hf; clear ha
      refine st_assign hf rfl rfl (by decide) ?_
      clear hf; intro a ha hf; clear ha
      refine st_nil hf ?_
      refine th_n ?_
      refine wp_seq ?_
      refine wp_reg ?_
      refine st_move hf rfl rfl (by decide) ?_
      clear hf; intro a ha hf; clear ha
      refine st_move hf rfl rfl (by decide) ?_
      clear hf; intro a ha hf; clear ha
      refine st_move hf rfl rfl (by decide) ?_
      clear hf; intro a ha hf; clear ha
      obtain ⟨q70, hcall71, h⟩ := bnd h
      refine st_call hf (by decide) Try.func15 rfl rfl rfl rfl rfl (f_tones_Entry_c hp _ _ _ hcall71) ?_
      rintro _ w ⟨rfl, hp0⟩
      clear hp; have hp := hp0; clear hp0
      replace hp : Hp _ _ _ (Res.obj 40 v1 [.int .i64 xx0_Power, .int .i64 xx0_Place, .int .i64 xx0_Tone, .int .i64 xx0_By] :: Res.sl Ek.c128 28 v25 q18.1 :: Res.sl Ek.c128 28 v29 q27.1 :: ow) := hp
      refine ⟨_, rfl, ?_⟩
      clear hf; intro a hf
      refine st_move hf rfl rfl (by decide) ?_
      clear hf; intro a ha hf; clear ha
      refine st_extract hf (by decide) rfl rfl rfl ?_
      clear hf; intro a ha hf; clear ha
      refine st_extract hf (by decide) rfl rfl rfl ?_
      clear hf; intro a ha hf; clear ha
      refine st_assign hf rfl rfl (by decide) ?_
      clear hf; intro a ha hf; clear ha
      refine st_assign hf rfl rfl (by decide) ?_
      clear hf; intro a ha hf; clear ha
      refine st_nil hf ?_
      refine th_n ?_
      refine wp_seq ?_
      refine wp_reg ?_
      refine st_move hf rfl rfl (by decide) ?_
      clear hf; intro a ha hf; clear ha
      refine st_move hf rfl rfl (by decide) ?_
      clear hf; intro a ha hf; clear ha
      refine st_move hf rfl rfl (by decide) ?_
      clear hf; intro a ha hf; clear ha
      obtain ⟨q72, hcall73, h⟩ := bnd h
      refine st_call hf (by decide) Try.func15 rfl rfl rfl rfl rfl (f_tones_Entry_c hp _ _ _ hcall73) ?_
      rintro _ w ⟨rfl, hp0⟩
      clear hp; have hp := hp0; clear hp0
      replace hp : Hp _ _ _ (Res.obj 40 v1 [.int .i64 xx0_Power, .int .i64 xx0_Place, .int .i64 xx0_Tone, .int .i64 xx0_By] :: Res.sl Ek.c128 28 v25 q18.1 :: Res.sl Ek.c128 28 v29 q27.1 :: ow) := hp
      refine ⟨_, rfl, ?_⟩
      clear hf; intro a hf
      refine st_move hf rfl rfl (by decide) ?_
      clear hf; intro a ha hf; clear ha
      refine st_extract hf (by decide) rfl rfl rfl ?_
      clear hf; intro a ha hf; clear ha
      refine st_extract hf (by decide) rfl rfl rfl ?_
      clear hf; intro a ha hf; clear ha
      refine st_assign hf rfl rfl (by decide) ?_
      clear hf; intro a ha hf; clear ha
      refine st_assign hf rfl rfl (by decide) ?_
      clear hf; intro a ha hf; clear ha
      refine st_nil hf ?_
      refine th_n ?_
      refine wp_seq ?_
      obtain ⟨S74, hp75, rd76, up77, bk78⟩ := Hp.lendS hp (i := 1) rfl
      obtain ⟨S79, hp80, rd81, up82, bk83⟩ := Hp.lendS hp75 (i := 1) rfl
      have rl84 := ((rd76.now hp75).mono up82)
      have rl85 := rd81
      obtain ⟨z116, hz96, h⟩ := bnd h
      obtain ⟨z137, hz117, h⟩ := bnd h
      refine wp_cutN (fun a w => Fr 225 a [(1, .int .i16 re1), (2, .int .i16 im2), (3, optr v1 0), (7, .int .i64 q3), (8, .int .i64 (ishl .i64 (1 : Int) (IntKind.i64.wrap ((2 : Int) * q3)))), (9, .int .i64 (((IntKind.i64.wrap (((xx0_Tone).tmod (ishl .i64 (1 : Int) (IntKind.i64.wrap ((2 : Int) * q3)))) + (ishl .i64 (1 : Int) (IntKind.i64.wrap ((2 : Int) * q3)))))).tmod (ishl .i64 (1 : Int) (IntKind.i64.wrap ((2 : Int) * q3))))), (10, .int .i64 (((IntKind.i64.wrap (((xx0_Place).tmod (ishl .i64 (1 : Int) (IntKind.i64.wrap ((2 : Int) * q3)))) + (ishl .i64 (1 : Int) (IntKind.i64.wrap ((2 : Int) * q3)))))).tmod (ishl .i64 (1 : Int) (IntKind.i64.wrap ((2 : Int) * q3))))), (11, .complex .f64 bb10 bb12), (13, v25), (15, v29), (19, .int .i64 q65), (21, .int .i64 i21), (216, .bool z137)] ∧ Hp S w0 w (Res.sl Ek.c128 28 v25 q18.1 :: Res.sl Ek.c128 28 v29 q27.1 :: Res.obj 40 v1 [.int .i64 xx0_Power, .int .i64 xx0_Place, .int .i64 xx0_Tone, .int .i64 xx0_By] :: ow)) ?_ ?_
      · have hp := hp80.same (Same.drew w)
        rcases Bool.eq_false_or_eq_true (q66.2 != (0 : Int)) with hb87 | hb87
        · skip
          have hb89 : ((q66.2 != (0 : Int)) || (q68.2 != (0 : Int))) = true := by rw [hb87]; rfl
          skip
          have hb91 : (((q66.2 != (0 : Int)) || (q68.2 != (0 : Int))) || (q70.2 != (0 : Int))) = true := by rw [hb89]; rfl
          skip
          have hb93 : ((((q66.2 != (0 : Int)) || (q68.2 != (0 : Int))) || (q70.2 != (0 : Int))) || (q72.2 != (0 : Int))) = true := by rw [hb91]; rfl
          skip
          have hb95 : (((((q66.2 != (0 : Int)) || (q68.2 != (0 : Int))) || (q70.2 != (0 : Int))) || (q72.2 != (0 : Int))) || (q66.1 != q68.1)) = true := by rw [hb93]; rfl
          skip
          have hb97 : ((((((q66.2 != (0 : Int)) || (q68.2 != (0 : Int))) || (q70.2 != (0 : Int))) || (q72.2 != (0 : Int))) || (q66.1 != q68.1)) || ((((IntKind.i64.wrap (q66.1 + q70.1))).tmod (4 : Int)) != q72.1)) = true := by rw [hb95]; rfl
          skip
          replace hz96 := ifT hz96 hb97
          replace hz96 := Option.some.inj hz96
          have hb118 : z116 = true := hz96.symm
          skip
          replace hz117 := ifT hz117 hb118
          replace hz117 := Option.some.inj hz117
          refine dr_begin' (fun a w => Fr 225 a [(1, .int .i16 re1), (2, .int .i16 im2), (3, optr v1 0), (7, .int .i64 q3), (8, .int .i64 (ishl .i64 (1 : Int) (IntKind.i64.wrap ((2 : Int) * q3)))), (9, .int .i64 (((IntKind.i64.wrap (((xx0_Tone).tmod (ishl .i64 (1 : Int) (IntKind.i64.wrap ((2 : Int) * q3)))) + (ishl .i64 (1 : Int) (IntKind.i64.wrap ((2 : Int) * q3)))))).tmod (ishl .i64 (1 : Int) (IntKind.i64.wrap ((2 : Int) * q3))))), (10, .int .i64 (((IntKind.i64.wrap (((xx0_Place).tmod (ishl .i64 (1 : Int) (IntKind.i64.wrap ((2 : Int) * q3)))) + (ishl .i64 (1 : Int) (IntKind.i64.wrap ((2 : Int) * q3)))))).tmod (ishl .i64 (1 : Int) (IntKind.i64.wrap ((2 : Int) * q3))))), (11, .complex .f64 bb10 bb12), (13, v25), (15, v29), (19, .int .i64 q65), (21, .int .i64 i21), (216, .bool z137)] ∧ Hp S w0 w (Res.sl Ek.c128 28 v25 q18.1 :: Res.sl Ek.c128 28 v29 q27.1 :: Res.obj 40 v1 [.int .i64 xx0_Power, .int .i64 xx0_Place, .int .i64 xx0_Tone, .int .i64 xx0_By] :: ow)) (fun w' => ∃ l, Hp S79 w w' l) [] (by kernel_rfl) ?_
          refine dr_take 0 (.int .i64 q66.2) rfl (by kernel_rfl) (by kernel_rfl) (by kernel_rfl) (by kernel_rfl) rfl rfl hf (by decide) rfl (fun w hp => ?_) ⟨_, hp⟩ ?_
          · obtain ⟨_, hp⟩ := hp
            refine st_move hf rfl rfl (by decide) ?_
            clear hf; intro a ha hf
            exact st_nil hf (th_n ⟨ha, rfl⟩)
          clear hf; intro a hf
          refine dr_take 1 (.bool (q66.2 != (0 : Int))) rfl (by kernel_rfl) (by kernel_rfl) (by kernel_rfl) (by kernel_rfl) rfl rfl hf (by decide) rfl (fun w hp => ?_) ⟨_, hp⟩ ?_
          · obtain ⟨_, hp⟩ := hp
            refine st_ineq hf (by decide) rfl rfl rfl ?_
            clear hf; intro a ha hf
            exact st_nil hf (th_n ⟨ha, rfl⟩)
          clear hf; intro a hf
          refine dr_take 2 (.bool (q66.2 != (0 : Int))) rfl (by kernel_rfl) (by kernel_rfl) (by kernel_rfl) (by kernel_rfl) rfl rfl hf (by decide) rfl (fun w hp => ?_) ⟨_, hp⟩ ?_
          · obtain ⟨_, hp⟩ := hp
            refine st_move hf rfl rfl (by decide) ?_
            clear hf; intro a ha hf
            exact st_nil hf (th_n ⟨ha, rfl⟩)
          clear hf; intro a hf
          refine dr_out 3 rfl (by kernel_rfl) (by kernel_rfl) (by kernel_rfl) (by kernel_rfl) rfl hf (by decide) rfl (wantN hf rfl rfl hb87) ⟨_, hp⟩ ?_
          clear hf; intro a hf
          refine dr_out 4 rfl (by kernel_rfl) (by kernel_rfl) (by kernel_rfl) (by kernel_rfl) rfl hf (by decide) rfl (wantN hf rfl rfl hb87) ⟨_, hp⟩ ?_
          clear hf; intro a hf
          refine dr_take 5 (.bool ((q66.2 != (0 : Int)) || (q68.2 != (0 : Int)))) rfl (by kernel_rfl) (by kernel_rfl) (by kernel_rfl) (by kernel_rfl) rfl rfl hf (by decide) rfl (fun w hp => ?_) ⟨_, hp⟩ ?_
          · obtain ⟨_, hp⟩ := hp
            refine st_pick (v := .bool ((q66.2 != (0 : Int)) || (q68.2 != (0 : Int)))) hf rfl rfl (fun _ => by rw [show ((q66.2 != (0 : Int)) || (q68.2 != (0 : Int))) = true from by rw [hb87]; rfl]; rfl) (fun hb' => absurd (hb87.symm.trans hb') (by decide)) (by decide) ?_
            clear hf; intro a ha hf
            exact st_nil hf (th_n ⟨ha, rfl⟩)
          clear hf; intro a hf
          refine dr_take 6 (.bool ((q66.2 != (0 : Int)) || (q68.2 != (0 : Int)))) rfl (by kernel_rfl) (by kernel_rfl) (by kernel_rfl) (by kernel_rfl) rfl rfl hf (by decide) rfl (fun w hp => ?_) ⟨_, hp⟩ ?_
          · obtain ⟨_, hp⟩ := hp
            refine st_move hf rfl rfl (by decide) ?_
            clear hf; intro a ha hf
            exact st_nil hf (th_n ⟨ha, rfl⟩)
          clear hf; intro a hf
          refine dr_out 7 rfl (by kernel_rfl) (by kernel_rfl) (by kernel_rfl) (by kernel_rfl) rfl hf (by decide) rfl (wantN hf rfl rfl hb89) ⟨_, hp⟩ ?_
          clear hf; intro a hf
          refine dr_out 8 rfl (by kernel_rfl) (by kernel_rfl) (by kernel_rfl) (by kernel_rfl) rfl hf (by decide) rfl (wantN hf rfl rfl hb89) ⟨_, hp⟩ ?_
          clear hf; intro a hf
          refine dr_take 9 (.bool (((q66.2 != (0 : Int)) || (q68.2 != (0 : Int))) || (q70.2 != (0 : Int)))) rfl (by kernel_rfl) (by kernel_rfl) (by kernel_rfl) (by kernel_rfl) rfl rfl hf (by decide) rfl (fun w hp => ?_) ⟨_, hp⟩ ?_
          · obtain ⟨_, hp⟩ := hp
            refine st_pick (v := .bool (((q66.2 != (0 : Int)) || (q68.2 != (0 : Int))) || (q70.2 != (0 : Int)))) hf rfl rfl (fun _ => by rw [show (((q66.2 != (0 : Int)) || (q68.2 != (0 : Int))) || (q70.2 != (0 : Int))) = true from by rw [hb89]; rfl]; rfl) (fun hb' => absurd (hb89.symm.trans hb') (by decide)) (by decide) ?_
            clear hf; intro a ha hf
            exact st_nil hf (th_n ⟨ha, rfl⟩)
          clear hf; intro a hf
          refine dr_take 10 (.bool (((q66.2 != (0 : Int)) || (q68.2 != (0 : Int))) || (q70.2 != (0 : Int)))) rfl (by kernel_rfl) (by kernel_rfl) (by kernel_rfl) (by kernel_rfl) rfl rfl hf (by decide) rfl (fun w hp => ?_) ⟨_, hp⟩ ?_
          · obtain ⟨_, hp⟩ := hp
            refine st_move hf rfl rfl (by decide) ?_
            clear hf; intro a ha hf
            exact st_nil hf (th_n ⟨ha, rfl⟩)
          clear hf; intro a hf
          refine dr_out 11 rfl (by kernel_rfl) (by kernel_rfl) (by kernel_rfl) (by kernel_rfl) rfl hf (by decide) rfl (wantN hf rfl rfl hb91) ⟨_, hp⟩ ?_
          clear hf; intro a hf
          refine dr_out 12 rfl (by kernel_rfl) (by kernel_rfl) (by kernel_rfl) (by kernel_rfl) rfl hf (by decide) rfl (wantN hf rfl rfl hb91) ⟨_, hp⟩ ?_
          clear hf; intro a hf
          refine dr_take 13 (.bool ((((q66.2 != (0 : Int)) || (q68.2 != (0 : Int))) || (q70.2 != (0 : Int))) || (q72.2 != (0 : Int)))) rfl (by kernel_rfl) (by kernel_rfl) (by kernel_rfl) (by kernel_rfl) rfl rfl hf (by decide) rfl (fun w hp => ?_) ⟨_, hp⟩ ?_
          · obtain ⟨_, hp⟩ := hp
            refine st_pick (v := .bool ((((q66.2 != (0 : Int)) || (q68.2 != (0 : Int))) || (q70.2 != (0 : Int))) || (q72.2 != (0 : Int)))) hf rfl rfl (fun _ => by rw [show ((((q66.2 != (0 : Int)) || (q68.2 != (0 : Int))) || (q70.2 != (0 : Int))) || (q72.2 != (0 : Int))) = true from by rw [hb91]; rfl]; rfl) (fun hb' => absurd (hb91.symm.trans hb') (by decide)) (by decide) ?_
            clear hf; intro a ha hf
            exact st_nil hf (th_n ⟨ha, rfl⟩)
          clear hf; intro a hf
          refine dr_take 14 (.bool ((((q66.2 != (0 : Int)) || (q68.2 != (0 : Int))) || (q70.2 != (0 : Int))) || (q72.2 != (0 : Int)))) rfl (by kernel_rfl) (by kernel_rfl) (by kernel_rfl) (by kernel_rfl) rfl rfl hf (by decide) rfl (fun w hp => ?_) ⟨_, hp⟩ ?_
          · obtain ⟨_, hp⟩ := hp
            refine st_move hf rfl rfl (by decide) ?_
            clear hf; intro a ha hf
            exact st_nil hf (th_n ⟨ha, rfl⟩)
          clear hf; intro a hf
          refine dr_out 15 rfl (by kernel_rfl) (by kernel_rfl) (by kernel_rfl) (by kernel_rfl) rfl hf (by decide) rfl (wantN hf rfl rfl hb93) ⟨_, hp⟩ ?_
          clear hf; intro a hf
          refine dr_out 16 rfl (by kernel_rfl) (by kernel_rfl) (by kernel_rfl) (by kernel_rfl) rfl hf (by decide) rfl (wantN hf rfl rfl hb93) ⟨_, hp⟩ ?_
          clear hf; intro a hf
          refine dr_out 17 rfl (by kernel_rfl) (by kernel_rfl) (by kernel_rfl) (by kernel_rfl) rfl hf (by decide) rfl (wantN hf rfl rfl hb93) ⟨_, hp⟩ ?_
          clear hf; intro a hf
          refine dr_take 18 (.bool (((((q66.2 != (0 : Int)) || (q68.2 != (0 : Int))) || (q70.2 != (0 : Int))) || (q72.2 != (0 : Int))) || (q66.1 != q68.1))) rfl (by kernel_rfl) (by kernel_rfl) (by kernel_rfl) (by kernel_rfl) rfl rfl hf (by decide) rfl (fun w hp => ?_) ⟨_, hp⟩ ?_
          · obtain ⟨_, hp⟩ := hp
            refine st_pick (v := .bool (((((q66.2 != (0 : Int)) || (q68.2 != (0 : Int))) || (q70.2 != (0 : Int))) || (q72.2 != (0 : Int))) || (q66.1 != q68.1))) hf rfl rfl (fun _ => by rw [show (((((q66.2 != (0 : Int)) || (q68.2 != (0 : Int))) || (q70.2 != (0 : Int))) || (q72.2 != (0 : Int))) || (q66.1 != q68.1)) = true from by rw [hb93]; rfl]; rfl) (fun hb' => absurd (hb93.symm.trans hb') (by decide)) (by decide) ?_
            clear hf; intro a ha hf
            exact st_nil hf (th_n ⟨ha, rfl⟩)
          clear hf; intro a hf
          refine dr_take 19 (.bool (((((q66.2 != (0 : Int)) || (q68.2 != (0 : Int))) || (q70.2 != (0 : Int))) || (q72.2 != (0 : Int))) || (q66.1 != q68.1))) rfl (by kernel_rfl) (by kernel_rfl) (by kernel_rfl) (by kernel_rfl) rfl rfl hf (by decide) rfl (fun w hp => ?_) ⟨_, hp⟩ ?_
          · obtain ⟨_, hp⟩ := hp
            refine st_move hf rfl rfl (by decide) ?_
            clear hf; intro a ha hf
            exact st_nil hf (th_n ⟨ha, rfl⟩)
          clear hf; intro a hf
          refine dr_out 20 rfl (by kernel_rfl) (by kernel_rfl) (by kernel_rfl) (by kernel_rfl) rfl hf (by decide) rfl (wantN hf rfl rfl hb95) ⟨_, hp⟩ ?_
          clear hf; intro a hf
          refine dr_out 21 rfl (by kernel_rfl) (by kernel_rfl) (by kernel_rfl) (by kernel_rfl) rfl hf (by decide) rfl (wantN hf rfl rfl hb95) ⟨_, hp⟩ ?_
          clear hf; intro a hf
          refine dr_out 22 rfl (by kernel_rfl) (by kernel_rfl) (by kernel_rfl) (by kernel_rfl) rfl hf (by decide) rfl (wantN hf rfl rfl hb95) ⟨_, hp⟩ ?_
          clear hf; intro a hf
          refine dr_out 23 rfl (by kernel_rfl) (by kernel_rfl) (by kernel_rfl) (by kernel_rfl) rfl hf (by decide) rfl (wantN hf rfl rfl hb95) ⟨_, hp⟩ ?_
          clear hf; intro a hf
          refine dr_out 24 rfl (by kernel_rfl) (by kernel_rfl) (by kernel_rfl) (by kernel_rfl) rfl hf (by decide) rfl (wantN hf rfl rfl hb95) ⟨_, hp⟩ ?_
          clear hf; intro a hf
          refine dr_out 25 rfl (by kernel_rfl) (by kernel_rfl) (by kernel_rfl) (by kernel_rfl) rfl hf (by decide) rfl (wantN hf rfl rfl hb95) ⟨_, hp⟩ ?_
          clear hf; intro a hf
          refine dr_take 26 (.bool ((((((q66.2 != (0 : Int)) || (q68.2 != (0 : Int))) || (q70.2 != (0 : Int))) || (q72.2 != (0 : Int))) || (q66.1 != q68.1)) || ((((IntKind.i64.wrap (q66.1 + q70.1))).tmod (4 : Int)) != q72.1))) rfl (by kernel_rfl) (by kernel_rfl) (by kernel_rfl) (by kernel_rfl) rfl rfl hf (by decide) rfl (fun w hp => ?_) ⟨_, hp⟩ ?_
          · obtain ⟨_, hp⟩ := hp
            refine st_pick (v := .bool ((((((q66.2 != (0 : Int)) || (q68.2 != (0 : Int))) || (q70.2 != (0 : Int))) || (q72.2 != (0 : Int))) || (q66.1 != q68.1)) || ((((IntKind.i64.wrap (q66.1 + q70.1))).tmod (4 : Int)) != q72.1))) hf rfl rfl (fun _ => by rw [show ((((((q66.2 != (0 : Int)) || (q68.2 != (0 : Int))) || (q70.2 != (0 : Int))) || (q72.2 != (0 : Int))) || (q66.1 != q68.1)) || ((((IntKind.i64.wrap (q66.1 + q70.1))).tmod (4 : Int)) != q72.1)) = true from by rw [hb95]; rfl]; rfl) (fun hb' => absurd (hb95.symm.trans hb') (by decide)) (by decide) ?_
            clear hf; intro a ha hf
            exact st_nil hf (th_n ⟨ha, rfl⟩)
          clear hf; intro a hf
          refine dr_take 27 (.bool ((((((q66.2 != (0 : Int)) || (q68.2 != (0 : Int))) || (q70.2 != (0 : Int))) || (q72.2 != (0 : Int))) || (q66.1 != q68.1)) || ((((IntKind.i64.wrap (q66.1 + q70.1))).tmod (4 : Int)) != q72.1))) rfl (by kernel_rfl) (by kernel_rfl) (by kernel_rfl) (by kernel_rfl) rfl rfl hf (by decide) rfl (fun w hp => ?_) ⟨_, hp⟩ ?_
          · obtain ⟨_, hp⟩ := hp
            refine st_move hf rfl rfl (by decide) ?_
            clear hf; intro a ha hf
            exact st_nil hf (th_n ⟨ha, rfl⟩)
          clear hf; intro a hf
          refine dr_out 28 rfl (by kernel_rfl) (by kernel_rfl) (by kernel_rfl) (by kernel_rfl) rfl hf (by decide) rfl (wantN hf rfl rfl hb97) ⟨_, hp⟩ ?_
          clear hf; intro a hf
          refine dr_out 29 rfl (by kernel_rfl) (by kernel_rfl) (by kernel_rfl) (by kernel_rfl) rfl hf (by decide) rfl (wantN hf rfl rfl hb97) ⟨_, hp⟩ ?_
          clear hf; intro a hf
          refine dr_out 30 rfl (by kernel_rfl) (by kernel_rfl) (by kernel_rfl) (by kernel_rfl) rfl hf (by decide) rfl (wantN hf rfl rfl hb97) ⟨_, hp⟩ ?_
          clear hf; intro a hf
          refine dr_out 31 rfl (by kernel_rfl) (by kernel_rfl) (by kernel_rfl) (by kernel_rfl) rfl hf (by decide) rfl (wantN hf rfl rfl hb97) ⟨_, hp⟩ ?_
          clear hf; intro a hf
          refine dr_out 32 rfl (by kernel_rfl) (by kernel_rfl) (by kernel_rfl) (by kernel_rfl) rfl hf (by decide) rfl (wantN hf rfl rfl hb97) ⟨_, hp⟩ ?_
          clear hf; intro a hf
          refine dr_out 33 rfl (by kernel_rfl) (by kernel_rfl) (by kernel_rfl) (by kernel_rfl) rfl hf (by decide) rfl (wantN hf rfl rfl hb97) ⟨_, hp⟩ ?_
          clear hf; intro a hf
          refine dr_out 34 rfl (by kernel_rfl) (by kernel_rfl) (by kernel_rfl) (by kernel_rfl) rfl hf (by decide) rfl (wantN hf rfl rfl hb97) ⟨_, hp⟩ ?_
          clear hf; intro a hf
          refine dr_out 35 rfl (by kernel_rfl) (by kernel_rfl) (by kernel_rfl) (by kernel_rfl) rfl hf (by decide) rfl (wantN hf rfl rfl hb97) ⟨_, hp⟩ ?_
          clear hf; intro a hf
          refine dr_out 36 rfl (by kernel_rfl) (by kernel_rfl) (by kernel_rfl) (by kernel_rfl) rfl hf (by decide) rfl (wantN hf rfl rfl hb97) ⟨_, hp⟩ ?_
          clear hf; intro a hf
          refine dr_out 37 rfl (by kernel_rfl) (by kernel_rfl) (by kernel_rfl) (by kernel_rfl) rfl hf (by decide) rfl (wantN hf rfl rfl hb97) ⟨_, hp⟩ ?_
          clear hf; intro a hf
          refine dr_out 38 rfl (by kernel_rfl) (by kernel_rfl) (by kernel_rfl) (by kernel_rfl) rfl hf (by decide) rfl (wantN hf rfl rfl hb97) ⟨_, hp⟩ ?_
          clear hf; intro a hf
          refine dr_take 39 (.bool z116) rfl (by kernel_rfl) (by kernel_rfl) (by kernel_rfl) (by kernel_rfl) rfl rfl hf (by decide) rfl (fun w hp => ?_) ⟨_, hp⟩ ?_
          · obtain ⟨_, hp⟩ := hp
            refine st_pick (v := .bool z116) hf rfl rfl (fun _ => by rw [← hz96]; rfl) (fun hb' => absurd (hb97.symm.trans hb') (by decide)) (by decide) ?_
            clear hf; intro a ha hf
            exact st_nil hf (th_n ⟨ha, rfl⟩)
          clear hf; intro a hf
          refine dr_take 40 (.bool z116) rfl (by kernel_rfl) (by kernel_rfl) (by kernel_rfl) (by kernel_rfl) rfl rfl hf (by decide) rfl (fun w hp => ?_) ⟨_, hp⟩ ?_
          · obtain ⟨_, hp⟩ := hp
            refine st_move hf rfl rfl (by decide) ?_
            clear hf; intro a ha hf
            exact st_nil hf (th_n ⟨ha, rfl⟩)
          clear hf; intro a hf
          refine dr_out 41 rfl (by kernel_rfl) (by kernel_rfl) (by kernel_rfl) (by kernel_rfl) rfl hf (by decide) rfl (wantN hf rfl rfl hb118) ⟨_, hp⟩ ?_
          clear hf; intro a hf
          refine dr_out 42 rfl (by kernel_rfl) (by kernel_rfl) (by kernel_rfl) (by kernel_rfl) rfl hf (by decide) rfl (wantN hf rfl rfl hb118) ⟨_, hp⟩ ?_
          clear hf; intro a hf
          refine dr_out 43 rfl (by kernel_rfl) (by kernel_rfl) (by kernel_rfl) (by kernel_rfl) rfl hf (by decide) rfl (wantN hf rfl rfl hb118) ⟨_, hp⟩ ?_
          clear hf; intro a hf
          refine dr_out 44 rfl (by kernel_rfl) (by kernel_rfl) (by kernel_rfl) (by kernel_rfl) rfl hf (by decide) rfl (wantN hf rfl rfl hb118) ⟨_, hp⟩ ?_
          clear hf; intro a hf
          refine dr_out 45 rfl (by kernel_rfl) (by kernel_rfl) (by kernel_rfl) (by kernel_rfl) rfl hf (by decide) rfl (wantN hf rfl rfl hb118) ⟨_, hp⟩ ?_
          clear hf; intro a hf
          refine dr_out 46 rfl (by kernel_rfl) (by kernel_rfl) (by kernel_rfl) (by kernel_rfl) rfl hf (by decide) rfl (wantN hf rfl rfl hb118) ⟨_, hp⟩ ?_
          clear hf; intro a hf
          refine dr_out 47 rfl (by kernel_rfl) (by kernel_rfl) (by kernel_rfl) (by kernel_rfl) rfl hf (by decide) rfl (wantN hf rfl rfl hb118) ⟨_, hp⟩ ?_
          clear hf; intro a hf
          refine dr_out 48 rfl (by kernel_rfl) (by kernel_rfl) (by kernel_rfl) (by kernel_rfl) rfl hf (by decide) rfl (wantN hf rfl rfl hb118) ⟨_, hp⟩ ?_
          clear hf; intro a hf
          refine dr_out 49 rfl (by kernel_rfl) (by kernel_rfl) (by kernel_rfl) (by kernel_rfl) rfl hf (by decide) rfl (wantN hf rfl rfl hb118) ⟨_, hp⟩ ?_
          clear hf; intro a hf
          refine dr_out 50 rfl (by kernel_rfl) (by kernel_rfl) (by kernel_rfl) (by kernel_rfl) rfl hf (by decide) rfl (wantN hf rfl rfl hb118) ⟨_, hp⟩ ?_
          clear hf; intro a hf
          refine dr_take 51 (.bool z137) rfl (by kernel_rfl) (by kernel_rfl) (by kernel_rfl) (by kernel_rfl) rfl rfl hf (by decide) rfl (fun w hp => ?_) ⟨_, hp⟩ ?_
          · obtain ⟨_, hp⟩ := hp
            refine st_pick (v := .bool z137) hf rfl rfl (fun _ => by rw [← hz117]; rfl) (fun hb' => absurd (hb118.symm.trans hb') (by decide)) (by decide) ?_
            clear hf; intro a ha hf
            exact st_nil hf (th_n ⟨ha, rfl⟩)
          clear hf; intro a hf
          refine dr_end (by kernel_rfl) ?_ _
          have hp := bk83 _ _ hp
          have hp := bk78 _ _ hp
          exact ⟨hf.sub ⟨rfl, rfl, rfl, rfl, rfl, rfl, rfl, rfl, rfl, rfl, rfl, rfl, rfl, trivial⟩, hp⟩
        skip
        rcases Bool.eq_false_or_eq_true ((q66.2 != (0 : Int)) || (q68.2 != (0 : Int))) with hb89 | hb89
        · skip
          have hb91 : (((q66.2 != (0 : Int)) || (q68.2 != (0 : Int))) || (q70.2 != (0 : Int))) = true := by rw [hb89]; rfl
          skip
          have hb93 : ((((q66.2 != (0 : Int)) || (q68.2 != (0 : Int))) || (q70.2 != (0 : Int))) || (q72.2 != (0 : Int))) = true := by rw [hb91]; rfl
          skip
          have hb95 : (((((q66.2 != (0 : Int)) || (q68.2 != (0 : Int))) || (q70.2 != (0 : Int))) || (q72.2 != (0 : Int))) || (q66.1 != q68.1)) = true := by rw [hb93]; rfl
          skip
          have hb97 : ((((((q66.2 != (0 : Int)) || (q68.2 != (0 : Int))) || (q70.2 != (0 : Int))) || (q72.2 != (0 : Int))) || (q66.1 != q68.1)) || ((((IntKind.i64.wrap (q66.1 + q70.1))).tmod (4 : Int)) != q72.1)) = true := by rw [hb95]; rfl
          skip
          replace hz96 := ifT hz96 hb97
          replace hz96 := Option.some.inj hz96
          have hb118 : z116 = true := hz96.symm
          skip
          replace hz117 := ifT hz117 hb118
          replace hz117 := Option.some.inj hz117
          refine dr_begin' (fun a w => Fr 225 a [(1, .int .i16 re1), (2, .int .i16 im2), (3, optr v1 0), (7, .int .i64 q3), (8, .int .i64 (ishl .i64 (1 : Int) (IntKind.i64.wrap ((2 : Int) * q3)))), (9, .int .i64 (((IntKind.i64.wrap (((xx0_Tone).tmod (ishl .i64 (1 : Int) (IntKind.i64.wrap ((2 : Int) * q3)))) + (ishl .i64 (1 : Int) (IntKind.i64.wrap ((2 : Int) * q3)))))).tmod (ishl .i64 (1 : Int) (IntKind.i64.wrap ((2 : Int) * q3))))), (10, .int .i64 (((IntKind.i64.wrap (((xx0_Place).tmod (ishl .i64 (1 : Int) (IntKind.i64.wrap ((2 : Int) * q3)))) + (ishl .i64 (1 : Int) (IntKind.i64.wrap ((2 : Int) * q3)))))).tmod (ishl .i64 (1 : Int) (IntKind.i64.wrap ((2 : Int) * q3))))), (11, .complex .f64 bb10 bb12), (13, v25), (15, v29), (19, .int .i64 q65), (21, .int .i64 i21), (216, .bool z137)] ∧ Hp S w0 w (Res.sl Ek.c128 28 v25 q18.1 :: Res.sl Ek.c128 28 v29 q27.1 :: Res.obj 40 v1 [.int .i64 xx0_Power, .int .i64 xx0_Place, .int .i64 xx0_Tone, .int .i64 xx0_By] :: ow)) (fun w' => ∃ l, Hp S79 w w' l) [] (by kernel_rfl) ?_
          refine dr_take 0 (.int .i64 q66.2) rfl (by kernel_rfl) (by kernel_rfl) (by kernel_rfl) (by kernel_rfl) rfl rfl hf (by decide) rfl (fun w hp => ?_) ⟨_, hp⟩ ?_
          · obtain ⟨_, hp⟩ := hp
            refine st_move hf rfl rfl (by decide) ?_
            clear hf; intro a ha hf
            exact st_nil hf (th_n ⟨ha, rfl⟩)
          clear hf; intro a hf
          refine dr_take 1 (.bool (q66.2 != (0 : Int))) rfl (by kernel_rfl) (by kernel_rfl) (by kernel_rfl) (by kernel_rfl) rfl rfl hf (by decide) rfl (fun w hp => ?_) ⟨_, hp⟩ ?_
          · obtain ⟨_, hp⟩ := hp
            refine st_ineq hf (by decide) rfl rfl rfl ?_
            clear hf; intro a ha hf
            exact st_nil hf (th_n ⟨ha, rfl⟩)
          clear hf; intro a hf
          refine dr_take 2 (.bool (q66.2 != (0 : Int))) rfl (by kernel_rfl) (by kernel_rfl) (by kernel_rfl) (by kernel_rfl) rfl rfl hf (by decide) rfl (fun w hp => ?_) ⟨_, hp⟩ ?_
          · obtain ⟨_, hp⟩ := hp
            refine st_move hf rfl rfl (by decide) ?_
            clear hf; intro a ha hf
            exact st_nil hf (th_n ⟨ha, rfl⟩)
          clear hf; intro a hf
          refine dr_take 3 (.int .i64 q68.2) rfl (by kernel_rfl) (by kernel_rfl) (by kernel_rfl) (by kernel_rfl) rfl rfl hf (by decide) (wantY hf rfl rfl hb87) (fun w hp => ?_) ⟨_, hp⟩ ?_
          · obtain ⟨_, hp⟩ := hp
            refine st_move hf (wantY hf rfl rfl hb87) rfl (by decide) ?_
            clear hf; intro a ha hf
            exact st_nil hf (th_n ⟨ha, rfl⟩)
          clear hf; intro a hf
          refine dr_take 4 (.bool (q68.2 != (0 : Int))) rfl (by kernel_rfl) (by kernel_rfl) (by kernel_rfl) (by kernel_rfl) rfl rfl hf (by decide) (wantY hf rfl rfl hb87) (fun w hp => ?_) ⟨_, hp⟩ ?_
          · obtain ⟨_, hp⟩ := hp
            refine st_ineq hf (by decide) (wantY hf rfl rfl hb87) rfl rfl ?_
            clear hf; intro a ha hf
            exact st_nil hf (th_n ⟨ha, rfl⟩)
          clear hf; intro a hf
          refine dr_take 5 (.bool ((q66.2 != (0 : Int)) || (q68.2 != (0 : Int)))) rfl (by kernel_rfl) (by kernel_rfl) (by kernel_rfl) (by kernel_rfl) rfl rfl hf (by decide) rfl (fun w hp => ?_) ⟨_, hp⟩ ?_
          · obtain ⟨_, hp⟩ := hp
            refine st_pick (v := .bool ((q66.2 != (0 : Int)) || (q68.2 != (0 : Int)))) hf rfl rfl (fun hb' => absurd (hb87.symm.trans hb') (by decide)) (fun _ => by rw [show ((q66.2 != (0 : Int)) || (q68.2 != (0 : Int))) = (q68.2 != (0 : Int)) from by rw [hb87]; rfl]; rfl) (by decide) ?_
            clear hf; intro a ha hf
            exact st_nil hf (th_n ⟨ha, rfl⟩)
          clear hf; intro a hf
          refine dr_take 6 (.bool ((q66.2 != (0 : Int)) || (q68.2 != (0 : Int)))) rfl (by kernel_rfl) (by kernel_rfl) (by kernel_rfl) (by kernel_rfl) rfl rfl hf (by decide) rfl (fun w hp => ?_) ⟨_, hp⟩ ?_
          · obtain ⟨_, hp⟩ := hp
            refine st_move hf rfl rfl (by decide) ?_
            clear hf; intro a ha hf
            exact st_nil hf (th_n ⟨ha, rfl⟩)
          clear hf; intro a hf
          refine dr_out 7 rfl (by kernel_rfl) (by kernel_rfl) (by kernel_rfl) (by kernel_rfl) rfl hf (by decide) rfl (wantN hf rfl rfl hb89) ⟨_, hp⟩ ?_
          clear hf; intro a hf
          refine dr_out 8 rfl (by kernel_rfl) (by kernel_rfl) (by kernel_rfl) (by kernel_rfl) rfl hf (by decide) rfl (wantN hf rfl rfl hb89) ⟨_, hp⟩ ?_
          clear hf; intro a hf
          refine dr_take 9 (.bool (((q66.2 != (0 : Int)) || (q68.2 != (0 : Int))) || (q70.2 != (0 : Int)))) rfl (by kernel_rfl) (by kernel_rfl) (by kernel_rfl) (by kernel_rfl) rfl rfl hf (by decide) rfl (fun w hp => ?_) ⟨_, hp⟩ ?_
          · obtain ⟨_, hp⟩ := hp
            refine st_pick (v := .bool (((q66.2 != (0 : Int)) || (q68.2 != (0 : Int))) || (q70.2 != (0 : Int)))) hf rfl rfl (fun _ => by rw [show (((q66.2 != (0 : Int)) || (q68.2 != (0 : Int))) || (q70.2 != (0 : Int))) = true from by rw [hb89]; rfl]; rfl) (fun hb' => absurd (hb89.symm.trans hb') (by decide)) (by decide) ?_
            clear hf; intro a ha hf
            exact st_nil hf (th_n ⟨ha, rfl⟩)
          clear hf; intro a hf
          refine dr_take 10 (.bool (((q66.2 != (0 : Int)) || (q68.2 != (0 : Int))) || (q70.2 != (0 : Int)))) rfl (by kernel_rfl) (by kernel_rfl) (by kernel_rfl) (by kernel_rfl) rfl rfl hf (by decide) rfl (fun w hp => ?_) ⟨_, hp⟩ ?_
          · obtain ⟨_, hp⟩ := hp
            refine st_move hf rfl rfl (by decide) ?_
            clear hf; intro a ha hf
            exact st_nil hf (th_n ⟨ha, rfl⟩)
          clear hf; intro a hf
          refine dr_out 11 rfl (by kernel_rfl) (by kernel_rfl) (by kernel_rfl) (by kernel_rfl) rfl hf (by decide) rfl (wantN hf rfl rfl hb91) ⟨_, hp⟩ ?_
          clear hf; intro a hf
          refine dr_out 12 rfl (by kernel_rfl) (by kernel_rfl) (by kernel_rfl) (by kernel_rfl) rfl hf (by decide) rfl (wantN hf rfl rfl hb91) ⟨_, hp⟩ ?_
          clear hf; intro a hf
          refine dr_take 13 (.bool ((((q66.2 != (0 : Int)) || (q68.2 != (0 : Int))) || (q70.2 != (0 : Int))) || (q72.2 != (0 : Int)))) rfl (by kernel_rfl) (by kernel_rfl) (by kernel_rfl) (by kernel_rfl) rfl rfl hf (by decide) rfl (fun w hp => ?_) ⟨_, hp⟩ ?_
          · obtain ⟨_, hp⟩ := hp
            refine st_pick (v := .bool ((((q66.2 != (0 : Int)) || (q68.2 != (0 : Int))) || (q70.2 != (0 : Int))) || (q72.2 != (0 : Int)))) hf rfl rfl (fun _ => by rw [show ((((q66.2 != (0 : Int)) || (q68.2 != (0 : Int))) || (q70.2 != (0 : Int))) || (q72.2 != (0 : Int))) = true from by rw [hb91]; rfl]; rfl) (fun hb' => absurd (hb91.symm.trans hb') (by decide)) (by decide) ?_
            clear hf; intro a ha hf
            exact st_nil hf (th_n ⟨ha, rfl⟩)
          clear hf; intro a hf
          refine dr_take 14 (.bool ((((q66.2 != (0 : Int)) || (q68.2 != (0 : Int))) || (q70.2 != (0 : Int))) || (q72.2 != (0 : Int)))) rfl (by kernel_rfl) (by kernel_rfl) (by kernel_rfl) (by kernel_rfl) rfl rfl hf (by decide) rfl (fun w hp => ?_) ⟨_, hp⟩ ?_
          · obtain ⟨_, hp⟩ := hp
            refine st_move hf rfl rfl (by decide) ?_
            clear hf; intro a ha hf
            exact st_nil hf (th_n ⟨ha, rfl⟩)
          clear hf; intro a hf
          refine dr_out 15 rfl (by kernel_rfl) (by kernel_rfl) (by kernel_rfl) (by kernel_rfl) rfl hf (by decide) rfl (wantN hf rfl rfl hb93) ⟨_, hp⟩ ?_
          clear hf; intro a hf
          refine dr_out 16 rfl (by kernel_rfl) (by kernel_rfl) (by kernel_rfl) (by kernel_rfl) rfl hf (by decide) rfl (wantN hf rfl rfl hb93) ⟨_, hp⟩ ?_
          clear hf; intro a hf
          refine dr_out 17 rfl (by kernel_rfl) (by kernel_rfl) (by kernel_rfl) (by kernel_rfl) rfl hf (by decide) rfl (wantN hf rfl rfl hb93) ⟨_, hp⟩ ?_
          clear hf; intro a hf
          refine dr_take 18 (.bool (((((q66.2 != (0 : Int)) || (q68.2 != (0 : Int))) || (q70.2 != (0 : Int))) || (q72.2 != (0 : Int))) || (q66.1 != q68.1))) rfl (by kernel_rfl) (by kernel_rfl) (by kernel_rfl) (by kernel_rfl) rfl rfl hf (by decide) rfl (fun w hp => ?_) ⟨_, hp⟩ ?_
          · obtain ⟨_, hp⟩ := hp
            refine st_pick (v := .bool (((((q66.2 != (0 : Int)) || (q68.2 != (0 : Int))) || (q70.2 != (0 : Int))) || (q72.2 != (0 : Int))) || (q66.1 != q68.1))) hf rfl rfl (fun _ => by rw [show (((((q66.2 != (0 : Int)) || (q68.2 != (0 : Int))) || (q70.2 != (0 : Int))) || (q72.2 != (0 : Int))) || (q66.1 != q68.1)) = true from by rw [hb93]; rfl]; rfl) (fun hb' => absurd (hb93.symm.trans hb') (by decide)) (by decide) ?_
            clear hf; intro a ha hf
            exact st_nil hf (th_n ⟨ha, rfl⟩)
          clear hf; intro a hf
          refine dr_take 19 (.bool (((((q66.2 != (0 : Int)) || (q68.2 != (0 : Int))) || (q70.2 != (0 : Int))) || (q72.2 != (0 : Int))) || (q66.1 != q68.1))) rfl (by kernel_rfl) (by kernel_rfl) (by kernel_rfl) (by kernel_rfl) rfl rfl hf (by decide) rfl (fun w hp => ?_) ⟨_, hp⟩ ?_
          · obtain ⟨_, hp⟩ := hp
            refine st_move hf rfl rfl (by decide) ?_
            clear hf; intro a ha hf
            exact st_nil hf (th_n ⟨ha, rfl⟩)
          clear hf; intro a hf
          refine dr_out 20 rfl (by kernel_rfl) (by kernel_rfl) (by kernel_rfl) (by kernel_rfl) rfl hf (by decide) rfl (wantN hf rfl rfl hb95) ⟨_, hp⟩ ?_
          clear hf; intro a hf
          refine dr_out 21 rfl (by kernel_rfl) (by kernel_rfl) (by kernel_rfl) (by kernel_rfl) rfl hf (by decide) rfl (wantN hf rfl rfl hb95) ⟨_, hp⟩ ?_
          clear hf; intro a hf
          refine dr_out 22 rfl (by kernel_rfl) (by kernel_rfl) (by kernel_rfl) (by kernel_rfl) rfl hf (by decide) rfl (wantN hf rfl rfl hb95) ⟨_, hp⟩ ?_
          clear hf; intro a hf
          refine dr_out 23 rfl (by kernel_rfl) (by kernel_rfl) (by kernel_rfl) (by kernel_rfl) rfl hf (by decide) rfl (wantN hf rfl rfl hb95) ⟨_, hp⟩ ?_
          clear hf; intro a hf
          refine dr_out 24 rfl (by kernel_rfl) (by kernel_rfl) (by kernel_rfl) (by kernel_rfl) rfl hf (by decide) rfl (wantN hf rfl rfl hb95) ⟨_, hp⟩ ?_
          clear hf; intro a hf
          refine dr_out 25 rfl (by kernel_rfl) (by kernel_rfl) (by kernel_rfl) (by kernel_rfl) rfl hf (by decide) rfl (wantN hf rfl rfl hb95) ⟨_, hp⟩ ?_
          clear hf; intro a hf
          refine dr_take 26 (.bool ((((((q66.2 != (0 : Int)) || (q68.2 != (0 : Int))) || (q70.2 != (0 : Int))) || (q72.2 != (0 : Int))) || (q66.1 != q68.1)) || ((((IntKind.i64.wrap (q66.1 + q70.1))).tmod (4 : Int)) != q72.1))) rfl (by kernel_rfl) (by kernel_rfl) (by kernel_rfl) (by kernel_rfl) rfl rfl hf (by decide) rfl (fun w hp => ?_) ⟨_, hp⟩ ?_
          · obtain ⟨_, hp⟩ := hp
            refine st_pick (v := .bool ((((((q66.2 != (0 : Int)) || (q68.2 != (0 : Int))) || (q70.2 != (0 : Int))) || (q72.2 != (0 : Int))) || (q66.1 != q68.1)) || ((((IntKind.i64.wrap (q66.1 + q70.1))).tmod (4 : Int)) != q72.1))) hf rfl rfl (fun _ => by rw [show ((((((q66.2 != (0 : Int)) || (q68.2 != (0 : Int))) || (q70.2 != (0 : Int))) || (q72.2 != (0 : Int))) || (q66.1 != q68.1)) || ((((IntKind.i64.wrap (q66.1 + q70.1))).tmod (4 : Int)) != q72.1)) = true from by rw [hb95]; rfl]; rfl) (fun hb' => absurd (hb95.symm.trans hb') (by decide)) (by decide) ?_
            clear hf; intro a ha hf
            exact st_nil hf (th_n ⟨ha, rfl⟩)
          clear hf; intro a hf
          refine dr_take 27 (.bool ((((((q66.2 != (0 : Int)) || (q68.2 != (0 : Int))) || (q70.2 != (0 : Int))) || (q72.2 != (0 : Int))) || (q66.1 != q68.1)) || ((((IntKind.i64.wrap (q66.1 + q70.1))).tmod (4 : Int)) != q72.1))) rfl (by kernel_rfl) (by kernel_rfl) (by kernel_rfl) (by kernel_rfl) rfl rfl hf (by decide) rfl (fun w hp => ?_) ⟨_, hp⟩ ?_
          · obtain ⟨_, hp⟩ := hp
            refine st_move hf rfl rfl (by decide) ?_
            clear hf; intro a ha hf
            exact st_nil hf (th_n ⟨ha, rfl⟩)
          clear hf; intro a hf
          refine dr_out 28 rfl (by kernel_rfl) (by kernel_rfl) (by kernel_rfl) (by kernel_rfl) rfl hf (by decide) rfl (wantN hf rfl rfl hb97) ⟨_, hp⟩ ?_
          clear hf; intro a hf
          refine dr_out 29 rfl (by kernel_rfl) (by kernel_rfl) (by kernel_rfl) (by kernel_rfl) rfl hf (by decide) rfl (wantN hf rfl rfl hb97) ⟨_, hp⟩ ?_
          clear hf; intro a hf
          refine dr_out 30 rfl (by kernel_rfl) (by kernel_rfl) (by kernel_rfl) (by kernel_rfl) rfl hf (by decide) rfl (wantN hf rfl rfl hb97) ⟨_, hp⟩ ?_
          clear hf; intro a hf
          refine dr_out 31 rfl (by kernel_rfl) (by kernel_rfl) (by kernel_rfl) (by kernel_rfl) rfl hf (by decide) rfl (wantN hf rfl rfl hb97) ⟨_, hp⟩ ?_
          clear hf; intro a hf
          refine dr_out 32 rfl (by kernel_rfl) (by kernel_rfl) (by kernel_rfl) (by kernel_rfl) rfl hf (by decide) rfl (wantN hf rfl rfl hb97) ⟨_, hp⟩ ?_
          clear hf; intro a hf
          refine dr_out 33 rfl (by kernel_rfl) (by kernel_rfl) (by kernel_rfl) (by kernel_rfl) rfl hf (by decide) rfl (wantN hf rfl rfl hb97) ⟨_, hp⟩ ?_
          clear hf; intro a hf
          refine dr_out 34 rfl (by kernel_rfl) (by kernel_rfl) (by kernel_rfl) (by kernel_rfl) rfl hf (by decide) rfl (wantN hf rfl rfl hb97) ⟨_, hp⟩ ?_
          clear hf; intro a hf
          refine dr_out 35 rfl (by kernel_rfl) (by kernel_rfl) (by kernel_rfl) (by kernel_rfl) rfl hf (by decide) rfl (wantN hf rfl rfl hb97) ⟨_, hp⟩ ?_
          clear hf; intro a hf
          refine dr_out 36 rfl (by kernel_rfl) (by kernel_rfl) (by kernel_rfl) (by kernel_rfl) rfl hf (by decide) rfl (wantN hf rfl rfl hb97) ⟨_, hp⟩ ?_
          clear hf; intro a hf
          refine dr_out 37 rfl (by kernel_rfl) (by kernel_rfl) (by kernel_rfl) (by kernel_rfl) rfl hf (by decide) rfl (wantN hf rfl rfl hb97) ⟨_, hp⟩ ?_
          clear hf; intro a hf
          refine dr_out 38 rfl (by kernel_rfl) (by kernel_rfl) (by kernel_rfl) (by kernel_rfl) rfl hf (by decide) rfl (wantN hf rfl rfl hb97) ⟨_, hp⟩ ?_
          clear hf; intro a hf
          refine dr_take 39 (.bool z116) rfl (by kernel_rfl) (by kernel_rfl) (by kernel_rfl) (by kernel_rfl) rfl rfl hf (by decide) rfl (fun w hp => ?_) ⟨_, hp⟩ ?_
          · obtain ⟨_, hp⟩ := hp
            refine st_pick (v := .bool z116) hf rfl rfl (fun _ => by rw [← hz96]; rfl) (fun hb' => absurd (hb97.symm.trans hb') (by decide)) (by decide) ?_
            clear hf; intro a ha hf
            exact st_nil hf (th_n ⟨ha, rfl⟩)
          clear hf; intro a hf
          refine dr_take 40 (.bool z116) rfl (by kernel_rfl) (by kernel_rfl) (by kernel_rfl) (by kernel_rfl) rfl rfl hf (by decide) rfl (fun w hp => ?_) ⟨_, hp⟩ ?_
          · obtain ⟨_, hp⟩ := hp
            refine st_move hf rfl rfl (by decide) ?_
            clear hf; intro a ha hf
            exact st_nil hf (th_n ⟨ha, rfl⟩)
          clear hf; intro a hf
          refine dr_out 41 rfl (by kernel_rfl) (by kernel_rfl) (by kernel_rfl) (by kernel_rfl) rfl hf (by decide) rfl (wantN hf rfl rfl hb118) ⟨_, hp⟩ ?_
          clear hf; intro a hf
          refine dr_out 42 rfl (by kernel_rfl) (by kernel_rfl) (by kernel_rfl) (by kernel_rfl) rfl hf (by decide) rfl (wantN hf rfl rfl hb118) ⟨_, hp⟩ ?_
          clear hf; intro a hf
          refine dr_out 43 rfl (by kernel_rfl) (by kernel_rfl) (by kernel_rfl) (by kernel_rfl) rfl hf (by decide) rfl (wantN hf rfl rfl hb118) ⟨_, hp⟩ ?_
          clear hf; intro a hf
          refine dr_out 44 rfl (by kernel_rfl) (by kernel_rfl) (by kernel_rfl) (by kernel_rfl) rfl hf (by decide) rfl (wantN hf rfl rfl hb118) ⟨_, hp⟩ ?_
          clear hf; intro a hf
          refine dr_out 45 rfl (by kernel_rfl) (by kernel_rfl) (by kernel_rfl) (by kernel_rfl) rfl hf (by decide) rfl (wantN hf rfl rfl hb118) ⟨_, hp⟩ ?_
          clear hf; intro a hf
          refine dr_out 46 rfl (by kernel_rfl) (by kernel_rfl) (by kernel_rfl) (by kernel_rfl) rfl hf (by decide) rfl (wantN hf rfl rfl hb118) ⟨_, hp⟩ ?_
          clear hf; intro a hf
          refine dr_out 47 rfl (by kernel_rfl) (by kernel_rfl) (by kernel_rfl) (by kernel_rfl) rfl hf (by decide) rfl (wantN hf rfl rfl hb118) ⟨_, hp⟩ ?_
          clear hf; intro a hf
          refine dr_out 48 rfl (by kernel_rfl) (by kernel_rfl) (by kernel_rfl) (by kernel_rfl) rfl hf (by decide) rfl (wantN hf rfl rfl hb118) ⟨_, hp⟩ ?_
          clear hf; intro a hf
          refine dr_out 49 rfl (by kernel_rfl) (by kernel_rfl) (by kernel_rfl) (by kernel_rfl) rfl hf (by decide) rfl (wantN hf rfl rfl hb118) ⟨_, hp⟩ ?_
          clear hf; intro a hf
          refine dr_out 50 rfl (by kernel_rfl) (by kernel_rfl) (by kernel_rfl) (by kernel_rfl) rfl hf (by decide) rfl (wantN hf rfl rfl hb118) ⟨_, hp⟩ ?_
          clear hf; intro a hf
          refine dr_take 51 (.bool z137) rfl (by kernel_rfl) (by kernel_rfl) (by kernel_rfl) (by kernel_rfl) rfl rfl hf (by decide) rfl (fun w hp => ?_) ⟨_, hp⟩ ?_
          · obtain ⟨_, hp⟩ := hp
            refine st_pick (v := .bool z137) hf rfl rfl (fun _ => by rw [← hz117]; rfl) (fun hb' => absurd (hb118.symm.trans hb') (by decide)) (by decide) ?_
            clear hf; intro a ha hf
            exact st_nil hf (th_n ⟨ha, rfl⟩)
          clear hf; intro a hf
          refine dr_end (by kernel_rfl) ?_ _
          have hp := bk83 _ _ hp
          have hp := bk78 _ _ hp
          exact ⟨hf.sub ⟨rfl, rfl, rfl, rfl, rfl, rfl, rfl, rfl, rfl, rfl, rfl, rfl, rfl, trivial⟩, hp⟩
        skip
        rcases Bool.eq_false_or_eq_true (((q66.2 != (0 : Int)) || (q68.2 != (0 : Int))) || (q70.2 != (0 : Int))) with hb91 | hb91
        · skip
          have hb93 : ((((q66.2 != (0 : Int)) || (q68.2 != (0 : Int))) || (q70.2 != (0 : Int))) || (q72.2 != (0 : Int))) = true := by rw [hb91]; rfl
          skip
          have hb95 : (((((q66.2 != (0 : Int)) || (q68.2 != (0 : Int))) || (q70.2 != (0 : Int))) || (q72.2 != (0 : Int))) || (q66.1 != q68.1)) = true := by rw [hb93]; rfl
          skip
          have hb97 : ((((((q66.2 != (0 : Int)) || (q68.2 != (0 : Int))) || (q70.2 != (0 : Int))) || (q72.2 != (0 : Int))) || (q66.1 != q68.1)) || ((((IntKind.i64.wrap (q66.1 + q70.1))).tmod (4 : Int)) != q72.1)) = true := by rw [hb95]; rfl
          skip
          replace hz96 := ifT hz96 hb97
          replace hz96 := Option.some.inj hz96
          have hb118 : z116 = true := hz96.symm
          skip
          replace hz117 := ifT hz117 hb118
          replace hz117 := Option.some.inj hz117
          refine dr_begin' (fun a w => Fr 225 a [(1, .int .i16 re1), (2, .int .i16 im2), (3, optr v1 0), (7, .int .i64 q3), (8, .int .i64 (ishl .i64 (1 : Int) (IntKind.i64.wrap ((2 : Int) * q3)))), (9, .int .i64 (((IntKind.i64.wrap (((xx0_Tone).tmod (ishl .i64 (1 : Int) (IntKind.i64.wrap ((2 : Int) * q3)))) + (ishl .i64 (1 : Int) (IntKind.i64.wrap ((2 : Int) * q3)))))).tmod (ishl .i64 (1 : Int) (IntKind.i64.wrap ((2 : Int) * q3))))), (10, .int .i64 (((IntKind.i64.wrap (((xx0_Place).tmod (ishl .i64 (1 : Int) (IntKind.i64.wrap ((2 : Int) * q3)))) + (ishl .i64 (1 : Int) (IntKind.i64.wrap ((2 : Int) * q3)))))).tmod (ishl .i64 (1 : Int) (IntKind.i64.wrap ((2 : Int) * q3))))), (11, .complex .f64 bb10 bb12), (13, v25), (15, v29), (19, .int .i64 q65), (21, .int .i64 i21), (216, .bool z137)] ∧ Hp S w0 w (Res.sl Ek.c128 28 v25 q18.1 :: Res.sl Ek.c128 28 v29 q27.1 :: Res.obj 40 v1 [.int .i64 xx0_Power, .int .i64 xx0_Place, .int .i64 xx0_Tone, .int .i64 xx0_By] :: ow)) (fun w' => ∃ l, Hp S79 w w' l) [] (by kernel_rfl) ?_
          refine dr_take 0 (.int .i64 q66.2) rfl (by kernel_rfl) (by kernel_rfl) (by kernel_rfl) (by kernel_rfl) rfl rfl hf (by decide) rfl (fun w hp => ?_) ⟨_, hp⟩ ?_
          · obtain ⟨_, hp⟩ := hp
            refine st_move hf rfl rfl (by decide) ?_
            clear hf; intro a ha hf
            exact st_nil hf (th_n ⟨ha, rfl⟩)
          clear hf; intro a hf
          refine dr_take 1 (.bool (q66.2 != (0 : Int))) rfl (by kernel_rfl) (by kernel_rfl) (by kernel_rfl) (by kernel_rfl) rfl rfl hf (by decide) rfl (fun w hp => ?_) ⟨_, hp⟩ ?_
          · obtain ⟨_, hp⟩ := hp
            refine st_ineq hf (by decide) rfl rfl rfl ?_
            clear hf; intro a ha hf
            exact st_nil hf (th_n ⟨ha, rfl⟩)
          clear hf; intro a hf
          refine dr_take 2 (.bool (q66.2 != (0 : Int))) rfl (by kernel_rfl) (by kernel_rfl) (by kernel_rfl) (by kernel_rfl) rfl rfl hf (by decide) rfl (fun w hp => ?_) ⟨_, hp⟩ ?_
          · obtain ⟨_, hp⟩ := hp
            refine st_move hf rfl rfl (by decide) ?_
            clear hf; intro a ha hf
            exact st_nil hf (th_n ⟨ha, rfl⟩)
          clear hf; intro a hf
          refine dr_take 3 (.int .i64 q68.2) rfl (by kernel_rfl) (by kernel_rfl) (by kernel_rfl) (by kernel_rfl) rfl rfl hf (by decide) (wantY hf rfl rfl hb87) (fun w hp => ?_) ⟨_, hp⟩ ?_
          · obtain ⟨_, hp⟩ := hp
            refine st_move hf (wantY hf rfl rfl hb87) rfl (by decide) ?_
            clear hf; intro a ha hf
            exact st_nil hf (th_n ⟨ha, rfl⟩)
          clear hf; intro a hf
          refine dr_take 4 (.bool (q68.2 != (0 : Int))) rfl (by kernel_rfl) (by kernel_rfl) (by kernel_rfl) (by kernel_rfl) rfl rfl hf (by decide) (wantY hf rfl rfl hb87) (fun w hp => ?_) ⟨_, hp⟩ ?_
          · obtain ⟨_, hp⟩ := hp
            refine st_ineq hf (by decide) (wantY hf rfl rfl hb87) rfl rfl ?_
            clear hf; intro a ha hf
            exact st_nil hf (th_n ⟨ha, rfl⟩)
          clear hf; intro a hf
          refine dr_take 5 (.bool ((q66.2 != (0 : Int)) || (q68.2 != (0 : Int)))) rfl (by kernel_rfl) (by kernel_rfl) (by kernel_rfl) (by kernel_rfl) rfl rfl hf (by decide) rfl (fun w hp => ?_) ⟨_, hp⟩ ?_
          · obtain ⟨_, hp⟩ := hp
            refine st_pick (v := .bool ((q66.2 != (0 : Int)) || (q68.2 != (0 : Int)))) hf rfl rfl (fun hb' => absurd (hb87.symm.trans hb') (by decide)) (fun _ => by rw [show ((q66.2 != (0 : Int)) || (q68.2 != (0 : Int))) = (q68.2 != (0 : Int)) from by rw [hb87]; rfl]; rfl) (by decide) ?_
            clear hf; intro a ha hf
            exact st_nil hf (th_n ⟨ha, rfl⟩)
          clear hf; intro a hf
          refine dr_take 6 (.bool ((q66.2 != (0 : Int)) || (q68.2 != (0 : Int)))) rfl (by kernel_rfl) (by kernel_rfl) (by kernel_rfl) (by kernel_rfl) rfl rfl hf (by decide) rfl (fun w hp => ?_) ⟨_, hp⟩ ?_
          · obtain ⟨_, hp⟩ := hp
            refine st_move hf rfl rfl (by decide) ?_
            clear hf; intro a ha hf
            exact st_nil hf (th_n ⟨ha, rfl⟩)
          clear hf; intro a hf
          refine dr_take 7 (.int .i64 q70.2) rfl (by kernel_rfl) (by kernel_rfl) (by kernel_rfl) (by kernel_rfl) rfl rfl hf (by decide) (wantY hf rfl rfl hb89) (fun w hp => ?_) ⟨_, hp⟩ ?_
          · obtain ⟨_, hp⟩ := hp
            refine st_move hf (wantY hf rfl rfl hb89) rfl (by decide) ?_
            clear hf; intro a ha hf
            exact st_nil hf (th_n ⟨ha, rfl⟩)
          clear hf; intro a hf
          refine dr_take 8 (.bool (q70.2 != (0 : Int))) rfl (by kernel_rfl) (by kernel_rfl) (by kernel_rfl) (by kernel_rfl) rfl rfl hf (by decide) (wantY hf rfl rfl hb89) (fun w hp => ?_) ⟨_, hp⟩ ?_
          · obtain ⟨_, hp⟩ := hp
            refine st_ineq hf (by decide) (wantY hf rfl rfl hb89) rfl rfl ?_
            clear hf; intro a ha hf
            exact st_nil hf (th_n ⟨ha, rfl⟩)
          clear hf; intro a hf
          refine dr_take 9 (.bool (((q66.2 != (0 : Int)) || (q68.2 != (0 : Int))) || (q70.2 != (0 : Int)))) rfl (by kernel_rfl) (by kernel_rfl) (by kernel_rfl) (by kernel_rfl) rfl rfl hf (by decide) rfl (fun w hp => ?_) ⟨_, hp⟩ ?_
          · obtain ⟨_, hp⟩ := hp
            refine st_pick (v := .bool (((q66.2 != (0 : Int)) || (q68.2 != (0 : Int))) || (q70.2 != (0 : Int)))) hf rfl rfl (fun hb' => absurd (hb89.symm.trans hb') (by decide)) (fun _ => by rw [show (((q66.2 != (0 : Int)) || (q68.2 != (0 : Int))) || (q70.2 != (0 : Int))) = (q70.2 != (0 : Int)) from by rw [hb89]; rfl]; rfl) (by decide) ?_
            clear hf; intro a ha hf
            exact st_nil hf (th_n ⟨ha, rfl⟩)
          clear hf; intro a hf
          refine dr_take 10 (.bool (((q66.2 != (0 : Int)) || (q68.2 != (0 : Int))) || (q70.2 != (0 : Int)))) rfl (by kernel_rfl) (by kernel_rfl) (by kernel_rfl) (by kernel_rfl) rfl rfl hf (by decide) rfl (fun w hp => ?_) ⟨_, hp⟩ ?_
          · obtain ⟨_, hp⟩ := hp
            refine st_move hf rfl rfl (by decide) ?_
            clear hf; intro a ha hf
            exact st_nil hf (th_n ⟨ha, rfl⟩)
          clear hf; intro a hf
          refine dr_out 11 rfl (by kernel_rfl) (by kernel_rfl) (by kernel_rfl) (by kernel_rfl) rfl hf (by decide) rfl (wantN hf rfl rfl hb91) ⟨_, hp⟩ ?_
          clear hf; intro a hf
          refine dr_out 12 rfl (by kernel_rfl) (by kernel_rfl) (by kernel_rfl) (by kernel_rfl) rfl hf (by decide) rfl (wantN hf rfl rfl hb91) ⟨_, hp⟩ ?_
          clear hf; intro a hf
          refine dr_take 13 (.bool ((((q66.2 != (0 : Int)) || (q68.2 != (0 : Int))) || (q70.2 != (0 : Int))) || (q72.2 != (0 : Int)))) rfl (by kernel_rfl) (by kernel_rfl) (by kernel_rfl) (by kernel_rfl) rfl rfl hf (by decide) rfl (fun w hp => ?_) ⟨_, hp⟩ ?_
          · obtain ⟨_, hp⟩ := hp
            refine st_pick (v := .bool ((((q66.2 != (0 : Int)) || (q68.2 != (0 : Int))) || (q70.2 != (0 : Int))) || (q72.2 != (0 : Int)))) hf rfl rfl (fun _ => by rw [show ((((q66.2 != (0 : Int)) || (q68.2 != (0 : Int))) || (q70.2 != (0 : Int))) || (q72.2 != (0 : Int))) = true from by rw [hb91]; rfl]; rfl) (fun hb' => absurd (hb91.symm.trans hb') (by decide)) (by decide) ?_
            clear hf; intro a ha hf
            exact st_nil hf (th_n ⟨ha, rfl⟩)
          clear hf; intro a hf
          refine dr_take 14 (.bool ((((q66.2 != (0 : Int)) || (q68.2 != (0 : Int))) || (q70.2 != (0 : Int))) || (q72.2 != (0 : Int)))) rfl (by kernel_rfl) (by kernel_rfl) (by kernel_rfl) (by kernel_rfl) rfl rfl hf (by decide) rfl (fun w hp => ?_) ⟨_, hp⟩ ?_
          · obtain ⟨_, hp⟩ := hp
            refine st_move hf rfl rfl (by decide) ?_
            clear hf; intro a ha hf
            exact st_nil hf (th_n ⟨ha, rfl⟩)
          clear hf; intro a hf
          refine dr_out 15 rfl (by kernel_rfl) (by kernel_rfl) (by kernel_rfl) (by kernel_rfl) rfl hf (by decide) rfl (wantN hf rfl rfl hb93) ⟨_, hp⟩ ?_
          clear hf; intro a hf
          refine dr_out 16 rfl (by kernel_rfl) (by kernel_rfl) (by kernel_rfl) (by kernel_rfl) rfl hf (by decide) rfl (wantN hf rfl rfl hb93) ⟨_, hp⟩ ?_
          clear hf; intro a hf
          refine dr_out 17 rfl (by kernel_rfl) (by kernel_rfl) (by kernel_rfl) (by kernel_rfl) rfl hf (by decide) rfl (wantN hf rfl rfl hb93) ⟨_, hp⟩ ?_
          clear hf; intro a hf
          refine dr_take 18 (.bool (((((q66.2 != (0 : Int)) || (q68.2 != (0 : Int))) || (q70.2 != (0 : Int))) || (q72.2 != (0 : Int))) || (q66.1 != q68.1))) rfl (by kernel_rfl) (by kernel_rfl) (by kernel_rfl) (by kernel_rfl) rfl rfl hf (by decide) rfl (fun w hp => ?_) ⟨_, hp⟩ ?_
          · obtain ⟨_, hp⟩ := hp
            refine st_pick (v := .bool (((((q66.2 != (0 : Int)) || (q68.2 != (0 : Int))) || (q70.2 != (0 : Int))) || (q72.2 != (0 : Int))) || (q66.1 != q68.1))) hf rfl rfl (fun _ => by rw [show (((((q66.2 != (0 : Int)) || (q68.2 != (0 : Int))) || (q70.2 != (0 : Int))) || (q72.2 != (0 : Int))) || (q66.1 != q68.1)) = true from by rw [hb93]; rfl]; rfl) (fun hb' => absurd (hb93.symm.trans hb') (by decide)) (by decide) ?_
            clear hf; intro a ha hf
            exact st_nil hf (th_n ⟨ha, rfl⟩)
          clear hf; intro a hf
          refine dr_take 19 (.bool (((((q66.2 != (0 : Int)) || (q68.2 != (0 : Int))) || (q70.2 != (0 : Int))) || (q72.2 != (0 : Int))) || (q66.1 != q68.1))) rfl (by kernel_rfl) (by kernel_rfl) (by kernel_rfl) (by kernel_rfl) rfl rfl hf (by decide) rfl (fun w hp => ?_) ⟨_, hp⟩ ?_
          · obtain ⟨_, hp⟩ := hp
            refine st_move hf rfl rfl (by decide) ?_
            clear hf; intro a ha hf
            exact st_nil hf (th_n ⟨ha, rfl⟩)
          clear hf; intro a hf
          refine dr_out 20 rfl (by kernel_rfl) (by kernel_rfl) (by kernel_rfl) (by kernel_rfl) rfl hf (by decide) rfl (wantN hf rfl rfl hb95) ⟨_, hp⟩ ?_
          clear hf; intro a hf
          refine dr_out 21 rfl (by kernel_rfl) (by kernel_rfl) (by kernel_rfl) (by kernel_rfl) rfl hf (by decide) rfl (wantN hf rfl rfl hb95) ⟨_, hp⟩ ?_
          clear hf; intro a hf
          refine dr_out 22 rfl (by kernel_rfl) (by kernel_rfl) (by kernel_rfl) (by kernel_rfl) rfl hf (by decide) rfl (wantN hf rfl rfl hb95) ⟨_, hp⟩ ?_
          clear hf; intro a hf
          refine dr_out 23 rfl (by kernel_rfl) (by kernel_rfl) (by kernel_rfl) (by kernel_rfl) rfl hf (by decide) rfl (wantN hf rfl rfl hb95) ⟨_, hp⟩ ?_
          clear hf; intro a hf
          refine dr_out 24 rfl (by kernel_rfl) (by kernel_rfl) (by kernel_rfl) (by kernel_rfl) rfl hf (by decide) rfl (wantN hf rfl rfl hb95) ⟨_, hp⟩ ?_
          clear hf; intro a hf
          refine dr_out 25 rfl (by kernel_rfl) (by kernel_rfl) (by kernel_rfl) (by kernel_rfl) rfl hf (by decide) rfl (wantN hf rfl rfl hb95) ⟨_, hp⟩ ?_
          clear hf; intro a hf
          refine dr_take 26 (.bool ((((((q66.2 != (0 : Int)) || (q68.2 != (0 : Int))) || (q70.2 != (0 : Int))) || (q72.2 != (0 : Int))) || (q66.1 != q68.1)) || ((((IntKind.i64.wrap (q66.1 + q70.1))).tmod (4 : Int)) != q72.1))) rfl (by kernel_rfl) (by kernel_rfl) (by kernel_rfl) (by kernel_rfl) rfl rfl hf (by decide) rfl (fun w hp => ?_) ⟨_, hp⟩ ?_
          · obtain ⟨_, hp⟩ := hp
            refine st_pick (v := .bool ((((((q66.2 != (0 : Int)) || (q68.2 != (0 : Int))) || (q70.2 != (0 : Int))) || (q72.2 != (0 : Int))) || (q66.1 != q68.1)) || ((((IntKind.i64.wrap (q66.1 + q70.1))).tmod (4 : Int)) != q72.1))) hf rfl rfl (fun _ => by rw [show ((((((q66.2 != (0 : Int)) || (q68.2 != (0 : Int))) || (q70.2 != (0 : Int))) || (q72.2 != (0 : Int))) || (q66.1 != q68.1)) || ((((IntKind.i64.wrap (q66.1 + q70.1))).tmod (4 : Int)) != q72.1)) = true from by rw [hb95]; rfl]; rfl) (fun hb' => absurd (hb95.symm.trans hb') (by decide)) (by decide) ?_
            clear hf; intro a ha hf
            exact st_nil hf (th_n ⟨ha, rfl⟩)
          clear hf; intro a hf
          refine dr_take 27 (.bool ((((((q66.2 != (0 : Int)) || (q68.2 != (0 : Int))) || (q70.2 != (0 : Int))) || (q72.2 != (0 : Int))) || (q66.1 != q68.1)) || ((((IntKind.i64.wrap (q66.1 + q70.1))).tmod (4 : Int)) != q72.1))) rfl (by kernel_rfl) (by kernel_rfl) (by kernel_rfl) (by kernel_rfl) rfl rfl hf (by decide) rfl (fun w hp => ?_) ⟨_, hp⟩ ?_
          · obtain ⟨_, hp⟩ := hp
            refine st_move hf rfl rfl (by decide) ?_
            clear hf; intro a ha hf
            exact st_nil hf (th_n ⟨ha, rfl⟩)
          clear hf; intro a hf
          refine dr_out 28 rfl (by kernel_rfl) (by kernel_rfl) (by kernel_rfl) (by kernel_rfl) rfl hf (by decide) rfl (wantN hf rfl rfl hb97) ⟨_, hp⟩ ?_
          clear hf; intro a hf
          refine dr_out 29 rfl (by kernel_rfl) (by kernel_rfl) (by kernel_rfl) (by kernel_rfl) rfl hf (by decide) rfl (wantN hf rfl rfl hb97) ⟨_, hp⟩ ?_
          clear hf; intro a hf
          refine dr_out 30 rfl (by kernel_rfl) (by kernel_rfl) (by kernel_rfl) (by kernel_rfl) rfl hf (by decide) rfl (wantN hf rfl rfl hb97) ⟨_, hp⟩ ?_
          clear hf; intro a hf
          refine dr_out 31 rfl (by kernel_rfl) (by kernel_rfl) (by kernel_rfl) (by kernel_rfl) rfl hf (by decide) rfl (wantN hf rfl rfl hb97) ⟨_, hp⟩ ?_
          clear hf; intro a hf
          refine dr_out 32 rfl (by kernel_rfl) (by kernel_rfl) (by kernel_rfl) (by kernel_rfl) rfl hf (by decide) rfl (wantN hf rfl rfl hb97) ⟨_, hp⟩ ?_
          clear hf; intro a hf
          refine dr_out 33 rfl (by kernel_rfl) (by kernel_rfl) (by kernel_rfl) (by kernel_rfl) rfl hf (by decide) rfl (wantN hf rfl rfl hb97) ⟨_, hp⟩ ?_
          clear hf; intro a hf
          refine dr_out 34 rfl (by kernel_rfl) (by kernel_rfl) (by kernel_rfl) (by kernel_rfl) rfl hf (by decide) rfl (wantN hf rfl rfl hb97) ⟨_, hp⟩ ?_
          clear hf; intro a hf
          refine dr_out 35 rfl (by kernel_rfl) (by kernel_rfl) (by kernel_rfl) (by kernel_rfl) rfl hf (by decide) rfl (wantN hf rfl rfl hb97) ⟨_, hp⟩ ?_
          clear hf; intro a hf
          refine dr_out 36 rfl (by kernel_rfl) (by kernel_rfl) (by kernel_rfl) (by kernel_rfl) rfl hf (by decide) rfl (wantN hf rfl rfl hb97) ⟨_, hp⟩ ?_
          clear hf; intro a hf
          refine dr_out 37 rfl (by kernel_rfl) (by kernel_rfl) (by kernel_rfl) (by kernel_rfl) rfl hf (by decide) rfl (wantN hf rfl rfl hb97) ⟨_, hp⟩ ?_
          clear hf; intro a hf
          refine dr_out 38 rfl (by kernel_rfl) (by kernel_rfl) (by kernel_rfl) (by kernel_rfl) rfl hf (by decide) rfl (wantN hf rfl rfl hb97) ⟨_, hp⟩ ?_
          clear hf; intro a hf
          refine dr_take 39 (.bool z116) rfl (by kernel_rfl) (by kernel_rfl) (by kernel_rfl) (by kernel_rfl) rfl rfl hf (by decide) rfl (fun w hp => ?_) ⟨_, hp⟩ ?_
          · obtain ⟨_, hp⟩ := hp
            refine st_pick (v := .bool z116) hf rfl rfl (fun _ => by rw [← hz96]; rfl) (fun hb' => absurd (hb97.symm.trans hb') (by decide)) (by decide) ?_
            clear hf; intro a ha hf
            exact st_nil hf (th_n ⟨ha, rfl⟩)
          clear hf; intro a hf
          refine dr_take 40 (.bool z116) rfl (by kernel_rfl) (by kernel_rfl) (by kernel_rfl) (by kernel_rfl) rfl rfl hf (by decide) rfl (fun w hp => ?_) ⟨_, hp⟩ ?_
          · obtain ⟨_, hp⟩ := hp
            refine st_move hf rfl rfl (by decide) ?_
            clear hf; intro a ha hf
            exact st_nil hf (th_n ⟨ha, rfl⟩)
          clear hf; intro a hf
          refine dr_out 41 rfl (by kernel_rfl) (by kernel_rfl) (by kernel_rfl) (by kernel_rfl) rfl hf (by decide) rfl (wantN hf rfl rfl hb118) ⟨_, hp⟩ ?_
          clear hf; intro a hf
          refine dr_out 42 rfl (by kernel_rfl) (by kernel_rfl) (by kernel_rfl) (by kernel_rfl) rfl hf (by decide) rfl (wantN hf rfl rfl hb118) ⟨_, hp⟩ ?_
          clear hf; intro a hf
          refine dr_out 43 rfl (by kernel_rfl) (by kernel_rfl) (by kernel_rfl) (by kernel_rfl) rfl hf (by decide) rfl (wantN hf rfl rfl hb118) ⟨_, hp⟩ ?_
          clear hf; intro a hf
          refine dr_out 44 rfl (by kernel_rfl) (by kernel_rfl) (by kernel_rfl) (by kernel_rfl) rfl hf (by decide) rfl (wantN hf rfl rfl hb118) ⟨_, hp⟩ ?_
          clear hf; intro a hf
          refine dr_out 45 rfl (by kernel_rfl) (by kernel_rfl) (by kernel_rfl) (by kernel_rfl) rfl hf (by decide) rfl (wantN hf rfl rfl hb118) ⟨_, hp⟩ ?_
          clear hf; intro a hf
          refine dr_out 46 rfl (by kernel_rfl) (by kernel_rfl) (by kernel_rfl) (by kernel_rfl) rfl hf (by decide) rfl (wantN hf rfl rfl hb118) ⟨_, hp⟩ ?_
          clear hf; intro a hf
          refine dr_out 47 rfl (by kernel_rfl) (by kernel_rfl) (by kernel_rfl) (by kernel_rfl) rfl hf (by decide) rfl (wantN hf rfl rfl hb118) ⟨_, hp⟩ ?_
          clear hf; intro a hf
          refine dr_out 48 rfl (by kernel_rfl) (by kernel_rfl) (by kernel_rfl) (by kernel_rfl) rfl hf (by decide) rfl (wantN hf rfl rfl hb118) ⟨_, hp⟩ ?_
          clear hf; intro a hf
          refine dr_out 49 rfl (by kernel_rfl) (by kernel_rfl) (by kernel_rfl) (by kernel_rfl) rfl hf (by decide) rfl (wantN hf rfl rfl hb118) ⟨_, hp⟩ ?_
          clear hf; intro a hf
          refine dr_out 50 rfl (by kernel_rfl) (by kernel_rfl) (by kernel_rfl) (by kernel_rfl) rfl hf (by decide) rfl (wantN hf rfl rfl hb118) ⟨_, hp⟩ ?_
          clear hf; intro a hf
          refine dr_take 51 (.bool z137) rfl (by kernel_rfl) (by kernel_rfl) (by kernel_rfl) (by kernel_rfl) rfl rfl hf (by decide) rfl (fun w hp => ?_) ⟨_, hp⟩ ?_
          · obtain ⟨_, hp⟩ := hp
            refine st_pick (v := .bool z137) hf rfl rfl (fun _ => by rw [← hz117]; rfl) (fun hb' => absurd (hb118.symm.trans hb') (by decide)) (by decide) ?_
            clear hf; intro a ha hf
            exact st_nil hf (th_n ⟨ha, rfl⟩)
          clear hf; intro a hf
          refine dr_end (by kernel_rfl) ?_ _
          have hp := bk83 _ _ hp
          have hp := bk78 _ _ hp
          exact ⟨hf.sub ⟨rfl, rfl, rfl, rfl, rfl, rfl, rfl, rfl, rfl, rfl, rfl, rfl, rfl, trivial⟩, hp⟩
        skip
        rcases Bool.eq_false_or_eq_true ((((q66.2 != (0 : Int)) || (q68.2 != (0 : Int))) || (q70.2 != (0 : Int))) || (q72.2 != (0 : Int))) with hb93 | hb93
        · skip
          have hb95 : (((((q66.2 != (0 : Int)) || (q68.2 != (0 : Int))) || (q70.2 != (0 : Int))) || (q72.2 != (0 : Int))) || (q66.1 != q68.1)) = true := by rw [hb93]; rfl
          skip
          have hb97 : ((((((q66.2 != (0 : Int)) || (q68.2 != (0 : Int))) || (q70.2 != (0 : Int))) || (q72.2 != (0 : Int))) || (q66.1 != q68.1)) || ((((IntKind.i64.wrap (q66.1 + q70.1))).tmod (4 : Int)) != q72.1)) = true := by rw [hb95]; rfl
          skip
          replace hz96 := ifT hz96 hb97
          replace hz96 := Option.some.inj hz96
          have hb118 : z116 = true := hz96.symm
          skip
          replace hz117 := ifT hz117 hb118
          replace hz117 := Option.some.inj hz117
          refine dr_begin' (fun a w => Fr 225 a [(1, .int .i16 re1), (2, .int .i16 im2), (3, optr v1 0), (7, .int .i64 q3), (8, .int .i64 (ishl .i64 (1 : Int) (IntKind.i64.wrap ((2 : Int) * q3)))), (9, .int .i64 (((IntKind.i64.wrap (((xx0_Tone).tmod (ishl .i64 (1 : Int) (IntKind.i64.wrap ((2 : Int) * q3)))) + (ishl .i64 (1 : Int) (IntKind.i64.wrap ((2 : Int) * q3)))))).tmod (ishl .i64 (1 : Int) (IntKind.i64.wrap ((2 : Int) * q3))))), (10, .int .i64 (((IntKind.i64.wrap (((xx0_Place).tmod (ishl .i64 (1 : Int) (IntKind.i64.wrap ((2 : Int) * q3)))) + (ishl .i64 (1 : Int) (IntKind.i64.wrap ((2 : Int) * q3)))))).tmod (ishl .i64 (1 : Int) (IntKind.i64.wrap ((2 : Int) * q3))))), (11, .complex .f64 bb10 bb12), (13, v25), (15, v29), (19, .int .i64 q65), (21, .int .i64 i21), (216, .bool z137)] ∧ Hp S w0 w (Res.sl Ek.c128 28 v25 q18.1 :: Res.sl Ek.c128 28 v29 q27.1 :: Res.obj 40 v1 [.int .i64 xx0_Power, .int .i64 xx0_Place, .int .i64 xx0_Tone, .int .i64 xx0_By] :: ow)) (fun w' => ∃ l, Hp S79 w w' l) [] (by kernel_rfl) ?_
          refine dr_take 0 (.int .i64 q66.2) rfl (by kernel_rfl) (by kernel_rfl) (by kernel_rfl) (by kernel_rfl) rfl rfl hf (by decide) rfl (fun w hp => ?_) ⟨_, hp⟩ ?_
          · obtain ⟨_, hp⟩ := hp
            refine st_move hf rfl rfl (by decide) ?_
            clear hf; intro a ha hf
            exact st_nil hf (th_n ⟨ha, rfl⟩)
          clear hf; intro a hf
          refine dr_take 1 (.bool (q66.2 != (0 : Int))) rfl (by kernel_rfl) (by kernel_rfl) (by kernel_rfl) (by kernel_rfl) rfl rfl hf (by decide) rfl (fun w hp => ?_) ⟨_, hp⟩ ?_
          · obtain ⟨_, hp⟩ := hp
            refine st_ineq hf (by decide) rfl rfl rfl ?_
            clear hf; intro a ha hf
            exact st_nil hf (th_n ⟨ha, rfl⟩)
          clear hf; intro a hf
          refine dr_take 2 (.bool (q66.2 != (0 : Int))) rfl (by kernel_rfl) (by kernel_rfl) (by kernel_rfl) (by kernel_rfl) rfl rfl hf (by decide) rfl (fun w hp => ?_) ⟨_, hp⟩ ?_
          · obtain ⟨_, hp⟩ := hp
            refine st_move hf rfl rfl (by decide) ?_
            clear hf; intro a ha hf
            exact st_nil hf (th_n ⟨ha, rfl⟩)
          clear hf; intro a hf
          refine dr_take 3 (.int .i64 q68.2) rfl (by kernel_rfl) (by kernel_rfl) (by kernel_rfl) (by kernel_rfl) rfl rfl hf (by decide) (wantY hf rfl rfl hb87) (fun w hp => ?_) ⟨_, hp⟩ ?_
          · obtain ⟨_, hp⟩ := hp
            refine st_move hf (wantY hf rfl rfl hb87) rfl (by decide) ?_
            clear hf; intro a ha hf
            exact st_nil hf (th_n ⟨ha, rfl⟩)
          clear hf; intro a hf
          refine dr_take 4 (.bool (q68.2 != (0 : Int))) rfl (by kernel_rfl) (by kernel_rfl) (by kernel_rfl) (by kernel_rfl) rfl rfl hf (by decide) (wantY hf rfl rfl hb87) (fun w hp => ?_) ⟨_, hp⟩ ?_
          · obtain ⟨_, hp⟩ := hp
            refine st_ineq hf (by decide) (wantY hf rfl rfl hb87) rfl rfl ?_
            clear hf; intro a ha hf
            exact st_nil hf (th_n ⟨ha, rfl⟩)
          clear hf; intro a hf
          refine dr_take 5 (.bool ((q66.2 != (0 : Int)) || (q68.2 != (0 : Int)))) rfl (by kernel_rfl) (by kernel_rfl) (by kernel_rfl) (by kernel_rfl) rfl rfl hf (by decide) rfl (fun w hp => ?_) ⟨_, hp⟩ ?_
          · obtain ⟨_, hp⟩ := hp
            refine st_pick (v := .bool ((q66.2 != (0 : Int)) || (q68.2 != (0 : Int)))) hf rfl rfl (fun hb' => absurd (hb87.symm.trans hb') (by decide)) (fun _ => by rw [show ((q66.2 != (0 : Int)) || (q68.2 != (0 : Int))) = (q68.2 != (0 : Int)) from by rw [hb87]; rfl]; rfl) (by decide) ?_
            clear hf; intro a ha hf
            exact st_nil hf (th_n ⟨ha, rfl⟩)
          clear hf; intro a hf
          refine dr_take 6 (.bool ((q66.2 != (0 : Int)) || (q68.2 != (0 : Int)))) rfl (by kernel_rfl) (by kernel_rfl) (by kernel_rfl) (by kernel_rfl) rfl rfl hf (by decide) rfl (fun w hp => ?_) ⟨_, hp⟩ ?_
          · obtain ⟨_, hp⟩ := hp
            refine st_move hf rfl rfl (by decide) ?_
            clear hf; intro a ha hf
            exact st_nil hf (th_n ⟨ha, rfl⟩)
          clear hf; intro a hf
          refine dr_take 7 (.int .i64 q70.2) rfl (by kernel_rfl) (by kernel_rfl) (by kernel_rfl) (by kernel_rfl) rfl rfl hf (by decide) (wantY hf rfl rfl hb89) (fun w hp => ?_) ⟨_, hp⟩ ?_
          · obtain ⟨_, hp⟩ := hp
            refine st_move hf (wantY hf rfl rfl hb89) rfl (by decide) ?_
            clear hf; intro a ha hf
            exact st_nil hf (th_n ⟨ha, rfl⟩)
          clear hf; intro a hf
          refine dr_take 8 (.bool (q70.2 != (0 : Int))) rfl (by kernel_rfl) (by kernel_rfl) (by kernel_rfl) (by kernel_rfl) rfl rfl hf (by decide) (wantY hf rfl rfl hb89) (fun w hp => ?_) ⟨_, hp⟩ ?_
          · obtain ⟨_, hp⟩ := hp
            refine st_ineq hf (by decide) (wantY hf rfl rfl hb89) rfl rfl ?_
            clear hf; intro a ha hf
            exact st_nil hf (th_n ⟨ha, rfl⟩)
          clear hf; intro a hf
          refine dr_take 9 (.bool (((q66.2 != (0 : Int)) || (q68.2 != (0 : Int))) || (q70.2 != (0 : Int)))) rfl (by kernel_rfl) (by kernel_rfl) (by kernel_rfl) (by kernel_rfl) rfl rfl hf (by decide) rfl (fun w hp => ?_) ⟨_, hp⟩ ?_
          · obtain ⟨_, hp⟩ := hp
            refine st_pick (v := .bool (((q66.2 != (0 : Int)) || (q68.2 != (0 : Int))) || (q70.2 != (0 : Int)))) hf rfl rfl (fun hb' => absurd (hb89.symm.trans hb') (by decide)) (fun _ => by rw [show (((q66.2 != (0 : Int)) || (q68.2 != (0 : Int))) || (q70.2 != (0 : Int))) = (q70.2 != (0 : Int)) from by rw [hb89]; rfl]; rfl) (by decide) ?_
            clear hf; intro a ha hf
            exact st_nil hf (th_n ⟨ha, rfl⟩)
          clear hf; intro a hf
          refine dr_take 10 (.bool (((q66.2 != (0 : Int)) || (q68.2 != (0 : Int))) || (q70.2 != (0 : Int)))) rfl (by kernel_rfl) (by kernel_rfl) (by kernel_rfl) (by kernel_rfl) rfl rfl hf (by decide) rfl (fun w hp => ?_) ⟨_, hp⟩ ?_
          · obtain ⟨_, hp⟩ := hp
            refine st_move hf rfl rfl (by decide) ?_
            clear hf; intro a ha hf
            exact st_nil hf (th_n ⟨ha, rfl⟩)
          clear hf; intro a hf
          refine dr_take 11 (.int .i64 q72.2) rfl (by kernel_rfl) (by kernel_rfl) (by kernel_rfl) (by kernel_rfl) rfl rfl hf (by decide) (wantY hf rfl rfl hb91) (fun w hp => ?_) ⟨_, hp⟩ ?_
          · obtain ⟨_, hp⟩ := hp
            refine st_move hf (wantY hf rfl rfl hb91) rfl (by decide) ?_
            clear hf; intro a ha hf
            exact st_nil hf (th_n ⟨ha, rfl⟩)
          clear hf; intro a hf
          refine dr_take 12 (.bool (q72.2 != (0 : Int))) rfl (by kernel_rfl) (by kernel_rfl) (by kernel_rfl) (by kernel_rfl) rfl rfl hf (by decide) (wantY hf rfl rfl hb91) (fun w hp => ?_) ⟨_, hp⟩ ?_
          · obtain ⟨_, hp⟩ := hp
            refine st_ineq hf (by decide) (wantY hf rfl rfl hb91) rfl rfl ?_
            clear hf; intro a ha hf
            exact st_nil hf (th_n ⟨ha, rfl⟩)
          clear hf; intro a hf
          refine dr_take 13 (.bool ((((q66.2 != (0 : Int)) || (q68.2 != (0 : Int))) || (q70.2 != (0 : Int))) || (q72.2 != (0 : Int)))) rfl (by kernel_rfl) (by kernel_rfl) (by kernel_rfl) (by kernel_rfl) rfl rfl hf (by decide) rfl (fun w hp => ?_) ⟨_, hp⟩ ?_
          · obtain ⟨_, hp⟩ := hp
            refine st_pick (v := .bool ((((q66.2 != (0 : Int)) || (q68.2 != (0 : Int))) || (q70.2 != (0 : Int))) || (q72.2 != (0 : Int)))) hf rfl rfl (fun hb' => absurd (hb91.symm.trans hb') (by decide)) (fun _ => by rw [show ((((q66.2 != (0 : Int)) || (q68.2 != (0 : Int))) || (q70.2 != (0 : Int))) || (q72.2 != (0 : Int))) = (q72.2 != (0 : Int)) from by rw [hb91]; rfl]; rfl) (by decide) ?_
            clear hf; intro a ha hf
            exact st_nil hf (th_n ⟨ha, rfl⟩)
          clear hf; intro a hf
          refine dr_take 14 (.bool ((((q66.2 != (0 : Int)) || (q68.2 != (0 : Int))) || (q70.2 != (0 : Int))) || (q72.2 != (0 : Int)))) rfl (by kernel_rfl) (by kernel_rfl) (by kernel_rfl) (by kernel_rfl) rfl rfl hf (by decide) rfl (fun w hp => ?_) ⟨_, hp⟩ ?_
          · obtain ⟨_, hp⟩ := hp
            refine st_move hf rfl rfl (by decide) ?_
            clear hf; intro a ha hf
            exact st_nil hf (th_n ⟨ha, rfl⟩)
          clear hf; intro a hf
          refine dr_out 15 rfl (by kernel_rfl) (by kernel_rfl) (by kernel_rfl) (by kernel_rfl) rfl hf (by decide) rfl (wantN hf rfl rfl hb93) ⟨_, hp⟩ ?_
          clear hf; intro a hf
          refine dr_out 16 rfl (by kernel_rfl) (by kernel_rfl) (by kernel_rfl) (by kernel_rfl) rfl hf (by decide) rfl (wantN hf rfl rfl hb93) ⟨_, hp⟩ ?_
          clear hf; intro a hf
          refine dr_out 17 rfl (by kernel_rfl) (by kernel_rfl) (by kernel_rfl) (by kernel_rfl) rfl hf (by decide) rfl (wantN hf rfl rfl hb93) ⟨_, hp⟩ ?_
          clear hf; intro a hf
          refine dr_take 18 (.bool (((((q66.2 != (0 : Int)) || (q68.2 != (0 : Int))) || (q70.2 != (0 : Int))) || (q72.2 != (0 : Int))) || (q66.1 != q68.1))) rfl (by kernel_rfl) (by kernel_rfl) (by kernel_rfl) (by kernel_rfl) rfl rfl hf (by decide) rfl (fun w hp => ?_) ⟨_, hp⟩ ?_
          · obtain ⟨_, hp⟩ := hp
            refine st_pick (v := .bool (((((q66.2 != (0 : Int)) || (q68.2 != (0 : Int))) || (q70.2 != (0 : Int))) || (q72.2 != (0 : Int))) || (q66.1 != q68.1))) hf rfl rfl (fun _ => by rw [show (((((q66.2 != (0 : Int)) || (q68.2 != (0 : Int))) || (q70.2 != (0 : Int))) || (q72.2 != (0 : Int))) || (q66.1 != q68.1)) = true from by rw [hb93]; rfl]; rfl) (fun hb' => absurd (hb93.symm.trans hb') (by decide)) (by decide) ?_
            clear hf; intro a ha hf
            exact st_nil hf (th_n ⟨ha, rfl⟩)
          clear hf; intro a hf
          refine dr_take 19 (.bool (((((q66.2 != (0 : Int)) || (q68.2 != (0 : Int))) || (q70.2 != (0 : Int))) || (q72.2 != (0 : Int))) || (q66.1 != q68.1))) rfl (by kernel_rfl) (by kernel_rfl) (by kernel_rfl) (by kernel_rfl) rfl rfl hf (by decide) rfl (fun w hp => ?_) ⟨_, hp⟩ ?_
          · obtain ⟨_, hp⟩ := hp
            refine st_move hf rfl rfl (by decide) ?_
            clear hf; intro a ha hf
            exact st_nil hf (th_n ⟨ha, rfl⟩)
          clear hf; intro a hf
          refine dr_out 20 rfl (by kernel_rfl) (by kernel_rfl) (by kernel_rfl) (by kernel_rfl) rfl hf (by decide) rfl (wantN hf rfl rfl hb95) ⟨_, hp⟩ ?_
          clear hf; intro a hf
          refine dr_out 21 rfl (by kernel_rfl) (by kernel_rfl) (by kernel_rfl) (by kernel_rfl) rfl hf (by decide) rfl (wantN hf rfl rfl hb95) ⟨_, hp⟩ ?_
          clear hf; intro a hf
          refine dr_out 22 rfl (by kernel_rfl) (by kernel_rfl) (by kernel_rfl) (by kernel_rfl) rfl hf (by decide) rfl (wantN hf rfl rfl hb95) ⟨_, hp⟩ ?_
          clear hf; intro a hf
          refine dr_out 23 rfl (by kernel_rfl) (by kernel_rfl) (by kernel_rfl) (by kernel_rfl) rfl hf (by decide) rfl (wantN hf rfl rfl hb95) ⟨_, hp⟩ ?_
          clear hf; intro a hf
          refine dr_out 24 rfl (by kernel_rfl) (by kernel_rfl) (by kernel_rfl) (by kernel_rfl) rfl hf (by decide) rfl (wantN hf rfl rfl hb95) ⟨_, hp⟩ ?_
          clear hf; intro a hf
          refine dr_out 25 rfl (by kernel_rfl) (by kernel_rfl) (by kernel_rfl) (by kernel_rfl) rfl hf (by decide) rfl (wantN hf rfl rfl hb95) ⟨_, hp⟩ ?_
          clear hf; intro a hf
          refine dr_take 26 (.bool ((((((q66.2 != (0 : Int)) || (q68.2 != (0 : Int))) || (q70.2 != (0 : Int))) || (q72.2 != (0 : Int))) || (q66.1 != q68.1)) || ((((IntKind.i64.wrap (q66.1 + q70.1))).tmod (4 : Int)) != q72.1))) rfl (by kernel_rfl) (by kernel_rfl) (by kernel_rfl) (by kernel_rfl) rfl rfl hf (by decide) rfl (fun w hp => ?_) ⟨_, hp⟩ ?_
          · obtain ⟨_, hp⟩ := hp
            refine st_pick (v := .bool ((((((q66.2 != (0 : Int)) || (q68.2 != (0 : Int))) || (q70.2 != (0 : Int))) || (q72.2 != (0 : Int))) || (q66.1 != q68.1)) || ((((IntKind.i64.wrap (q66.1 + q70.1))).tmod (4 : Int)) != q72.1))) hf rfl rfl (fun _ => by rw [show ((((((q66.2 != (0 : Int)) || (q68.2 != (0 : Int))) || (q70.2 != (0 : Int))) || (q72.2 != (0 : Int))) || (q66.1 != q68.1)) || ((((IntKind.i64.wrap (q66.1 + q70.1))).tmod (4 : Int)) != q72.1)) = true from by rw [hb95]; rfl]; rfl) (fun hb' => absurd (hb95.symm.trans hb') (by decide)) (by decide) ?_
            clear hf; intro a ha hf
            exact st_nil hf (th_n ⟨ha, rfl⟩)
          clear hf; intro a hf
          refine dr_take 27 (.bool ((((((q66.2 != (0 : Int)) || (q68.2 != (0 : Int))) || (q70.2 != (0 : Int))) || (q72.2 != (0 : Int))) || (q66.1 != q68.1)) || ((((IntKind.i64.wrap (q66.1 + q70.1))).tmod (4 : Int)) != q72.1))) rfl (by kernel_rfl) (by kernel_rfl) (by kernel_rfl) (by kernel_rfl) rfl rfl hf (by decide) rfl (fun w hp => ?_) ⟨_, hp⟩ ?_
          · obtain ⟨_, hp⟩ := hp
            refine st_move hf rfl rfl (by decide) ?_
            clear hf; intro a ha hf
            exact st_nil hf (th_n ⟨ha, rfl⟩)
          clear hf; intro a hf
          refine dr_out 28 rfl (by kernel_rfl) (by kernel_rfl) (by kernel_rfl) (by kernel_rfl) rfl hf (by decide) rfl (wantN hf rfl rfl hb97) ⟨_, hp⟩ ?_
          clear hf; intro a hf
          refine dr_out 29 rfl (by kernel_rfl) (by kernel_rfl) (by kernel_rfl) (by kernel_rfl) rfl hf (by decide) rfl (wantN hf rfl rfl hb97) ⟨_, hp⟩ ?_
          clear hf; intro a hf
          refine dr_out 30 rfl (by kernel_rfl) (by kernel_rfl) (by kernel_rfl) (by kernel_rfl) rfl hf (by decide) rfl (wantN hf rfl rfl hb97) ⟨_, hp⟩ ?_
          clear hf; intro a hf
          refine dr_out 31 rfl (by kernel_rfl) (by kernel_rfl) (by kernel_rfl) (by kernel_rfl) rfl hf (by decide) rfl (wantN hf rfl rfl hb97) ⟨_, hp⟩ ?_
          clear hf; intro a hf
          refine dr_out 32 rfl (by kernel_rfl) (by kernel_rfl) (by kernel_rfl) (by kernel_rfl) rfl hf (by decide) rfl (wantN hf rfl rfl hb97) ⟨_, hp⟩ ?_
          clear hf; intro a hf
          refine dr_out 33 rfl (by kernel_rfl) (by kernel_rfl) (by kernel_rfl) (by kernel_rfl) rfl hf (by decide) rfl (wantN hf rfl rfl hb97) ⟨_, hp⟩ ?_
          clear hf; intro a hf
          refine dr_out 34 rfl (by kernel_rfl) (by kernel_rfl) (by kernel_rfl) (by kernel_rfl) rfl hf (by decide) rfl (wantN hf rfl rfl hb97) ⟨_, hp⟩ ?_
          clear hf; intro a hf
          refine dr_out 35 rfl (by kernel_rfl) (by kernel_rfl) (by kernel_rfl) (by kernel_rfl) rfl hf (by decide) rfl (wantN hf rfl rfl hb97) ⟨_, hp⟩ ?_
          clear hf; intro a hf
          refine dr_out 36 rfl (by kernel_rfl) (by kernel_rfl) (by kernel_rfl) (by kernel_rfl) rfl hf (by decide) rfl (wantN hf rfl rfl hb97) ⟨_, hp⟩ ?_
          clear hf; intro a hf
          refine dr_out 37 rfl (by kernel_rfl) (by kernel_rfl) (by kernel_rfl) (by kernel_rfl) rfl hf (by decide) rfl (wantN hf rfl rfl hb97) ⟨_, hp⟩ ?_
          clear hf; intro a hf
          refine dr_out 38 rfl (by kernel_rfl) (by kernel_rfl) (by kernel_rfl) (by kernel_rfl) rfl hf (by decide) rfl (wantN hf rfl rfl hb97) ⟨_, hp⟩ ?_
          clear hf; intro a hf
          refine dr_take 39 (.bool z116) rfl (by kernel_rfl) (by kernel_rfl) (by kernel_rfl) (by kernel_rfl) rfl rfl hf (by decide) rfl (fun w hp => ?_) ⟨_, hp⟩ ?_
          · obtain ⟨_, hp⟩ := hp
            refine st_pick (v := .bool z116) hf rfl rfl (fun _ => by rw [← hz96]; rfl) (fun hb' => absurd (hb97.symm.trans hb') (by decide)) (by decide) ?_
            clear hf; intro a ha hf
            exact st_nil hf (th_n ⟨ha, rfl⟩)
          clear hf; intro a hf
          refine dr_take 40 (.bool z116) rfl (by kernel_rfl) (by kernel_rfl) (by kernel_rfl) (by kernel_rfl) rfl rfl hf (by decide) rfl (fun w hp => ?_) ⟨_, hp⟩ ?_
          · obtain ⟨_, hp⟩ := hp
            refine st_move hf rfl rfl (by decide) ?_
            clear hf; intro a ha hf
            exact st_nil hf (th_n ⟨ha, rfl⟩)
          clear hf; intro a hf
          refine dr_out 41 rfl (by kernel_rfl) (by kernel_rfl) (by kernel_rfl) (by kernel_rfl) rfl hf (by decide) rfl (wantN hf rfl rfl hb118) ⟨_, hp⟩ ?_
          clear hf; intro a hf
          refine dr_out 42 rfl (by kernel_rfl) (by kernel_rfl) (by kernel_rfl) (by kernel_rfl) rfl hf (by decide) rfl (wantN hf rfl rfl hb118) ⟨_, hp⟩ ?_
          clear hf; intro a hf
          refine dr_out 43 rfl (by kernel_rfl) (by kernel_rfl) (by kernel_rfl) (by kernel_rfl) rfl hf (by decide) rfl (wantN hf rfl rfl hb118) ⟨_, hp⟩ ?_
          clear hf; intro a hf
          refine dr_out 44 rfl (by kernel_rfl) (by kernel_rfl) (by kernel_rfl) (by kernel_rfl) rfl hf (by decide) rfl (wantN hf rfl rfl hb118) ⟨_, hp⟩ ?_
          clear hf; intro a hf
          refine dr_out 45 rfl (by kernel_rfl) (by kernel_rfl) (by kernel_rfl) (by kernel_rfl) rfl hf (by decide) rfl (wantN hf rfl rfl hb118) ⟨_, hp⟩ ?_
          clear hf; intro a hf
          refine dr_out 46 rfl (by kernel_rfl) (by kernel_rfl) (by kernel_rfl) (by kernel_rfl) rfl hf (by decide) rfl (wantN hf rfl rfl hb118) ⟨_, hp⟩ ?_
          clear hf; intro a hf
          refine dr_out 47 rfl (by kernel_rfl) (by kernel_rfl) (by kernel_rfl) (by kernel_rfl) rfl hf (by decide) rfl (wantN hf rfl rfl hb118) ⟨_, hp⟩ ?_
          clear hf; intro a hf
          refine dr_out 48 rfl (by kernel_rfl) (by kernel_rfl) (by kernel_rfl) (by kernel_rfl) rfl hf (by decide) rfl (wantN hf rfl rfl hb118) ⟨_, hp⟩ ?_
          clear hf; intro a hf
          refine dr_out 49 rfl (by kernel_rfl) (by kernel_rfl) (by kernel_rfl) (by kernel_rfl) rfl hf (by decide) rfl (wantN hf rfl rfl hb118) ⟨_, hp⟩ ?_
          clear hf; intro a hf
          refine dr_out 50 rfl (by kernel_rfl) (by kernel_rfl) (by kernel_rfl) (by kernel_rfl) rfl hf (by decide) rfl (wantN hf rfl rfl hb118) ⟨_, hp⟩ ?_
          clear hf; intro a hf
          refine dr_take 51 (.bool z137) rfl (by kernel_rfl) (by kernel_rfl) (by kernel_rfl) (by kernel_rfl) rfl rfl hf (by decide) rfl (fun w hp => ?_) ⟨_, hp⟩ ?_
          · obtain ⟨_, hp⟩ := hp
            refine st_pick (v := .bool z137) hf rfl rfl (fun _ => by rw [← hz117]; rfl) (fun hb' => absurd (hb118.symm.trans hb') (by decide)) (by decide) ?_
            clear hf; intro a ha hf
            exact st_nil hf (th_n ⟨ha, rfl⟩)
          clear hf; intro a hf
          refine dr_end (by kernel_rfl) ?_ _
          have hp := bk83 _ _ hp
          have hp := bk78 _ _ hp
          exact ⟨hf.sub ⟨rfl, rfl, rfl, rfl, rfl, rfl, rfl, rfl, rfl, rfl, rfl, rfl, rfl, trivial⟩, hp⟩
        skip
        rcases Bool.eq_false_or_eq_true (((((q66.2 != (0 : Int)) || (q68.2 != (0 : Int))) || (q70.2 != (0 : Int))) || (q72.2 != (0 : Int))) || (q66.1 != q68.1)) with hb95 | hb95
        · skip
          have hb97 : ((((((q66.2 != (0 : Int)) || (q68.2 != (0 : Int))) || (q70.2 != (0 : Int))) || (q72.2 != (0 : Int))) || (q66.1 != q68.1)) || ((((IntKind.i64.wrap (q66.1 + q70.1))).tmod (4 : Int)) != q72.1)) = true := by rw [hb95]; rfl
          skip
          replace hz96 := ifT hz96 hb97
          replace hz96 := Option.some.inj hz96
          have hb118 : z116 = true := hz96.symm
          skip
          replace hz117 := ifT hz117 hb118
          replace hz117 := Option.some.inj hz117
          refine dr_begin' (fun a w => Fr 225 a [(1, .int .i16 re1), (2, .int .i16 im2), (3, optr v1 0), (7, .int .i64 q3), (8, .int .i64 (ishl .i64 (1 : Int) (IntKind.i64.wrap ((2 : Int) * q3)))), (9, .int .i64 (((IntKind.i64.wrap (((xx0_Tone).tmod (ishl .i64 (1 : Int) (IntKind.i64.wrap ((2 : Int) * q3)))) + (ishl .i64 (1 : Int) (IntKind.i64.wrap ((2 : Int) * q3)))))).tmod (ishl .i64 (1 : Int) (IntKind.i64.wrap ((2 : Int) * q3))))), (10, .int .i64 (((IntKind.i64.wrap (((xx0_Place).tmod (ishl .i64 (1 : Int) (IntKind.i64.wrap ((2 : Int) * q3)))) + (ishl .i64 (1 : Int) (IntKind.i64.wrap ((2 : Int) * q3)))))).tmod (ishl .i64 (1 : Int) (IntKind.i64.wrap ((2 : Int) * q3))))), (11, .complex .f64 bb10 bb12), (13, v25), (15, v29), (19, .int .i64 q65), (21, .int .i64 i21), (216, .bool z137)] ∧ Hp S w0 w (Res.sl Ek.c128 28 v25 q18.1 :: Res.sl Ek.c128 28 v29 q27.1 :: Res.obj 40 v1 [.int .i64 xx0_Power, .int .i64 xx0_Place, .int .i64 xx0_Tone, .int .i64 xx0_By] :: ow)) (fun w' => ∃ l, Hp S79 w w' l) [] (by kernel_rfl) ?_
          refine dr_take 0 (.int .i64 q66.2) rfl (by kernel_rfl) (by kernel_rfl) (by kernel_rfl) (by kernel_rfl) rfl rfl hf (by decide) rfl (fun w hp => ?_) ⟨_, hp⟩ ?_
          · obtain ⟨_, hp⟩ := hp
            refine st_move hf rfl rfl (by decide) ?_
            clear hf; intro a ha hf
            exact st_nil hf (th_n ⟨ha, rfl⟩)
          clear hf; intro a hf
          refine dr_take 1 (.bool (q66.2 != (0 : Int))) rfl (by kernel_rfl) (by kernel_rfl) (by kernel_rfl) (by kernel_rfl) rfl rfl hf (by decide) rfl (fun w hp => ?_) ⟨_, hp⟩ ?_
          · obtain ⟨_, hp⟩ := hp
            refine st_ineq hf (by decide) rfl rfl rfl ?_
            clear hf; intro a ha hf
            exact st_nil hf (th_n ⟨ha, rfl⟩)
          clear hf; intro a hf
          refine dr_take 2 (.bool (q66.2 != (0 : Int))) rfl (by kernel_rfl) (by kernel_rfl) (by kernel_rfl) (by kernel_rfl) rfl rfl hf (by decide) rfl (fun w hp => ?_) ⟨_, hp⟩ ?_
          · obtain ⟨_, hp⟩ := hp
            refine st_move hf rfl rfl (by decide) ?_
            clear hf; intro a ha hf
            exact st_nil hf (th_n ⟨ha, rfl⟩)
          clear hf; intro a hf
          refine dr_take 3 (.int .i64 q68.2) rfl (by kernel_rfl) (by kernel_rfl) (by kernel_rfl) (by kernel_rfl) rfl rfl hf (by decide) (wantY hf rfl rfl hb87) (fun w hp => ?_) ⟨_, hp⟩ ?_
          · obtain ⟨_, hp⟩ := hp
            refine st_move hf (wantY hf rfl rfl hb87) rfl (by decide) ?_
            clear hf; intro a ha hf
            exact st_nil hf (th_n ⟨ha, rfl⟩)
          clear hf; intro a hf
          refine dr_take 4 (.bool (q68.2 != (0 : Int))) rfl (by kernel_rfl) (by kernel_rfl) (by kernel_rfl) (by kernel_rfl) rfl rfl hf (by decide) (wantY hf rfl rfl hb87) (fun w hp => ?_) ⟨_, hp⟩ ?_
          · obtain ⟨_, hp⟩ := hp
            refine st_ineq hf (by decide) (wantY hf rfl rfl hb87) rfl rfl ?_
            clear hf; intro a ha hf
            exact st_nil hf (th_n ⟨ha, rfl⟩)
          clear hf; intro a hf
          refine dr_take 5 (.bool ((q66.2 != (0 : Int)) || (q68.2 != (0 : Int)))) rfl (by kernel_rfl) (by kernel_rfl) (by kernel_rfl) (by kernel_rfl) rfl rfl hf (by decide) rfl (fun w hp => ?_) ⟨_, hp⟩ ?_
          · obtain ⟨_, hp⟩ := hp
            refine st_pick (v := .bool ((q66.2 != (0 : Int)) || (q68.2 != (0 : Int)))) hf rfl rfl (fun hb' => absurd (hb87.symm.trans hb') (by decide)) (fun _ => by rw [show ((q66.2 != (0 : Int)) || (q68.2 != (0 : Int))) = (q68.2 != (0 : Int)) from by rw [hb87]; rfl]; rfl) (by decide) ?_
            clear hf; intro a ha hf
            exact st_nil hf (th_n ⟨ha, rfl⟩)
          clear hf; intro a hf
          refine dr_take 6 (.bool ((q66.2 != (0 : Int)) || (q68.2 != (0 : Int)))) rfl (by kernel_rfl) (by kernel_rfl) (by kernel_rfl) (by kernel_rfl) rfl rfl hf (by decide) rfl (fun w hp => ?_) ⟨_, hp⟩ ?_
          · obtain ⟨_, hp⟩ := hp
            refine st_move hf rfl rfl (by decide) ?_
            clear hf; intro a ha hf
            exact st_nil hf (th_n ⟨ha, rfl⟩)
          clear hf; intro a hf
          refine dr_take 7 (.int .i64 q70.2) rfl (by kernel_rfl) (by kernel_rfl) (by kernel_rfl) (by kernel_rfl) rfl rfl hf (by decide) (wantY hf rfl rfl hb89) (fun w hp => ?_) ⟨_, hp⟩ ?_
          · obtain ⟨_, hp⟩ := hp
            refine st_move hf (wantY hf rfl rfl hb89) rfl (by decide) ?_
            clear hf; intro a ha hf
            exact st_nil hf (th_n ⟨ha, rfl⟩)
          clear hf; intro a hf
          refine dr_take 8 (.bool (q70.2 != (0 : Int))) rfl (by kernel_rfl) (by kernel_rfl) (by kernel_rfl) (by kernel_rfl) rfl rfl hf (by decide) (wantY hf rfl rfl hb89) (fun w hp => ?_) ⟨_, hp⟩ ?_
          · obtain ⟨_, hp⟩ := hp
            refine st_ineq hf (by decide) (wantY hf rfl rfl hb89) rfl rfl ?_
            clear hf; intro a ha hf
            exact st_nil hf (th_n ⟨ha, rfl⟩)
          clear hf; intro a hf
          refine dr_take 9 (.bool (((q66.2 != (0 : Int)) || (q68.2 != (0 : Int))) || (q70.2 != (0 : Int)))) rfl (by kernel_rfl) (by kernel_rfl) (by kernel_rfl) (by kernel_rfl) rfl rfl hf (by decide) rfl (fun w hp => ?_) ⟨_, hp⟩ ?_
          · obtain ⟨_, hp⟩ := hp
            refine st_pick (v := .bool (((q66.2 != (0 : Int)) || (q68.2 != (0 : Int))) || (q70.2 != (0 : Int)))) hf rfl rfl (fun hb' => absurd (hb89.symm.trans hb') (by decide)) (fun _ => by rw [show (((q66.2 != (0 : Int)) || (q68.2 != (0 : Int))) || (q70.2 != (0 : Int))) = (q70.2 != (0 : Int)) from by rw [hb89]; rfl]; rfl) (by decide) ?_
            clear hf; intro a ha hf
            exact st_nil hf (th_n ⟨ha, rfl⟩)
          clear hf; intro a hf
          refine dr_take 10 (.bool (((q66.2 != (0 : Int)) || (q68.2 != (0 : Int))) || (q70.2 != (0 : Int)))) rfl (by kernel_rfl) (by kernel_rfl) (by kernel_rfl) (by kernel_rfl) rfl rfl hf (by decide) rfl (fun w hp => ?_) ⟨_, hp⟩ ?_
          · obtain ⟨_, hp⟩ := hp
            refine st_move hf rfl rfl (by decide) ?_
            clear hf; intro a ha hf
            exact st_nil hf (th_n ⟨ha, rfl⟩)
          clear hf; intro a hf
          refine dr_take 11 (.int .i64 q72.2) rfl (by kernel_rfl) (by kernel_rfl) (by kernel_rfl) (by kernel_rfl) rfl rfl hf (by decide) (wantY hf rfl rfl hb91) (fun w hp => ?_) ⟨_, hp⟩ ?_
          · obtain ⟨_, hp⟩ := hp
            refine st_move hf (wantY hf rfl rfl hb91) rfl (by decide) ?_
            clear hf; intro a ha hf
            exact st_nil hf (th_n ⟨ha, rfl⟩)
          clear hf; intro a hf
          refine dr_take 12 (.bool (q72.2 != (0 : Int))) rfl (by kernel_rfl) (by kernel_rfl) (by kernel_rfl) (by kernel_rfl) rfl rfl hf (by decide) (wantY hf rfl rfl hb91) (fun w hp => ?_) ⟨_, hp⟩ ?_
          · obtain ⟨_, hp⟩ := hp
            refine st_ineq hf (by decide) (wantY hf rfl rfl hb91) rfl rfl ?_
            clear hf; intro a ha hf
            exact st_nil hf (th_n ⟨ha, rfl⟩)
          clear hf; intro a hf
          refine dr_take 13 (.bool ((((q66.2 != (0 : Int)) || (q68.2 != (0 : Int))) || (q70.2 != (0 : Int))) || (q72.2 != (0 : Int)))) rfl (by kernel_rfl) (by kernel_rfl) (by kernel_rfl) (by kernel_rfl) rfl rfl hf (by decide) rfl (fun w hp => ?_) ⟨_, hp⟩ ?_
          · obtain ⟨_, hp⟩ := hp
            refine st_pick (v := .bool ((((q66.2 != (0 : Int)) || (q68.2 != (0 : Int))) || (q70.2 != (0 : Int))) || (q72.2 != (0 : Int)))) hf rfl rfl (fun hb' => absurd (hb91.symm.trans hb') (by decide)) (fun _ => by rw [show ((((q66.2 != (0 : Int)) || (q68.2 != (0 : Int))) || (q70.2 != (0 : Int))) || (q72.2 != (0 : Int))) = (q72.2 != (0 : Int)) from by rw [hb91]; rfl]; rfl) (by decide) ?_
            clear hf; intro a ha hf
            exact st_nil hf (th_n ⟨ha, rfl⟩)
          clear hf; intro a hf
          refine dr_take 14 (.bool ((((q66.2 != (0 : Int)) || (q68.2 != (0 : Int))) || (q70.2 != (0 : Int))) || (q72.2 != (0 : Int)))) rfl (by kernel_rfl) (by kernel_rfl) (by kernel_rfl) (by kernel_rfl) rfl rfl hf (by decide) rfl (fun w hp => ?_) ⟨_, hp⟩ ?_
          · obtain ⟨_, hp⟩ := hp
            refine st_move hf rfl rfl (by decide) ?_
            clear hf; intro a ha hf
            exact st_nil hf (th_n ⟨ha, rfl⟩)
          clear hf; intro a hf
          refine dr_take 15 (.int .i64 q66.1) rfl (by kernel_rfl) (by kernel_rfl) (by kernel_rfl) (by kernel_rfl) rfl rfl hf (by decide) (wantY hf rfl rfl hb93) (fun w hp => ?_) ⟨_, hp⟩ ?_
          · obtain ⟨_, hp⟩ := hp
            refine st_move hf (wantY hf rfl rfl hb93) rfl (by decide) ?_
            clear hf; intro a ha hf
            exact st_nil hf (th_n ⟨ha, rfl⟩)
          clear hf; intro a hf
          refine dr_take 16 (.int .i64 q68.1) rfl (by kernel_rfl) (by kernel_rfl) (by kernel_rfl) (by kernel_rfl) rfl rfl hf (by decide) (wantY hf rfl rfl hb93) (fun w hp => ?_) ⟨_, hp⟩ ?_
          · obtain ⟨_, hp⟩ := hp
            refine st_move hf (wantY hf rfl rfl hb93) rfl (by decide) ?_
            clear hf; intro a ha hf
            exact st_nil hf (th_n ⟨ha, rfl⟩)
          clear hf; intro a hf
          refine dr_take 17 (.bool (q66.1 != q68.1)) rfl (by kernel_rfl) (by kernel_rfl) (by kernel_rfl) (by kernel_rfl) rfl rfl hf (by decide) (wantY hf rfl rfl hb93) (fun w hp => ?_) ⟨_, hp⟩ ?_
          · obtain ⟨_, hp⟩ := hp
            refine st_ineq hf (by decide) (wantY hf rfl rfl hb93) rfl rfl ?_
            clear hf; intro a ha hf
            exact st_nil hf (th_n ⟨ha, rfl⟩)
          clear hf; intro a hf
          refine dr_take 18 (.bool (((((q66.2 != (0 : Int)) || (q68.2 != (0 : Int))) || (q70.2 != (0 : Int))) || (q72.2 != (0 : Int))) || (q66.1 != q68.1))) rfl (by kernel_rfl) (by kernel_rfl) (by kernel_rfl) (by kernel_rfl) rfl rfl hf (by decide) rfl (fun w hp => ?_) ⟨_, hp⟩ ?_
          · obtain ⟨_, hp⟩ := hp
            refine st_pick (v := .bool (((((q66.2 != (0 : Int)) || (q68.2 != (0 : Int))) || (q70.2 != (0 : Int))) || (q72.2 != (0 : Int))) || (q66.1 != q68.1))) hf rfl rfl (fun hb' => absurd (hb93.symm.trans hb') (by decide)) (fun _ => by rw [show (((((q66.2 != (0 : Int)) || (q68.2 != (0 : Int))) || (q70.2 != (0 : Int))) || (q72.2 != (0 : Int))) || (q66.1 != q68.1)) = (q66.1 != q68.1) from by rw [hb93]; rfl]; rfl) (by decide) ?_
            clear hf; intro a ha hf
            exact st_nil hf (th_n ⟨ha, rfl⟩)
          clear hf; intro a hf
          refine dr_take 19 (.bool (((((q66.2 != (0 : Int)) || (q68.2 != (0 : Int))) || (q70.2 != (0 : Int))) || (q72.2 != (0 : Int))) || (q66.1 != q68.1))) rfl (by kernel_rfl) (by kernel_rfl) (by kernel_rfl) (by kernel_rfl) rfl rfl hf (by decide) rfl (fun w hp => ?_) ⟨_, hp⟩ ?_
          · obtain ⟨_, hp⟩ := hp
            refine st_move hf rfl rfl (by decide) ?_
            clear hf; intro a ha hf
            exact st_nil hf (th_n ⟨ha, rfl⟩)
          clear hf; intro a hf
          refine dr_out 20 rfl (by kernel_rfl) (by kernel_rfl) (by kernel_rfl) (by kernel_rfl) rfl hf (by decide) rfl (wantN hf rfl rfl hb95) ⟨_, hp⟩ ?_
          clear hf; intro a hf
          refine dr_out 21 rfl (by kernel_rfl) (by kernel_rfl) (by kernel_rfl) (by kernel_rfl) rfl hf (by decide) rfl (wantN hf rfl rfl hb95) ⟨_, hp⟩ ?_
          clear hf; intro a hf
          refine dr_out 22 rfl (by kernel_rfl) (by kernel_rfl) (by kernel_rfl) (by kernel_rfl) rfl hf (by decide) rfl (wantN hf rfl rfl hb95) ⟨_, hp⟩ ?_
          clear hf; intro a hf
          refine dr_out 23 rfl (by kernel_rfl) (by kernel_rfl) (by kernel_rfl) (by kernel_rfl) rfl hf (by decide) rfl (wantN hf rfl rfl hb95) ⟨_, hp⟩ ?_
          clear hf; intro a hf
          refine dr_out 24 rfl (by kernel_rfl) (by kernel_rfl) (by kernel_rfl) (by kernel_rfl) rfl hf (by decide) rfl (wantN hf rfl rfl hb95) ⟨_, hp⟩ ?_
          clear hf; intro a hf
          refine dr_out 25 rfl (by kernel_rfl) (by kernel_rfl) (by kernel_rfl) (by kernel_rfl) rfl hf (by decide) rfl (wantN hf rfl rfl hb95) ⟨_, hp⟩ ?_
          clear hf; intro a hf
          refine dr_take 26 (.bool ((((((q66.2 != (0 : Int)) || (q68.2 != (0 : Int))) || (q70.2 != (0 : Int))) || (q72.2 != (0 : Int))) || (q66.1 != q68.1)) || ((((IntKind.i64.wrap (q66.1 + q70.1))).tmod (4 : Int)) != q72.1))) rfl (by kernel_rfl) (by kernel_rfl) (by kernel_rfl) (by kernel_rfl) rfl rfl hf (by decide) rfl (fun w hp => ?_) ⟨_, hp⟩ ?_
          · obtain ⟨_, hp⟩ := hp
            refine st_pick (v := .bool ((((((q66.2 != (0 : Int)) || (q68.2 != (0 : Int))) || (q70.2 != (0 : Int))) || (q72.2 != (0 : Int))) || (q66.1 != q68.1)) || ((((IntKind.i64.wrap (q66.1 + q70.1))).tmod (4 : Int)) != q72.1))) hf rfl rfl (fun _ => by rw [show ((((((q66.2 != (0 : Int)) || (q68.2 != (0 : Int))) || (q70.2 != (0 : Int))) || (q72.2 != (0 : Int))) || (q66.1 != q68.1)) || ((((IntKind.i64.wrap (q66.1 + q70.1))).tmod (4 : Int)) != q72.1)) = true from by rw [hb95]; rfl]; rfl) (fun hb' => absurd (hb95.symm.trans hb') (by decide)) (by decide) ?_
            clear hf; intro a ha hf
            exact st_nil hf (th_n ⟨ha, rfl⟩)
          clear hf; intro a hf
          refine dr_take 27 (.bool ((((((q66.2 != (0 : Int)) || (q68.2 != (0 : Int))) || (q70.2 != (0 : Int))) || (q72.2 != (0 : Int))) || (q66.1 != q68.1)) || ((((IntKind.i64.wrap (q66.1 + q70.1))).tmod (4 : Int)) != q72.1))) rfl (by kernel_rfl) (by kernel_rfl) (by kernel_rfl) (by kernel_rfl) rfl rfl hf (by decide) rfl (fun w hp => ?_) ⟨_, hp⟩ ?_
          · obtain ⟨_, hp⟩ := hp
            refine st_move hf rfl rfl (by decide) ?_
            clear hf; intro a ha hf
            exact st_nil hf (th_n ⟨ha, rfl⟩)
          clear hf; intro a hf
          refine dr_out 28 rfl (by kernel_rfl) (by kernel_rfl) (by kernel_rfl) (by kernel_rfl) rfl hf (by decide) rfl (wantN hf rfl rfl hb97) ⟨_, hp⟩ ?_
          clear hf; intro a hf
          refine dr_out 29 rfl (by kernel_rfl) (by kernel_rfl) (by kernel_rfl) (by kernel_rfl) rfl hf (by decide) rfl (wantN hf rfl rfl hb97) ⟨_, hp⟩ ?_
          clear hf; intro a hf
          refine dr_out 30 rfl (by kernel_rfl) (by kernel_rfl) (by kernel_rfl) (by kernel_rfl) rfl hf (by decide) rfl (wantN hf rfl rfl hb97) ⟨_, hp⟩ ?_
          clear hf; intro a hf
          refine dr_out 31 rfl (by kernel_rfl) (by kernel_rfl) (by kernel_rfl) (by kernel_rfl) rfl hf (by decide) rfl (wantN hf rfl rfl hb97) ⟨_, hp⟩ ?_
          clear hf; intro a hf
          refine dr_out 32 rfl (by kernel_rfl) (by kernel_rfl) (by kernel_rfl) (by kernel_rfl) rfl hf (by decide) rfl (wantN hf rfl rfl hb97) ⟨_, hp⟩ ?_
          clear hf; intro a hf
          refine dr_out 33 rfl (by kernel_rfl) (by kernel_rfl) (by kernel_rfl) (by kernel_rfl) rfl hf (by decide) rfl (wantN hf rfl rfl hb97) ⟨_, hp⟩ ?_
          clear hf; intro a hf
          refine dr_out 34 rfl (by kernel_rfl) (by kernel_rfl) (by kernel_rfl) (by kernel_rfl) rfl hf (by decide) rfl (wantN hf rfl rfl hb97) ⟨_, hp⟩ ?_
          clear hf; intro a hf
          refine dr_out 35 rfl (by kernel_rfl) (by kernel_rfl) (by kernel_rfl) (by kernel_rfl) rfl hf (by decide) rfl (wantN hf rfl rfl hb97) ⟨_, hp⟩ ?_
          clear hf; intro a hf
          refine dr_out 36 rfl (by kernel_rfl) (by kernel_rfl) (by kernel_rfl) (by kernel_rfl) rfl hf (by decide) rfl (wantN hf rfl rfl hb97) ⟨_, hp⟩ ?_
          clear hf; intro a hf
          refine dr_out 37 rfl (by kernel_rfl) (by kernel_rfl) (by kernel_rfl) (by kernel_rfl) rfl hf (by decide) rfl (wantN hf rfl rfl hb97) ⟨_, hp⟩ ?_
          clear hf; intro a hf
          refine dr_out 38 rfl (by kernel_rfl) (by kernel_rfl) (by kernel_rfl) (by kernel_rfl) rfl hf (by decide) rfl (wantN hf rfl rfl hb97) ⟨_, hp⟩ ?_
          clear hf; intro a hf
          refine dr_take 39 (.bool z116) rfl (by kernel_rfl) (by kernel_rfl) (by kernel_rfl) (by kernel_rfl) rfl rfl hf (by decide) rfl (fun w hp => ?_) ⟨_, hp⟩ ?_
          · obtain ⟨_, hp⟩ := hp
            refine st_pick (v := .bool z116) hf rfl rfl (fun _ => by rw [← hz96]; rfl) (fun hb' => absurd (hb97.symm.trans hb') (by decide)) (by decide) ?_
            clear hf; intro a ha hf
            exact st_nil hf (th_n ⟨ha, rfl⟩)
          clear hf; intro a hf
          refine dr_take 40 (.bool z116) rfl (by kernel_rfl) (by kernel_rfl) (by kernel_rfl) (by kernel_rfl) rfl rfl hf (by decide) rfl (fun w hp => ?_) ⟨_, hp⟩ ?_
          · obtain ⟨_, hp⟩ := hp
            refine st_move hf rfl rfl (by decide) ?_
            clear hf; intro a ha hf
            exact st_nil hf (th_n ⟨ha, rfl⟩)
          clear hf; intro a hf
          refine dr_out 41 rfl (by kernel_rfl) (by kernel_rfl) (by kernel_rfl) (by kernel_rfl) rfl hf (by decide) rfl (wantN hf rfl rfl hb118) ⟨_, hp⟩ ?_
          clear hf; intro a hf
          refine dr_out 42 rfl (by kernel_rfl) (by kernel_rfl) (by kernel_rfl) (by kernel_rfl) rfl hf (by decide) rfl (wantN hf rfl rfl hb118) ⟨_, hp⟩ ?_
          clear hf; intro a hf
          refine dr_out 43 rfl (by kernel_rfl) (by kernel_rfl) (by kernel_rfl) (by kernel_rfl) rfl hf (by decide) rfl (wantN hf rfl rfl hb118) ⟨_, hp⟩ ?_
          clear hf; intro a hf
          refine dr_out 44 rfl (by kernel_rfl) (by kernel_rfl) (by kernel_rfl) (by kernel_rfl) rfl hf (by decide) rfl (wantN hf rfl rfl hb118) ⟨_, hp⟩ ?_
          clear hf; intro a hf
          refine dr_out 45 rfl (by kernel_rfl) (by kernel_rfl) (by kernel_rfl) (by kernel_rfl) rfl hf (by decide) rfl (wantN hf rfl rfl hb118) ⟨_, hp⟩ ?_
          clear hf; intro a hf
          refine dr_out 46 rfl (by kernel_rfl) (by kernel_rfl) (by kernel_rfl) (by kernel_rfl) rfl hf (by decide) rfl (wantN hf rfl rfl hb118) ⟨_, hp⟩ ?_
          clear hf; intro a hf
          refine dr_out 47 rfl (by kernel_rfl) (by kernel_rfl) (by kernel_rfl) (by kernel_rfl) rfl hf (by decide) rfl (wantN hf rfl rfl hb118) ⟨_, hp⟩ ?_
          clear hf; intro a hf
          refine dr_out 48 rfl (by kernel_rfl) (by kernel_rfl) (by kernel_rfl) (by kernel_rfl) rfl hf (by decide) rfl (wantN hf rfl rfl hb118) ⟨_, hp⟩ ?_
          clear hf; intro a hf
          refine dr_out 49 rfl (by kernel_rfl) (by kernel_rfl) (by kernel_rfl) (by kernel_rfl) rfl hf (by decide) rfl (wantN hf rfl rfl hb118) ⟨_, hp⟩ ?_
          clear hf; intro a hf
          refine dr_out 50 rfl (by kernel_rfl) (by kernel_rfl) (by kernel_rfl) (by kernel_rfl) rfl hf (by decide) rfl (wantN hf rfl rfl hb118) ⟨_, hp⟩ ?_
          clear hf; intro a hf
          refine dr_take 51 (.bool z137) rfl (by kernel_rfl) (by kernel_rfl) (by kernel_rfl) (by kernel_rfl) rfl rfl hf (by decide) rfl (fun w hp => ?_) ⟨_, hp⟩ ?_
          · obtain ⟨_, hp⟩ := hp
            refine st_pick (v := .bool z137) hf rfl rfl (fun _ => by rw [← hz117]; rfl) (fun hb' => absurd (hb118.symm.trans hb') (by decide)) (by decide) ?_
            clear hf; intro a ha hf
            exact st_nil hf (th_n ⟨ha, rfl⟩)
          clear hf; intro a hf
          refine dr_end (by kernel_rfl) ?_ _
          have hp := bk83 _ _ hp
          have hp := bk78 _ _ hp
          exact ⟨hf.sub ⟨rfl, rfl, rfl, rfl, rfl, rfl, rfl, rfl, rfl, rfl, rfl, rfl, rfl, trivial⟩, hp⟩
        skip
        rcases Bool.eq_false_or_eq_true ((((((q66.2 != (0 : Int)) || (q68.2 != (0 : Int))) || (q70.2 != (0 : Int))) || (q72.2 != (0 : Int))) || (q66.1 != q68.1)) || ((((IntKind.i64.wrap (q66.1 + q70.1))).tmod (4 : Int)) != q72.1)) with hb97 | hb97
        · skip
          replace hz96 := ifT hz96 hb97
          replace hz96 := Option.some.inj hz96
          have hb118 : z116 = true := hz96.symm
          skip
          replace hz117 := ifT hz117 hb118
          replace hz117 := Option.some.inj hz117
          refine dr_begin' (fun a w => Fr 225 a [(1, .int .i16 re1), (2, .int .i16 im2), (3, optr v1 0), (7, .int .i64 q3), (8, .int .i64 (ishl .i64 (1 : Int) (IntKind.i64.wrap ((2 : Int) * q3)))), (9, .int .i64 (((IntKind.i64.wrap (((xx0_Tone).tmod (ishl .i64 (1 : Int) (IntKind.i64.wrap ((2 : Int) * q3)))) + (ishl .i64 (1 : Int) (IntKind.i64.wrap ((2 : Int) * q3)))))).tmod (ishl .i64 (1 : Int) (IntKind.i64.wrap ((2 : Int) * q3))))), (10, .int .i64 (((IntKind.i64.wrap (((xx0_Place).tmod (ishl .i64 (1 : Int) (IntKind.i64.wrap ((2 : Int) * q3)))) + (ishl .i64 (1 : Int) (IntKind.i64.wrap ((2 : Int) * q3)))))).tmod (ishl .i64 (1 : Int) (IntKind.i64.wrap ((2 : Int) * q3))))), (11, .complex .f64 bb10 bb12), (13, v25), (15, v29), (19, .int .i64 q65), (21, .int .i64 i21), (216, .bool z137)] ∧ Hp S w0 w (Res.sl Ek.c128 28 v25 q18.1 :: Res.sl Ek.c128 28 v29 q27.1 :: Res.obj 40 v1 [.int .i64 xx0_Power, .int .i64 xx0_Place, .int .i64 xx0_Tone, .int .i64 xx0_By] :: ow)) (fun w' => ∃ l, Hp S79 w w' l) [] (by kernel_rfl) ?_
          refine dr_take 0 (.int .i64 q66.2) rfl (by kernel_rfl) (by kernel_rfl) (by kernel_rfl) (by kernel_rfl) rfl rfl hf (by decide) rfl (fun w hp => ?_) ⟨_, hp⟩ ?_
          · obtain ⟨_, hp⟩ := hp
            refine st_move hf rfl rfl (by decide) ?_
            clear hf; intro a ha hf
            exact st_nil hf (th_n ⟨ha, rfl⟩)
          clear hf; intro a hf
          refine dr_take 1 (.bool (q66.2 != (0 : Int))) rfl (by kernel_rfl) (by kernel_rfl) (by kernel_rfl) (by kernel_rfl) rfl rfl hf (by decide) rfl (fun w hp => ?_) ⟨_, hp⟩ ?_
          · obtain ⟨_, hp⟩ := hp
            refine st_ineq hf (by decide) rfl rfl rfl ?_
            clear hf; intro a ha hf
            exact st_nil hf (th_n ⟨ha, rfl⟩)
          clear hf; intro a hf
          refine dr_take 2 (.bool (q66.2 != (0 : Int))) rfl (by kernel_rfl) (by kernel_rfl) (by kernel_rfl) (by kernel_rfl) rfl rfl hf (by decide) rfl (fun w hp => ?_) ⟨_, hp⟩ ?_
          · obtain ⟨_, hp⟩ := hp
            refine st_move hf rfl rfl (by decide) ?_
            clear hf; intro a ha hf
            exact st_nil hf (th_n ⟨ha, rfl⟩)
          clear hf; intro a hf
          refine dr_take 3 (.int .i64 q68.2) rfl (by kernel_rfl) (by kernel_rfl) (by kernel_rfl) (by kernel_rfl) rfl rfl hf (by decide) (wantY hf rfl rfl hb87) (fun w hp => ?_) ⟨_, hp⟩ ?_
          · obtain ⟨_, hp⟩ := hp
            refine st_move hf (wantY hf rfl rfl hb87) rfl (by decide) ?_
            clear hf; intro a ha hf
            exact st_nil hf (th_n ⟨ha, rfl⟩)
          clear hf; intro a hf
          refine dr_take 4 (.bool (q68.2 != (0 : Int))) rfl (by kernel_rfl) (by kernel_rfl) (by kernel_rfl) (by kernel_rfl) rfl rfl hf (by decide) (wantY hf rfl rfl hb87) (fun w hp => ?_) ⟨_, hp⟩ ?_
          · obtain ⟨_, hp⟩ := hp
            refine st_ineq hf (by decide) (wantY hf rfl rfl hb87) rfl rfl ?_
            clear hf; intro a ha hf
            exact st_nil hf (th_n ⟨ha, rfl⟩)
          clear hf; intro a hf
          refine dr_take 5 (.bool ((q66.2 != (0 : Int)) || (q68.2 != (0 : Int)))) rfl (by kernel_rfl) (by kernel_rfl) (by kernel_rfl) (by kernel_rfl) rfl rfl hf (by decide) rfl (fun w hp => ?_) ⟨_, hp⟩ ?_
          · obtain ⟨_, hp⟩ := hp
            refine st_pick (v := .bool ((q66.2 != (0 : Int)) || (q68.2 != (0 : Int)))) hf rfl rfl (fun hb' => absurd (hb87.symm.trans hb') (by decide)) (fun _ => by rw [show ((q66.2 != (0 : Int)) || (q68.2 != (0 : Int))) = (q68.2 != (0 : Int)) from by rw [hb87]; rfl]; rfl) (by decide) ?_
            clear hf; intro a ha hf
            exact st_nil hf (th_n ⟨ha, rfl⟩)
          clear hf; intro a hf
          refine dr_take 6 (.bool ((q66.2 != (0 : Int)) || (q68.2 != (0 : Int)))) rfl (by kernel_rfl) (by kernel_rfl) (by kernel_rfl) (by kernel_rfl) rfl rfl hf (by decide) rfl (fun w hp => ?_) ⟨_, hp⟩ ?_
          · obtain ⟨_, hp⟩ := hp
            refine st_move hf rfl rfl (by decide) ?_
            clear hf; intro a ha hf
            exact st_nil hf (th_n ⟨ha, rfl⟩)
          clear hf; intro a hf
          refine dr_take 7 (.int .i64 q70.2) rfl (by kernel_rfl) (by kernel_rfl) (by kernel_rfl) (by kernel_rfl) rfl rfl hf (by decide) (wantY hf rfl rfl hb89) (fun w hp => ?_) ⟨_, hp⟩ ?_
          · obtain ⟨_, hp⟩ := hp
            refine st_move hf (wantY hf rfl rfl hb89) rfl (by decide) ?_
            clear hf; intro a ha hf
            exact st_nil hf (th_n ⟨ha, rfl⟩)
          clear hf; intro a hf
          refine dr_take 8 (.bool (q70.2 != (0 : Int))) rfl (by kernel_rfl) (by kernel_rfl) (by kernel_rfl) (by kernel_rfl) rfl rfl hf (by decide) (wantY hf rfl rfl hb89) (fun w hp => ?_) ⟨_, hp⟩ ?_
          · obtain ⟨_, hp⟩ := hp
            refine st_ineq hf (by decide) (wantY hf rfl rfl hb89) rfl rfl ?_
            clear hf; intro a ha hf
            exact st_nil hf (th_n ⟨ha, rfl⟩)
          clear hf; intro a hf
          refine dr_take 9 (.bool (((q66.2 != (0 : Int)) || (q68.2 != (0 : Int))) || (q70.2 != (0 : Int)))) rfl (by kernel_rfl) (by kernel_rfl) (by kernel_rfl) (by kernel_rfl) rfl rfl hf (by decide) rfl (fun w hp => ?_) ⟨_, hp⟩ ?_
          · obtain ⟨_, hp⟩ := hp
            refine st_pick (v := .bool (((q66.2 != (0 : Int)) || (q68.2 != (0 : Int))) || (q70.2 != (0 : Int)))) hf rfl rfl (fun hb' => absurd (hb89.symm.trans hb') (by decide)) (fun _ => by rw [show (((q66.2 != (0 : Int)) || (q68.2 != (0 : Int))) || (q70.2 != (0 : Int))) = (q70.2 != (0 : Int)) from by rw [hb89]; rfl]; rfl) (by decide) ?_
            clear hf; intro a ha hf
            exact st_nil hf (th_n ⟨ha, rfl⟩)
          clear hf; intro a hf
          refine dr_take 10 (.bool (((q66.2 != (0 : Int)) || (q68.2 != (0 : Int))) || (q70.2 != (0 : Int)))) rfl (by kernel_rfl) (by kernel_rfl) (by kernel_rfl) (by kernel_rfl) rfl rfl hf (by decide) rfl (fun w hp => ?_) ⟨_, hp⟩ ?_
          · obtain ⟨_, hp⟩ := hp
            refine st_move hf rfl rfl (by decide) ?_
            clear hf; intro a ha hf
            exact st_nil hf (th_n ⟨ha, rfl⟩)
          clear hf; intro a hf
          refine dr_take 11 (.int .i64 q72.2) rfl (by kernel_rfl) (by kernel_rfl) (by kernel_rfl) (by kernel_rfl) rfl rfl hf (by decide) (wantY hf rfl rfl hb91) (fun w hp => ?_) ⟨_, hp⟩ ?_
          · obtain ⟨_, hp⟩ := hp
            refine st_move hf (wantY hf rfl rfl hb91) rfl (by decide) ?_
            clear hf; intro a ha hf
            exact st_nil hf (th_n ⟨ha, rfl⟩)
          clear hf; intro a hf
          refine dr_take 12 (.bool (q72.2 != (0 : Int))) rfl (by kernel_rfl) (by kernel_rfl) (by kernel_rfl) (by kernel_rfl) rfl rfl hf (by decide) (wantY hf rfl rfl hb91) (fun w hp => ?_) ⟨_, hp⟩ ?_
          · obtain ⟨_, hp⟩ := hp
            refine st_ineq hf (by decide) (wantY hf rfl rfl hb91) rfl rfl ?_
            clear hf; intro a ha hf
            exact st_nil hf (th_n ⟨ha, rfl⟩)
          clear hf; intro a hf
          refine dr_take 13 (.bool ((((q66.2 != (0 : Int)) || (q68.2 != (0 : Int))) || (q70.2 != (0 : Int))) || (q72.2 != (0 : Int)))) rfl (by kernel_rfl) (by kernel_rfl) (by kernel_rfl) (by kernel_rfl) rfl rfl hf (by decide) rfl (fun w hp => ?_) ⟨_, hp⟩ ?_
          · obtain ⟨_, hp⟩ := hp
            refine st_pick (v := .bool ((((q66.2 != (0 : Int)) || (q68.2 != (0 : Int))) || (q70.2 != (0 : Int))) || (q72.2 != (0 : Int)))) hf rfl rfl (fun hb' => absurd (hb91.symm.trans hb') (by decide)) (fun _ => by rw [show ((((q66.2 != (0 : Int)) || (q68.2 != (0 : Int))) || (q70.2 != (0 : Int))) || (q72.2 != (0 : Int))) = (q72.2 != (0 : Int)) from by rw [hb91]; rfl]; rfl) (by decide) ?_
            clear hf; intro a ha hf
            exact st_nil hf (th_n ⟨ha, rfl⟩)
          clear hf; intro a hf
          refine dr_take 14 (.bool ((((q66.2 != (0 : Int)) || (q68.2 != (0 : Int))) || (q70.2 != (0 : Int))) || (q72.2 != (0 : Int)))) rfl (by kernel_rfl) (by kernel_rfl) (by kernel_rfl) (by kernel_rfl) rfl rfl hf (by decide) rfl (fun w hp => ?_) ⟨_, hp⟩ ?_
          · obtain ⟨_, hp⟩ := hp
            refine st_move hf rfl rfl (by decide) ?_
            clear hf; intro a ha hf
            exact st_nil hf (th_n ⟨ha, rfl⟩)
          clear hf; intro a hf
          refine dr_take 15 (.int .i64 q66.1) rfl (by kernel_rfl) (by kernel_rfl) (by kernel_rfl) (by kernel_rfl) rfl rfl hf (by decide) (wantY hf rfl rfl hb93) (fun w hp => ?_) ⟨_, hp⟩ ?_
          · obtain ⟨_, hp⟩ := hp
            refine st_move hf (wantY hf rfl rfl hb93) rfl (by decide) ?_
            clear hf; intro a ha hf
            exact st_nil hf (th_n ⟨ha, rfl⟩)
          clear hf; intro a hf
          refine dr_take 16 (.int .i64 q68.1) rfl (by kernel_rfl) (by kernel_rfl) (by kernel_rfl) (by kernel_rfl) rfl rfl hf (by decide) (wantY hf rfl rfl hb93) (fun w hp => ?_) ⟨_, hp⟩ ?_
          · obtain ⟨_, hp⟩ := hp
            refine st_move hf (wantY hf rfl rfl hb93) rfl (by decide) ?_
            clear hf; intro a ha hf
            exact st_nil hf (th_n ⟨ha, rfl⟩)
          clear hf; intro a hf
          refine dr_take 17 (.bool (q66.1 != q68.1)) rfl (by kernel_rfl) (by kernel_rfl) (by kernel_rfl) (by kernel_rfl) rfl rfl hf (by decide) (wantY hf rfl rfl hb93) (fun w hp => ?_) ⟨_, hp⟩ ?_
          · obtain ⟨_, hp⟩ := hp
            refine st_ineq hf (by decide) (wantY hf rfl rfl hb93) rfl rfl ?_
            clear hf; intro a ha hf
            exact st_nil hf (th_n ⟨ha, rfl⟩)
          clear hf; intro a hf
          refine dr_take 18 (.bool (((((q66.2 != (0 : Int)) || (q68.2 != (0 : Int))) || (q70.2 != (0 : Int))) || (q72.2 != (0 : Int))) || (q66.1 != q68.1))) rfl (by kernel_rfl) (by kernel_rfl) (by kernel_rfl) (by kernel_rfl) rfl rfl hf (by decide) rfl (fun w hp => ?_) ⟨_, hp⟩ ?_
          · obtain ⟨_, hp⟩ := hp
            refine st_pick (v := .bool (((((q66.2 != (0 : Int)) || (q68.2 != (0 : Int))) || (q70.2 != (0 : Int))) || (q72.2 != (0 : Int))) || (q66.1 != q68.1))) hf rfl rfl (fun hb' => absurd (hb93.symm.trans hb') (by decide)) (fun _ => by rw [show (((((q66.2 != (0 : Int)) || (q68.2 != (0 : Int))) || (q70.2 != (0 : Int))) || (q72.2 != (0 : Int))) || (q66.1 != q68.1)) = (q66.1 != q68.1) from by rw [hb93]; rfl]; rfl) (by decide) ?_
            clear hf; intro a ha hf
            exact st_nil hf (th_n ⟨ha, rfl⟩)
          clear hf; intro a hf
          refine dr_take 19 (.bool (((((q66.2 != (0 : Int)) || (q68.2 != (0 : Int))) || (q70.2 != (0 : Int))) || (q72.2 != (0 : Int))) || (q66.1 != q68.1))) rfl (by kernel_rfl) (by kernel_rfl) (by kernel_rfl) (by kernel_rfl) rfl rfl hf (by decide) rfl (fun w hp => ?_) ⟨_, hp⟩ ?_
          · obtain ⟨_, hp⟩ := hp
            refine st_move hf rfl rfl (by decide) ?_
            clear hf; intro a ha hf
            exact st_nil hf (th_n ⟨ha, rfl⟩)
          clear hf; intro a hf
          refine dr_take 20 (.int .i64 q66.1) rfl (by kernel_rfl) (by kernel_rfl) (by kernel_rfl) (by kernel_rfl) rfl rfl hf (by decide) (wantY hf rfl rfl hb95) (fun w hp => ?_) ⟨_, hp⟩ ?_
          · obtain ⟨_, hp⟩ := hp
            refine st_move hf (wantY hf rfl rfl hb95) rfl (by decide) ?_
            clear hf; intro a ha hf
            exact st_nil hf (th_n ⟨ha, rfl⟩)
          clear hf; intro a hf
          refine dr_take 21 (.int .i64 q70.1) rfl (by kernel_rfl) (by kernel_rfl) (by kernel_rfl) (by kernel_rfl) rfl rfl hf (by decide) (wantY hf rfl rfl hb95) (fun w hp => ?_) ⟨_, hp⟩ ?_
          · obtain ⟨_, hp⟩ := hp
            refine st_move hf (wantY hf rfl rfl hb95) rfl (by decide) ?_
            clear hf; intro a ha hf
            exact st_nil hf (th_n ⟨ha, rfl⟩)
          clear hf; intro a hf
          refine dr_take 22 (.int .i64 (IntKind.i64.wrap (q66.1 + q70.1))) rfl (by kernel_rfl) (by kernel_rfl) (by kernel_rfl) (by kernel_rfl) rfl rfl hf (by decide) (wantY hf rfl rfl hb95) (fun w hp => ?_) ⟨_, hp⟩ ?_
          · obtain ⟨_, hp⟩ := hp
            refine st_iadd hf (by decide) (wantY hf rfl rfl hb95) rfl rfl ?_
            clear hf; intro a ha hf
            exact st_nil hf (th_n ⟨ha, rfl⟩)
          clear hf; intro a hf
          refine dr_take 23 (.int .i64 (((IntKind.i64.wrap (q66.1 + q70.1))).tmod (4 : Int))) rfl (by kernel_rfl) (by kernel_rfl) (by kernel_rfl) (by kernel_rfl) rfl rfl hf (by decide) (wantY hf rfl rfl hb95) (fun w hp => ?_) ⟨_, hp⟩ ?_
          · obtain ⟨_, hp⟩ := hp
            refine st_irem hf (by decide) (wantY hf rfl rfl hb95) rfl rfl (by decide) ?_
            clear hf; intro a ha hf
            exact st_nil hf (th_n ⟨ha, rfl⟩)
          clear hf; intro a hf
          refine dr_take 24 (.int .i64 q72.1) rfl (by kernel_rfl) (by kernel_rfl) (by kernel_rfl) (by kernel_rfl) rfl rfl hf (by decide) (wantY hf rfl rfl hb95) (fun w hp => ?_) ⟨_, hp⟩ ?_
          · obtain ⟨_, hp⟩ := hp
            refine st_move hf (wantY hf rfl rfl hb95) rfl (by decide) ?_
            clear hf; intro a ha hf
            exact st_nil hf (th_n ⟨ha, rfl⟩)
          clear hf; intro a hf
          refine dr_take 25 (.bool ((((IntKind.i64.wrap (q66.1 + q70.1))).tmod (4 : Int)) != q72.1)) rfl (by kernel_rfl) (by kernel_rfl) (by kernel_rfl) (by kernel_rfl) rfl rfl hf (by decide) (wantY hf rfl rfl hb95) (fun w hp => ?_) ⟨_, hp⟩ ?_
          · obtain ⟨_, hp⟩ := hp
            refine st_ineq hf (by decide) (wantY hf rfl rfl hb95) rfl rfl ?_
            clear hf; intro a ha hf
            exact st_nil hf (th_n ⟨ha, rfl⟩)
          clear hf; intro a hf
          refine dr_take 26 (.bool ((((((q66.2 != (0 : Int)) || (q68.2 != (0 : Int))) || (q70.2 != (0 : Int))) || (q72.2 != (0 : Int))) || (q66.1 != q68.1)) || ((((IntKind.i64.wrap (q66.1 + q70.1))).tmod (4 : Int)) != q72.1))) rfl (by kernel_rfl) (by kernel_rfl) (by kernel_rfl) (by kernel_rfl) rfl rfl hf (by decide) rfl (fun w hp => ?_) ⟨_, hp⟩ ?_
          · obtain ⟨_, hp⟩ := hp
            refine st_pick (v := .bool ((((((q66.2 != (0 : Int)) || (q68.2 != (0 : Int))) || (q70.2 != (0 : Int))) || (q72.2 != (0 : Int))) || (q66.1 != q68.1)) || ((((IntKind.i64.wrap (q66.1 + q70.1))).tmod (4 : Int)) != q72.1))) hf rfl rfl (fun hb' => absurd (hb95.symm.trans hb') (by decide)) (fun _ => by rw [show ((((((q66.2 != (0 : Int)) || (q68.2 != (0 : Int))) || (q70.2 != (0 : Int))) || (q72.2 != (0 : Int))) || (q66.1 != q68.1)) || ((((IntKind.i64.wrap (q66.1 + q70.1))).tmod (4 : Int)) != q72.1)) = ((((IntKind.i64.wrap (q66.1 + q70.1))).tmod (4 : Int)) != q72.1) from by rw [hb95]; rfl]; rfl) (by decide) ?_
            clear hf; intro a ha hf
            exact st_nil hf (th_n ⟨ha, rfl⟩)
          clear hf; intro a hf
          refine dr_take 27 (.bool ((((((q66.2 != (0 : Int)) || (q68.2 != (0 : Int))) || (q70.2 != (0 : Int))) || (q72.2 != (0 : Int))) || (q66.1 != q68.1)) || ((((IntKind.i64.wrap (q66.1 + q70.1))).tmod (4 : Int)) != q72.1))) rfl (by kernel_rfl) (by kernel_rfl) (by kernel_rfl) (by kernel_rfl) rfl rfl hf (by decide) rfl (fun w hp => ?_) ⟨_, hp⟩ ?_
          · obtain ⟨_, hp⟩ := hp
            refine st_move hf rfl rfl (by decide) ?_
            clear hf; intro a ha hf
            exact st_nil hf (th_n ⟨ha, rfl⟩)
          clear hf; intro a hf
          refine dr_out 28 rfl (by kernel_rfl) (by kernel_rfl) (by kernel_rfl) (by kernel_rfl) rfl hf (by decide) rfl (wantN hf rfl rfl hb97) ⟨_, hp⟩ ?_
          clear hf; intro a hf
          refine dr_out 29 rfl (by kernel_rfl) (by kernel_rfl) (by kernel_rfl) (by kernel_rfl) rfl hf (by decide) rfl (wantN hf rfl rfl hb97) ⟨_, hp⟩ ?_
          clear hf; intro a hf
          refine dr_out 30 rfl (by kernel_rfl) (by kernel_rfl) (by kernel_rfl) (by kernel_rfl) rfl hf (by decide) rfl (wantN hf rfl rfl hb97) ⟨_, hp⟩ ?_
          clear hf; intro a hf
          refine dr_out 31 rfl (by kernel_rfl) (by kernel_rfl) (by kernel_rfl) (by kernel_rfl) rfl hf (by decide) rfl (wantN hf rfl rfl hb97) ⟨_, hp⟩ ?_
          clear hf; intro a hf
          refine dr_out 32 rfl (by kernel_rfl) (by kernel_rfl) (by kernel_rfl) (by kernel_rfl) rfl hf (by decide) rfl (wantN hf rfl rfl hb97) ⟨_, hp⟩ ?_
          clear hf; intro a hf
          refine dr_out 33 rfl (by kernel_rfl) (by kernel_rfl) (by kernel_rfl) (by kernel_rfl) rfl hf (by decide) rfl (wantN hf rfl rfl hb97) ⟨_, hp⟩ ?_
          clear hf; intro a hf
          refine dr_out 34 rfl (by kernel_rfl) (by kernel_rfl) (by kernel_rfl) (by kernel_rfl) rfl hf (by decide) rfl (wantN hf rfl rfl hb97) ⟨_, hp⟩ ?_
          clear hf; intro a hf
          refine dr_out 35 rfl (by kernel_rfl) (by kernel_rfl) (by kernel_rfl) (by kernel_rfl) rfl hf (by decide) rfl (wantN hf rfl rfl hb97) ⟨_, hp⟩ ?_
          clear hf; intro a hf
          refine dr_out 36 rfl (by kernel_rfl) (by kernel_rfl) (by kernel_rfl) (by kernel_rfl) rfl hf (by decide) rfl (wantN hf rfl rfl hb97) ⟨_, hp⟩ ?_
          clear hf; intro a hf
          refine dr_out 37 rfl (by kernel_rfl) (by kernel_rfl) (by kernel_rfl) (by kernel_rfl) rfl hf (by decide) rfl (wantN hf rfl rfl hb97) ⟨_, hp⟩ ?_
          clear hf; intro a hf
          refine dr_out 38 rfl (by kernel_rfl) (by kernel_rfl) (by kernel_rfl) (by kernel_rfl) rfl hf (by decide) rfl (wantN hf rfl rfl hb97) ⟨_, hp⟩ ?_
          clear hf; intro a hf
          refine dr_take 39 (.bool z116) rfl (by kernel_rfl) (by kernel_rfl) (by kernel_rfl) (by kernel_rfl) rfl rfl hf (by decide) rfl (fun w hp => ?_) ⟨_, hp⟩ ?_
          · obtain ⟨_, hp⟩ := hp
            refine st_pick (v := .bool z116) hf rfl rfl (fun _ => by rw [← hz96]; rfl) (fun hb' => absurd (hb97.symm.trans hb') (by decide)) (by decide) ?_
            clear hf; intro a ha hf
            exact st_nil hf (th_n ⟨ha, rfl⟩)
          clear hf; intro a hf
          refine dr_take 40 (.bool z116) rfl (by kernel_rfl) (by kernel_rfl) (by kernel_rfl) (by kernel_rfl) rfl rfl hf (by decide) rfl (fun w hp => ?_) ⟨_, hp⟩ ?_
          · obtain ⟨_, hp⟩ := hp
            refine st_move hf rfl rfl (by decide) ?_
            clear hf; intro a ha hf
            exact st_nil hf (th_n ⟨ha, rfl⟩)
          clear hf; intro a hf
          refine dr_out 41 rfl (by kernel_rfl) (by kernel_rfl) (by kernel_rfl) (by kernel_rfl) rfl hf (by decide) rfl (wantN hf rfl rfl hb118) ⟨_, hp⟩ ?_
          clear hf; intro a hf
          refine dr_out 42 rfl (by kernel_rfl) (by kernel_rfl) (by kernel_rfl) (by kernel_rfl) rfl hf (by decide) rfl (wantN hf rfl rfl hb118) ⟨_, hp⟩ ?_
          clear hf; intro a hf
          refine dr_out 43 rfl (by kernel_rfl) (by kernel_rfl) (by kernel_rfl) (by kernel_rfl) rfl hf (by decide) rfl (wantN hf rfl rfl hb118) ⟨_, hp⟩ ?_
          clear hf; intro a hf
          refine dr_out 44 rfl (by kernel_rfl) (by kernel_rfl) (by kernel_rfl) (by kernel_rfl) rfl hf (by decide) rfl (wantN hf rfl rfl hb118) ⟨_, hp⟩ ?_
          clear hf; intro a hf
          refine dr_out 45 rfl (by kernel_rfl) (by kernel_rfl) (by kernel_rfl) (by kernel_rfl) rfl hf (by decide) rfl (wantN hf rfl rfl hb118) ⟨_, hp⟩ ?_
          clear hf; intro a hf
          refine dr_out 46 rfl (by kernel_rfl) (by kernel_rfl) (by kernel_rfl) (by kernel_rfl) rfl hf (by decide) rfl (wantN hf rfl rfl hb118) ⟨_, hp⟩ ?_
          clear hf; intro a hf
          refine dr_out 47 rfl (by kernel_rfl) (by kernel_rfl) (by kernel_rfl) (by kernel_rfl) rfl hf (by decide) rfl (wantN hf rfl rfl hb118) ⟨_, hp⟩ ?_
          clear hf; intro a hf
          refine dr_out 48 rfl (by kernel_rfl) (by kernel_rfl) (by kernel_rfl) (by kernel_rfl) rfl hf (by decide) rfl (wantN hf rfl rfl hb118) ⟨_, hp⟩ ?_
          clear hf; intro a hf
          refine dr_out 49 rfl (by kernel_rfl) (by kernel_rfl) (by kernel_rfl) (by kernel_rfl) rfl hf (by decide) rfl (wantN hf rfl rfl hb118) ⟨_, hp⟩ ?_
          clear hf; intro a hf
          refine dr_out 50 rfl (by kernel_rfl) (by kernel_rfl) (by kernel_rfl) (by kernel_rfl) rfl hf (by decide) rfl (wantN hf rfl rfl hb118) ⟨_, hp⟩ ?_
          clear hf; intro a hf
          refine dr_take 51 (.bool z137) rfl (by kernel_rfl) (by kernel_rfl) (by kernel_rfl) (by kernel_rfl) rfl rfl hf (by decide) rfl (fun w hp => ?_) ⟨_, hp⟩ ?_
          · obtain ⟨_, hp⟩ := hp
            refine st_pick (v := .bool z137) hf rfl rfl (fun _ => by rw [← hz117]; rfl) (fun hb' => absurd (hb118.symm.trans hb') (by decide)) (by decide) ?_
            clear hf; intro a ha hf
            exact st_nil hf (th_n ⟨ha, rfl⟩)
          clear hf; intro a hf
          refine dr_end (by kernel_rfl) ?_ _
          have hp := bk83 _ _ hp
          have hp := bk78 _ _ hp
          exact ⟨hf.sub ⟨rfl, rfl, rfl, rfl, rfl, rfl, rfl, rfl, rfl, rfl, rfl, rfl, rfl, trivial⟩, hp⟩
        skip
        replace hz96 := ifF hz96 hb97
        obtain ⟨hc98, hz96⟩ := chk hz96
        obtain ⟨bb100, bb101, y102, y103, hl99⟩ := RdS.pinC (p := i21) rl84 hc98.1 hc98.2
        obtain ⟨hc104, hz96⟩ := chk hz96
        obtain ⟨bb106, bb107, y108, y109, hl105⟩ := RdS.pinC (p := i21) rl85 hc104.1 hc104.2
        obtain ⟨q110, hcall111, hz96⟩ := bnd hz96
        replace hz96 := Option.some.inj hz96
        rcases Bool.eq_false_or_eq_true z116 with hb118 | hb118
        · skip
          replace hz117 := ifT hz117 hb118
          replace hz117 := Option.some.inj hz117
          refine dr_begin' (fun a w => Fr 225 a [(1, .int .i16 re1), (2, .int .i16 im2), (3, optr v1 0), (7, .int .i64 q3), (8, .int .i64 (ishl .i64 (1 : Int) (IntKind.i64.wrap ((2 : Int) * q3)))), (9, .int .i64 (((IntKind.i64.wrap (((xx0_Tone).tmod (ishl .i64 (1 : Int) (IntKind.i64.wrap ((2 : Int) * q3)))) + (ishl .i64 (1 : Int) (IntKind.i64.wrap ((2 : Int) * q3)))))).tmod (ishl .i64 (1 : Int) (IntKind.i64.wrap ((2 : Int) * q3))))), (10, .int .i64 (((IntKind.i64.wrap (((xx0_Place).tmod (ishl .i64 (1 : Int) (IntKind.i64.wrap ((2 : Int) * q3)))) + (ishl .i64 (1 : Int) (IntKind.i64.wrap ((2 : Int) * q3)))))).tmod (ishl .i64 (1 : Int) (IntKind.i64.wrap ((2 : Int) * q3))))), (11, .complex .f64 bb10 bb12), (13, v25), (15, v29), (19, .int .i64 q65), (21, .int .i64 i21), (216, .bool z137)] ∧ Hp S w0 w (Res.sl Ek.c128 28 v25 q18.1 :: Res.sl Ek.c128 28 v29 q27.1 :: Res.obj 40 v1 [.int .i64 xx0_Power, .int .i64 xx0_Place, .int .i64 xx0_Tone, .int .i64 xx0_By] :: ow)) (fun w' => ∃ l, Hp S79 w w' l) [] (by kernel_rfl) ?_
          refine dr_take 0 (.int .i64 q66.2) rfl (by kernel_rfl) (by kernel_rfl) (by kernel_rfl) (by kernel_rfl) rfl rfl hf (by decide) rfl (fun w hp => ?_) ⟨_, hp⟩ ?_
          · obtain ⟨_, hp⟩ := hp
            refine st_move hf rfl rfl (by decide) ?_
            clear hf; intro a ha hf
            exact st_nil hf (th_n ⟨ha, rfl⟩)
          clear hf; intro a hf
          refine dr_take 1 (.bool (q66.2 != (0 : Int))) rfl (by kernel_rfl) (by kernel_rfl) (by kernel_rfl) (by kernel_rfl) rfl rfl hf (by decide) rfl (fun w hp => ?_) ⟨_, hp⟩ ?_
          · obtain ⟨_, hp⟩ := hp
            refine st_ineq hf (by decide) rfl rfl rfl ?_
            clear hf; intro a ha hf
            exact st_nil hf (th_n ⟨ha, rfl⟩)
          clear hf; intro a hf
          refine dr_take 2 (.bool (q66.2 != (0 : Int))) rfl (by kernel_rfl) (by kernel_rfl) (by kernel_rfl) (by kernel_rfl) rfl rfl hf (by decide) rfl (fun w hp => ?_) ⟨_, hp⟩ ?_
          · obtain ⟨_, hp⟩ := hp
            refine st_move hf rfl rfl (by decide) ?_
            clear hf; intro a ha hf
            exact st_nil hf (th_n ⟨ha, rfl⟩)
          clear hf; intro a hf
          refine dr_take 3 (.int .i64 q68.2) rfl (by kernel_rfl) (by kernel_rfl) (by kernel_rfl) (by kernel_rfl) rfl rfl hf (by decide) (wantY hf rfl rfl hb87) (fun w hp => ?_) ⟨_, hp⟩ ?_
          · obtain ⟨_, hp⟩ := hp
            refine st_move hf (wantY hf rfl rfl hb87) rfl (by decide) ?_
            clear hf; intro a ha hf
            exact st_nil hf (th_n ⟨ha, rfl⟩)
          clear hf; intro a hf
          refine dr_take 4 (.bool (q68.2 != (0 : Int))) rfl (by kernel_rfl) (by kernel_rfl) (by kernel_rfl) (by kernel_rfl) rfl rfl hf (by decide) (wantY hf rfl rfl hb87) (fun w hp => ?_) ⟨_, hp⟩ ?_
          · obtain ⟨_, hp⟩ := hp
            refine st_ineq hf (by decide) (wantY hf rfl rfl hb87) rfl rfl ?_
            clear hf; intro a ha hf
            exact st_nil hf (th_n ⟨ha, rfl⟩)
          clear hf; intro a hf
          refine dr_take 5 (.bool ((q66.2 != (0 : Int)) || (q68.2 != (0 : Int)))) rfl (by kernel_rfl) (by kernel_rfl) (by kernel_rfl) (by kernel_rfl) rfl rfl hf (by decide) rfl (fun w hp => ?_) ⟨_, hp⟩ ?_
          · obtain ⟨_, hp⟩ := hp
            refine st_pick (v := .bool ((q66.2 != (0 : Int)) || (q68.2 != (0 : Int)))) hf rfl rfl (fun hb' => absurd (hb87.symm.trans hb') (by decide)) (fun _ => by rw [show ((q66.2 != (0 : Int)) || (q68.2 != (0 : Int))) = (q68.2 != (0 : Int)) from by rw [hb87]; rfl]; rfl) (by decide) ?_
            clear hf; intro a ha hf
            exact st_nil hf (th_n ⟨ha, rfl⟩)
          clear hf; intro a hf
          refine dr_take 6 (.bool ((q66.2 != (0 : Int)) || (q68.2 != (0 : Int)))) rfl (by kernel_rfl) (by kernel_rfl) (by kernel_rfl) (by kernel_rfl) rfl rfl hf (by decide) rfl (fun w hp => ?_) ⟨_, hp⟩ ?_
          · obtain ⟨_, hp⟩ := hp
            refine st_move hf rfl rfl (by decide) ?_
            clear hf; intro a ha hf
            exact st_nil hf (th_n ⟨ha, rfl⟩)
          clear hf; intro a hf
          refine dr_take 7 (.int .i64 q70.2) rfl (by kernel_rfl) (by kernel_rfl) (by kernel_rfl) (by kernel_rfl) rfl rfl hf (by decide) (wantY hf rfl rfl hb89) (fun w hp => ?_) ⟨_, hp⟩ ?_
          · obtain ⟨_, hp⟩ := hp
            refine st_move hf (wantY hf rfl rfl hb89) rfl (by decide) ?_
            clear hf; intro a ha hf
            exact st_nil hf (th_n ⟨ha, rfl⟩)
          clear hf; intro a hf
          refine dr_take 8 (.bool (q70.2 != (0 : Int))) rfl (by kernel_rfl) (by kernel_rfl) (by kernel_rfl) (by kernel_rfl) rfl rfl hf (by decide) (wantY hf rfl rfl hb89) (fun w hp => ?_) ⟨_, hp⟩ ?_
          · obtain ⟨_, hp⟩ := hp
            refine st_ineq hf (by decide) (wantY hf rfl rfl hb89) rfl rfl ?_
            clear hf; intro a ha hf
            exact st_nil hf (th_n ⟨ha, rfl⟩)
          clear hf; intro a hf
          refine dr_take 9 (.bool (((q66.2 != (0 : Int)) || (q68.2 != (0 : Int))) || (q70.2 != (0 : Int)))) rfl (by kernel_rfl) (by kernel_rfl) (by kernel_rfl) (by kernel_rfl) rfl rfl hf (by decide) rfl (fun w hp => ?_) ⟨_, hp⟩ ?_
          · obtain ⟨_, hp⟩ := hp
            refine st_pick (v := .bool (((q66.2 != (0 : Int)) || (q68.2 != (0 : Int))) || (q70.2 != (0 : Int)))) hf rfl rfl (fun hb' => absurd (hb89.symm.trans hb') (by decide)) (fun _ => by rw [show (((q66.2 != (0 : Int)) || (q68.2 != (0 : Int))) || (q70.2 != (0 : Int))) = (q70.2 != (0 : Int)) from by rw [hb89]; rfl]; rfl) (by decide) ?_
            clear hf; intro a ha hf
            exact st_nil hf (th_n ⟨ha, rfl⟩)
          clear hf; intro a hf
          refine dr_take 10 (.bool (((q66.2 != (0 : Int)) || (q68.2 != (0 : Int))) || (q70.2 != (0 : Int)))) rfl (by kernel_rfl) (by kernel_rfl) (by kernel_rfl) (by kernel_rfl) rfl rfl hf (by decide) rfl (fun w hp => ?_) ⟨_, hp⟩ ?_
          · obtain ⟨_, hp⟩ := hp
            refine st_move hf rfl rfl (by decide) ?_
            clear hf; intro a ha hf
            exact st_nil hf (th_n ⟨ha, rfl⟩)
          clear hf; intro a hf
          refine dr_take 11 (.int .i64 q72.2) rfl (by kernel_rfl) (by kernel_rfl) (by kernel_rfl) (by kernel_rfl) rfl rfl hf (by decide) (wantY hf rfl rfl hb91) (fun w hp => ?_) ⟨_, hp⟩ ?_
          · obtain ⟨_, hp⟩ := hp
            refine st_move hf (wantY hf rfl rfl hb91) rfl (by decide) ?_
            clear hf; intro a ha hf
            exact st_nil hf (th_n ⟨ha, rfl⟩)
          clear hf; intro a hf
          refine dr_take 12 (.bool (q72.2 != (0 : Int))) rfl (by kernel_rfl) (by kernel_rfl) (by kernel_rfl) (by kernel_rfl) rfl rfl hf (by decide) (wantY hf rfl rfl hb91) (fun w hp => ?_) ⟨_, hp⟩ ?_
          · obtain ⟨_, hp⟩ := hp
            refine st_ineq hf (by decide) (wantY hf rfl rfl hb91) rfl rfl ?_
            clear hf; intro a ha hf
            exact st_nil hf (th_n ⟨ha, rfl⟩)
          clear hf; intro a hf
          refine dr_take 13 (.bool ((((q66.2 != (0 : Int)) || (q68.2 != (0 : Int))) || (q70.2 != (0 : Int))) || (q72.2 != (0 : Int)))) rfl (by kernel_rfl) (by kernel_rfl) (by kernel_rfl) (by kernel_rfl) rfl rfl hf (by decide) rfl (fun w hp => ?_) ⟨_, hp⟩ ?_
          · obtain ⟨_, hp⟩ := hp
            refine st_pick (v := .bool ((((q66.2 != (0 : Int)) || (q68.2 != (0 : Int))) || (q70.2 != (0 : Int))) || (q72.2 != (0 : Int)))) hf rfl rfl (fun hb' => absurd (hb91.symm.trans hb') (by decide)) (fun _ => by rw [show ((((q66.2 != (0 : Int)) || (q68.2 != (0 : Int))) || (q70.2 != (0 : Int))) || (q72.2 != (0 : Int))) = (q72.2 != (0 : Int)) from by rw [hb91]; rfl]; rfl) (by decide) ?_
            clear hf; intro a ha hf
            exact st_nil hf (th_n ⟨ha, rfl⟩)
          clear hf; intro a hf
          refine dr_take 14 (.bool ((((q66.2 != (0 : Int)) || (q68.2 != (0 : Int))) || (q70.2 != (0 : Int))) || (q72.2 != (0 : Int)))) rfl (by kernel_rfl) (by kernel_rfl) (by kernel_rfl) (by kernel_rfl) rfl rfl hf (by decide) rfl (fun w hp => ?_) ⟨_, hp⟩ ?_
          · obtain ⟨_, hp⟩ := hp
            refine st_move hf rfl rfl (by decide) ?_
            clear hf; intro a ha hf
            exact st_nil hf (th_n ⟨ha, rfl⟩)
          clear hf; intro a hf
          refine dr_take 15 (.int .i64 q66.1) rfl (by kernel_rfl) (by kernel_rfl) (by kernel_rfl) (by kernel_rfl) rfl rfl hf (by decide) (wantY hf rfl rfl hb93) (fun w hp => ?_) ⟨_, hp⟩ ?_
          · obtain ⟨_, hp⟩ := hp
            refine st_move hf (wantY hf rfl rfl hb93) rfl (by decide) ?_
            clear hf; intro a ha hf
            exact st_nil hf (th_n ⟨ha, rfl⟩)
          clear hf; intro a hf
          refine dr_take 16 (.int .i64 q68.1) rfl (by kernel_rfl) (by kernel_rfl) (by kernel_rfl) (by kernel_rfl) rfl rfl hf (by decide) (wantY hf rfl rfl hb93) (fun w hp => ?_) ⟨_, hp⟩ ?_
          · obtain ⟨_, hp⟩ := hp
            refine st_move hf (wantY hf rfl rfl hb93) rfl (by decide) ?_
            clear hf; intro a ha hf
            exact st_nil hf (th_n ⟨ha, rfl⟩)
          clear hf; intro a hf
          refine dr_take 17 (.bool (q66.1 != q68.1)) rfl (by kernel_rfl) (by kernel_rfl) (by kernel_rfl) (by kernel_rfl) rfl rfl hf (by decide) (wantY hf rfl rfl hb93) (fun w hp => ?_) ⟨_, hp⟩ ?_
          · obtain ⟨_, hp⟩ := hp
            refine st_ineq hf (by decide) (wantY hf rfl rfl hb93) rfl rfl ?_
            clear hf; intro a ha hf
            exact st_nil hf (th_n ⟨ha, rfl⟩)
          clear hf; intro a hf
          refine dr_take 18 (.bool (((((q66.2 != (0 : Int)) || (q68.2 != (0 : Int))) || (q70.2 != (0 : Int))) || (q72.2 != (0 : Int))) || (q66.1 != q68.1))) rfl (by kernel_rfl) (by kernel_rfl) (by kernel_rfl) (by kernel_rfl) rfl rfl hf (by decide) rfl (fun w hp => ?_) ⟨_, hp⟩ ?_
          · obtain ⟨_, hp⟩ := hp
            refine st_pick (v := .bool (((((q66.2 != (0 : Int)) || (q68.2 != (0 : Int))) || (q70.2 != (0 : Int))) || (q72.2 != (0 : Int))) || (q66.1 != q68.1))) hf rfl rfl (fun hb' => absurd (hb93.symm.trans hb') (by decide)) (fun _ => by rw [show (((((q66.2 != (0 : Int)) || (q68.2 != (0 : Int))) || (q70.2 != (0 : Int))) || (q72.2 != (0 : Int))) || (q66.1 != q68.1)) = (q66.1 != q68.1) from by rw [hb93]; rfl]; rfl) (by decide) ?_
            clear hf; intro a ha hf
            exact st_nil hf (th_n ⟨ha, rfl⟩)
          clear hf; intro a hf
          refine dr_take 19 (.bool (((((q66.2 != (0 : Int)) || (q68.2 != (0 : Int))) || (q70.2 != (0 : Int))) || (q72.2 != (0 : Int))) || (q66.1 != q68.1))) rfl (by kernel_rfl) (by kernel_rfl) (by kernel_rfl) (by kernel_rfl) rfl rfl hf (by decide) rfl (fun w hp => ?_) ⟨_, hp⟩ ?_
          · obtain ⟨_, hp⟩ := hp
            refine st_move hf rfl rfl (by decide) ?_
            clear hf; intro a ha hf
            exact st_nil hf (th_n ⟨ha, rfl⟩)
          clear hf; intro a hf
          refine dr_take 20 (.int .i64 q66.1) rfl (by kernel_rfl) (by kernel_rfl) (by kernel_rfl) (by kernel_rfl) rfl rfl hf (by decide) (wantY hf rfl rfl hb95) (fun w hp => ?_) ⟨_, hp⟩ ?_
          · obtain ⟨_, hp⟩ := hp
            refine st_move hf (wantY hf rfl rfl hb95) rfl (by decide) ?_
            clear hf; intro a ha hf
            exact st_nil hf (th_n ⟨ha, rfl⟩)
          clear hf; intro a hf
          refine dr_take 21 (.int .i64 q70.1) rfl (by kernel_rfl) (by kernel_rfl) (by kernel_rfl) (by kernel_rfl) rfl rfl hf (by decide) (wantY hf rfl rfl hb95) (fun w hp => ?_) ⟨_, hp⟩ ?_
          · obtain ⟨_, hp⟩ := hp
            refine st_move hf (wantY hf rfl rfl hb95) rfl (by decide) ?_
            clear hf; intro a ha hf
            exact st_nil hf (th_n ⟨ha, rfl⟩)
          clear hf; intro a hf
          refine dr_take 22 (.int .i64 (IntKind.i64.wrap (q66.1 + q70.1))) rfl (by kernel_rfl) (by kernel_rfl) (by kernel_rfl) (by kernel_rfl) rfl rfl hf (by decide) (wantY hf rfl rfl hb95) (fun w hp => ?_) ⟨_, hp⟩ ?_
          · obtain ⟨_, hp⟩ := hp
            refine st_iadd hf (by decide) (wantY hf rfl rfl hb95) rfl rfl ?_
            clear hf; intro a ha hf
            exact st_nil hf (th_n ⟨ha, rfl⟩)
          clear hf; intro a hf
          refine dr_take 23 (.int .i64 (((IntKind.i64.wrap (q66.1 + q70.1))).tmod (4 : Int))) rfl (by kernel_rfl) (by kernel_rfl) (by kernel_rfl) (by kernel_rfl) rfl rfl hf (by decide) (wantY hf rfl rfl hb95) (fun w hp => ?_) ⟨_, hp⟩ ?_
          · obtain ⟨_, hp⟩ := hp
            refine st_irem hf (by decide) (wantY hf rfl rfl hb95) rfl rfl (by decide) ?_
            clear hf; intro a ha hf
            exact st_nil hf (th_n ⟨ha, rfl⟩)
          clear hf; intro a hf
          refine dr_take 24 (.int .i64 q72.1) rfl (by kernel_rfl) (by kernel_rfl) (by kernel_rfl) (by kernel_rfl) rfl rfl hf (by decide) (wantY hf rfl rfl hb95) (fun w hp => ?_) ⟨_, hp⟩ ?_
          · obtain ⟨_, hp⟩ := hp
            refine st_move hf (wantY hf rfl rfl hb95) rfl (by decide) ?_
            clear hf; intro a ha hf
            exact st_nil hf (th_n ⟨ha, rfl⟩)
          clear hf; intro a hf
          refine dr_take 25 (.bool ((((IntKind.i64.wrap (q66.1 + q70.1))).tmod (4 : Int)) != q72.1)) rfl (by kernel_rfl) (by kernel_rfl) (by kernel_rfl) (by kernel_rfl) rfl rfl hf (by decide) (wantY hf rfl rfl hb95) (fun w hp => ?_) ⟨_, hp⟩ ?_
          · obtain ⟨_, hp⟩ := hp
            refine st_ineq hf (by decide) (wantY hf rfl rfl hb95) rfl rfl ?_
            clear hf; intro a ha hf
            exact st_nil hf (th_n ⟨ha, rfl⟩)
          clear hf; intro a hf
          refine dr_take 26 (.bool ((((((q66.2 != (0 : Int)) || (q68.2 != (0 : Int))) || (q70.2 != (0 : Int))) || (q72.2 != (0 : Int))) || (q66.1 != q68.1)) || ((((IntKind.i64.wrap (q66.1 + q70.1))).tmod (4 : Int)) != q72.1))) rfl (by kernel_rfl) (by kernel_rfl) (by kernel_rfl) (by kernel_rfl) rfl rfl hf (by decide) rfl (fun w hp => ?_) ⟨_, hp⟩ ?_
          · obtain ⟨_, hp⟩ := hp
            refine st_pick (v := .bool ((((((q66.2 != (0 : Int)) || (q68.2 != (0 : Int))) || (q70.2 != (0 : Int))) || (q72.2 != (0 : Int))) || (q66.1 != q68.1)) || ((((IntKind.i64.wrap (q66.1 + q70.1))).tmod (4 : Int)) != q72.1))) hf rfl rfl (fun hb' => absurd (hb95.symm.trans hb') (by decide)) (fun _ => by rw [show ((((((q66.2 != (0 : Int)) || (q68.2 != (0 : Int))) || (q70.2 != (0 : Int))) || (q72.2 != (0 : Int))) || (q66.1 != q68.1)) || ((((IntKind.i64.wrap (q66.1 + q70.1))).tmod (4 : Int)) != q72.1)) = ((((IntKind.i64.wrap (q66.1 + q70.1))).tmod (4 : Int)) != q72.1) from by rw [hb95]; rfl]; rfl) (by decide) ?_
            clear hf; intro a ha hf
            exact st_nil hf (th_n ⟨ha, rfl⟩)
          clear hf; intro a hf
          refine dr_take 27 (.bool ((((((q66.2 != (0 : Int)) || (q68.2 != (0 : Int))) || (q70.2 != (0 : Int))) || (q72.2 != (0 : Int))) || (q66.1 != q68.1)) || ((((IntKind.i64.wrap (q66.1 + q70.1))).tmod (4 : Int)) != q72.1))) rfl (by kernel_rfl) (by kernel_rfl) (by kernel_rfl) (by kernel_rfl) rfl rfl hf (by decide) rfl (fun w hp => ?_) ⟨_, hp⟩ ?_
          · obtain ⟨_, hp⟩ := hp
            refine st_move hf rfl rfl (by decide) ?_
            clear hf; intro a ha hf
            exact st_nil hf (th_n ⟨ha, rfl⟩)
          clear hf; intro a hf
          refine dr_take 28 (v25) rfl (by kernel_rfl) (by kernel_rfl) (by kernel_rfl) (by kernel_rfl) rfl rfl hf (by decide) (wantY hf rfl rfl hb97) (fun w hp => ?_) ⟨_, hp⟩ ?_
          · obtain ⟨_, hp⟩ := hp
            refine st_move hf (wantY hf rfl rfl hb97) rfl (by decide) ?_
            clear hf; intro a ha hf
            exact st_nil hf (th_n ⟨ha, rfl⟩)
          clear hf; intro a hf
          refine dr_take 29 (.int .i64 i21) rfl (by kernel_rfl) (by kernel_rfl) (by kernel_rfl) (by kernel_rfl) rfl rfl hf (by decide) (wantY hf rfl rfl hb97) (fun w hp => ?_) ⟨_, hp⟩ ?_
          · obtain ⟨_, hp⟩ := hp
            refine st_move hf (wantY hf rfl rfl hb97) rfl (by decide) ?_
            clear hf; intro a ha hf
            exact st_nil hf (th_n ⟨ha, rfl⟩)
          clear hf; intro a hf
          refine dr_take 30 (eptr v25 i21 1) rfl (by kernel_rfl) (by kernel_rfl) (by kernel_rfl) (by kernel_rfl) rfl rfl hf (by decide) (wantY hf rfl rfl hb97) (fun w hp => ?_) ⟨_, hp⟩ ?_
          · obtain ⟨_, hp⟩ := hp
            refine st_index (E := Ek.c128) hf (by decide) Try.underlying26 elt28 (wantY hf rfl rfl hb97) rfl rfl (rl84.sl hp) hc98.1 hc98.2 ?_
            clear hf; intro a ha hf
            exact st_nil hf (th_n ⟨ha, rfl⟩)
          clear hf; intro a hf
          refine dr_take 31 (.complex .f64 bb100 bb101) rfl (by kernel_rfl) (by kernel_rfl) (by kernel_rfl) (by kernel_rfl) rfl rfl hf (by decide) (wantY hf rfl rfl hb97) (fun w hp => ?_) ⟨_, hp⟩ ?_
          · obtain ⟨_, hp⟩ := hp
            refine st_ldP hf (by decide) pl28 (wantY hf rfl rfl hb97) rfl (hl99 _ _ hp) ?_
            clear hf; intro a ha hf
            exact st_nil hf (th_n ⟨ha, rfl⟩)
          clear hf; intro a hf
          refine dr_take 32 (v29) rfl (by kernel_rfl) (by kernel_rfl) (by kernel_rfl) (by kernel_rfl) rfl rfl hf (by decide) (wantY hf rfl rfl hb97) (fun w hp => ?_) ⟨_, hp⟩ ?_
          · obtain ⟨_, hp⟩ := hp
            refine st_move hf (wantY hf rfl rfl hb97) rfl (by decide) ?_
            clear hf; intro a ha hf
            exact st_nil hf (th_n ⟨ha, rfl⟩)
          clear hf; intro a hf
          refine dr_take 33 (.int .i64 i21) rfl (by kernel_rfl) (by kernel_rfl) (by kernel_rfl) (by kernel_rfl) rfl rfl hf (by decide) (wantY hf rfl rfl hb97) (fun w hp => ?_) ⟨_, hp⟩ ?_
          · obtain ⟨_, hp⟩ := hp
            refine st_move hf (wantY hf rfl rfl hb97) rfl (by decide) ?_
            clear hf; intro a ha hf
            exact st_nil hf (th_n ⟨ha, rfl⟩)
          clear hf; intro a hf
          refine dr_take 34 (eptr v29 i21 1) rfl (by kernel_rfl) (by kernel_rfl) (by kernel_rfl) (by kernel_rfl) rfl rfl hf (by decide) (wantY hf rfl rfl hb97) (fun w hp => ?_) ⟨_, hp⟩ ?_
          · obtain ⟨_, hp⟩ := hp
            refine st_index (E := Ek.c128) hf (by decide) Try.underlying26 elt28 (wantY hf rfl rfl hb97) rfl rfl (rl85.sl hp) hc104.1 hc104.2 ?_
            clear hf; intro a ha hf
            exact st_nil hf (th_n ⟨ha, rfl⟩)
          clear hf; intro a hf
          refine dr_take 35 (.complex .f64 bb106 bb107) rfl (by kernel_rfl) (by kernel_rfl) (by kernel_rfl) (by kernel_rfl) rfl rfl hf (by decide) (wantY hf rfl rfl hb97) (fun w hp => ?_) ⟨_, hp⟩ ?_
          · obtain ⟨_, hp⟩ := hp
            refine st_ldP hf (by decide) pl28 (wantY hf rfl rfl hb97) rfl (hl105 _ _ hp) ?_
            clear hf; intro a ha hf
            exact st_nil hf (th_n ⟨ha, rfl⟩)
          clear hf; intro a hf
          refine dr_take 36 (.complex .f64 bb10 bb12) rfl (by kernel_rfl) (by kernel_rfl) (by kernel_rfl) (by kernel_rfl) rfl rfl hf (by decide) (wantY hf rfl rfl hb97) (fun w hp => ?_) ⟨_, hp⟩ ?_
          · obtain ⟨_, hp⟩ := hp
            refine st_move hf (wantY hf rfl rfl hb97) rfl (by decide) ?_
            clear hf; intro a ha hf
            exact st_nil hf (th_n ⟨ha, rfl⟩)
          clear hf; intro a hf
          refine dr_one 37 rfl (by kernel_rfl) ?_
          refine st_call hf (by decide) Try.func16 rfl rfl (wantY hf rfl rfl hb97) rfl rfl (f_plane_Mul_c hp _ _ _ (show Fl.rep bb106 ((gt q27.1 i21)).1 from y108) (show Fl.rep bb107 ((gt q27.1 i21)).2 from y109) _ _ _ (show Fl.rep bb10 (((fquo (fofi ((re1).tmod (4097 : Int))) (Fl.bits 4634204016564240384)), (fquo (fofi ((im2).tmod (4097 : Int))) (Fl.bits 4634204016564240384)))).1 from y11) (show Fl.rep bb12 (((fquo (fofi ((re1).tmod (4097 : Int))) (Fl.bits 4634204016564240384)), (fquo (fofi ((im2).tmod (4097 : Int))) (Fl.bits 4634204016564240384)))).2 from y13) hcall111) ?_
          rintro _ w ⟨v112, v113, rfl, y114, y115, hp0⟩
          clear hp; have hp := hp0; clear hp0
          replace hp : Hp _ _ _ (Res.obj 40 v1 [.int .i64 xx0_Power, .int .i64 xx0_Place, .int .i64 xx0_Tone, .int .i64 xx0_By] :: ow) := hp
          refine ⟨_, rfl, ?_⟩
          clear hf; intro a hf
          refine st_nil hf (th_n ⟨fun _ _ => ⟨_, hp⟩, ?_⟩)
          refine dr_take 38 (.bool (!ceq (gt q18.1 i21) q110)) rfl (by kernel_rfl) (by kernel_rfl) (by kernel_rfl) (by kernel_rfl) rfl rfl hf (by decide) (wantY hf rfl rfl hb97) (fun w hp => ?_) ⟨_, hp⟩ ?_
          · obtain ⟨_, hp⟩ := hp
            refine st_ccmp (r_cne (x := (gt q18.1 i21)) (y := q110) y102 y103 y114 y115) hf (by decide) (wantY hf rfl rfl hb97) rfl rfl ?_
            clear hf; intro a ha hf
            exact st_nil hf (th_n ⟨ha, rfl⟩)
          clear hf; intro a hf
          refine dr_take 39 (.bool z116) rfl (by kernel_rfl) (by kernel_rfl) (by kernel_rfl) (by kernel_rfl) rfl rfl hf (by decide) rfl (fun w hp => ?_) ⟨_, hp⟩ ?_
          · obtain ⟨_, hp⟩ := hp
            refine st_pick (v := .bool z116) hf rfl rfl (fun hb' => absurd (hb97.symm.trans hb') (by decide)) (fun _ => by rw [← hz96]; rfl) (by decide) ?_
            clear hf; intro a ha hf
            exact st_nil hf (th_n ⟨ha, rfl⟩)
          clear hf; intro a hf
          refine dr_take 40 (.bool z116) rfl (by kernel_rfl) (by kernel_rfl) (by kernel_rfl) (by kernel_rfl) rfl rfl hf (by decide) rfl (fun w hp => ?_) ⟨_, hp⟩ ?_
          · obtain ⟨_, hp⟩ := hp
            refine st_move hf rfl rfl (by decide) ?_
            clear hf; intro a ha hf
            exact st_nil hf (th_n ⟨ha, rfl⟩)
          clear hf; intro a hf
          refine dr_out 41 rfl (by kernel_rfl) (by kernel_rfl) (by kernel_rfl) (by kernel_rfl) rfl hf (by decide) rfl (wantN hf rfl rfl hb118) ⟨_, hp⟩ ?_
          clear hf; intro a hf
          refine dr_out 42 rfl (by kernel_rfl) (by kernel_rfl) (by kernel_rfl) (by kernel_rfl) rfl hf (by decide) rfl (wantN hf rfl rfl hb118) ⟨_, hp⟩ ?_
          clear hf; intro a hf
          refine dr_out 43 rfl (by kernel_rfl) (by kernel_rfl) (by kernel_rfl) (by kernel_rfl) rfl hf (by decide) rfl (wantN hf rfl rfl hb118) ⟨_, hp⟩ ?_
          clear hf; intro a hf
          refine dr_out 44 rfl (by kernel_rfl) (by kernel_rfl) (by kernel_rfl) (by kernel_rfl) rfl hf (by decide) rfl (wantN hf rfl rfl hb118) ⟨_, hp⟩ ?_
          clear hf; intro a hf
          refine dr_out 45 rfl (by kernel_rfl) (by kernel_rfl) (by kernel_rfl) (by kernel_rfl) rfl hf (by decide) rfl (wantN hf rfl rfl hb118) ⟨_, hp⟩ ?_
          clear hf; intro a hf
          refine dr_out 46 rfl (by kernel_rfl) (by kernel_rfl) (by kernel_rfl) (by kernel_rfl) rfl hf (by decide) rfl (wantN hf rfl rfl hb118) ⟨_, hp⟩ ?_
          clear hf; intro a hf
          refine dr_out 47 rfl (by kernel_rfl) (by kernel_rfl) (by kernel_rfl) (by kernel_rfl) rfl hf (by decide) rfl (wantN hf rfl rfl hb118) ⟨_, hp⟩ ?_
          clear hf; intro a hf
          refine dr_out 48 rfl (by kernel_rfl) (by kernel_rfl) (by kernel_rfl) (by kernel_rfl) rfl hf (by decide) rfl (wantN hf rfl rfl hb118) ⟨_, hp⟩ ?_
          clear hf; intro a hf
          refine dr_out 49 rfl (by kernel_rfl) (by kernel_rfl) (by kernel_rfl) (by kernel_rfl) rfl hf (by decide) rfl (wantN hf rfl rfl hb118) ⟨_, hp⟩ ?_
          clear hf; intro a hf
          refine dr_out 50 rfl (by kernel_rfl) (by kernel_rfl) (by kernel_rfl) (by kernel_rfl) rfl hf (by decide) rfl (wantN hf rfl rfl hb118) ⟨_, hp⟩ ?_
          clear hf; intro a hf
          refine dr_take 51 (.bool z137) rfl (by kernel_rfl) (by kernel_rfl) (by kernel_rfl) (by kernel_rfl) rfl rfl hf (by decide) rfl (fun w hp => ?_) ⟨_, hp⟩ ?_
          · obtain ⟨_, hp⟩ := hp
            refine st_pick (v := .bool z137) hf rfl rfl (fun _ => by rw [← hz117]; rfl) (fun hb' => absurd (hb118.symm.trans hb') (by decide)) (by decide) ?_
            clear hf; intro a ha hf
            exact st_nil hf (th_n ⟨ha, rfl⟩)
          clear hf; intro a hf
          refine dr_end (by kernel_rfl) ?_ _
          have hp := bk83 _ _ hp
          have hp := bk78 _ _ hp
          exact ⟨hf.sub ⟨rfl, rfl, rfl, rfl, rfl, rfl, rfl, rfl, rfl, rfl, rfl, rfl, rfl, trivial⟩, hp⟩
        skip
        replace hz117 := ifF hz117 hb118
        obtain ⟨hc119, hz117⟩ := chk hz117
        obtain ⟨bb121, bb122, y123, y124, hl120⟩ := RdS.pinC (p := i21) rl85 hc119.1 hc119.2
        obtain ⟨hc125, hz117⟩ := chk hz117
        obtain ⟨bb127, bb128, y129, y130, hl126⟩ := RdS.pinC (p := (0 : Int)) rl85 hc125.1 hc125.2
        obtain ⟨q131, hcall132, hz117⟩ := bnd hz117
        replace hz117 := Option.some.inj hz117
        refine dr_begin' (fun a w => Fr 225 a [(1, .int .i16 re1), (2, .int .i16 im2), (3, optr v1 0), (7, .int .i64 q3), (8, .int .i64 (ishl .i64 (1 : Int) (IntKind.i64.wrap ((2 : Int) * q3)))), (9, .int .i64 (((IntKind.i64.wrap (((xx0_Tone).tmod (ishl .i64 (1 : Int) (IntKind.i64.wrap ((2 : Int) * q3)))) + (ishl .i64 (1 : Int) (IntKind.i64.wrap ((2 : Int) * q3)))))).tmod (ishl .i64 (1 : Int) (IntKind.i64.wrap ((2 : Int) * q3))))), (10, .int .i64 (((IntKind.i64.wrap (((xx0_Place).tmod (ishl .i64 (1 : Int) (IntKind.i64.wrap ((2 : Int) * q3)))) + (ishl .i64 (1 : Int) (IntKind.i64.wrap ((2 : Int) * q3)))))).tmod (ishl .i64 (1 : Int) (IntKind.i64.wrap ((2 : Int) * q3))))), (11, .complex .f64 bb10 bb12), (13, v25), (15, v29), (19, .int .i64 q65), (21, .int .i64 i21), (216, .bool z137)] ∧ Hp S w0 w (Res.sl Ek.c128 28 v25 q18.1 :: Res.sl Ek.c128 28 v29 q27.1 :: Res.obj 40 v1 [.int .i64 xx0_Power, .int .i64 xx0_Place, .int .i64 xx0_Tone, .int .i64 xx0_By] :: ow)) (fun w' => ∃ l, Hp S79 w w' l) [] (by kernel_rfl) ?_
        refine dr_take 0 (.int .i64 q66.2) rfl (by kernel_rfl) (by kernel_rfl) (by kernel_rfl) (by kernel_rfl) rfl rfl hf (by decide) rfl (fun w hp => ?_) ⟨_, hp⟩ ?_
        · obtain ⟨_, hp⟩ := hp
          refine st_move hf rfl rfl (by decide) ?_
          clear hf; intro a ha hf
          exact st_nil hf (th_n ⟨ha, rfl⟩)
        clear hf; intro a hf
        refine dr_take 1 (.bool (q66.2 != (0 : Int))) rfl (by kernel_rfl) (by kernel_rfl) (by kernel_rfl) (by kernel_rfl) rfl rfl hf (by decide) rfl (fun w hp => ?_) ⟨_, hp⟩ ?_
        · obtain ⟨_, hp⟩ := hp
          refine st_ineq hf (by decide) rfl rfl rfl ?_
          clear hf; intro a ha hf
          exact st_nil hf (th_n ⟨ha, rfl⟩)
        clear hf; intro a hf
        refine dr_take 2 (.bool (q66.2 != (0 : Int))) rfl (by kernel_rfl) (by kernel_rfl) (by kernel_rfl) (by kernel_rfl) rfl rfl hf (by decide) rfl (fun w hp => ?_) ⟨_, hp⟩ ?_
        · obtain ⟨_, hp⟩ := hp
          refine st_move hf rfl rfl (by decide) ?_
          clear hf; intro a ha hf
          exact st_nil hf (th_n ⟨ha, rfl⟩)
        clear hf; intro a hf
        refine dr_take 3 (.int .i64 q68.2) rfl (by kernel_rfl) (by kernel_rfl) (by kernel_rfl) (by kernel_rfl) rfl rfl hf (by decide) (wantY hf rfl rfl hb87) (fun w hp => ?_) ⟨_, hp⟩ ?_
        · obtain ⟨_, hp⟩ := hp
          refine st_move hf (wantY hf rfl rfl hb87) rfl (by decide) ?_
          clear hf; intro a ha hf
          exact st_nil hf (th_n ⟨ha, rfl⟩)
        clear hf; intro a hf
        refine dr_take 4 (.bool (q68.2 != (0 : Int))) rfl (by kernel_rfl) (by kernel_rfl) (by kernel_rfl) (by kernel_rfl) rfl rfl hf (by decide) (wantY hf rfl rfl hb87) (fun w hp => ?_) ⟨_, hp⟩ ?_
        · obtain ⟨_, hp⟩ := hp
          refine st_ineq hf (by decide) (wantY hf rfl rfl hb87) rfl rfl ?_
          clear hf; intro a ha hf
          exact st_nil hf (th_n ⟨ha, rfl⟩)
        clear hf; intro a hf
        refine dr_take 5 (.bool ((q66.2 != (0 : Int)) || (q68.2 != (0 : Int)))) rfl (by kernel_rfl) (by kernel_rfl) (by kernel_rfl) (by kernel_rfl) rfl rfl hf (by decide) rfl (fun w hp => ?_) ⟨_, hp⟩ ?_
        · obtain ⟨_, hp⟩ := hp
          refine st_pick (v := .bool ((q66.2 != (0 : Int)) || (q68.2 != (0 : Int)))) hf rfl rfl (fun hb' => absurd (hb87.symm.trans hb') (by decide)) (fun _ => by rw [show ((q66.2 != (0 : Int)) || (q68.2 != (0 : Int))) = (q68.2 != (0 : Int)) from by rw [hb87]; rfl]; rfl) (by decide) ?_
          clear hf; intro a ha hf
          exact st_nil hf (th_n ⟨ha, rfl⟩)
        clear hf; intro a hf
        refine dr_take 6 (.bool ((q66.2 != (0 : Int)) || (q68.2 != (0 : Int)))) rfl (by kernel_rfl) (by kernel_rfl) (by kernel_rfl) (by kernel_rfl) rfl rfl hf (by decide) rfl (fun w hp => ?_) ⟨_, hp⟩ ?_
        · obtain ⟨_, hp⟩ := hp
          refine st_move hf rfl rfl (by decide) ?_
          clear hf; intro a ha hf
          exact st_nil hf (th_n ⟨ha, rfl⟩)
        clear hf; intro a hf
        refine dr_take 7 (.int .i64 q70.2) rfl (by kernel_rfl) (by kernel_rfl) (by kernel_rfl) (by kernel_rfl) rfl rfl hf (by decide) (wantY hf rfl rfl hb89) (fun w hp => ?_) ⟨_, hp⟩ ?_
        · obtain ⟨_, hp⟩ := hp
          refine st_move hf (wantY hf rfl rfl hb89) rfl (by decide) ?_
          clear hf; intro a ha hf
          exact st_nil hf (th_n ⟨ha, rfl⟩)
        clear hf; intro a hf
        refine dr_take 8 (.bool (q70.2 != (0 : Int))) rfl (by kernel_rfl) (by kernel_rfl) (by kernel_rfl) (by kernel_rfl) rfl rfl hf (by decide) (wantY hf rfl rfl hb89) (fun w hp => ?_) ⟨_, hp⟩ ?_
        · obtain ⟨_, hp⟩ := hp
          refine st_ineq hf (by decide) (wantY hf rfl rfl hb89) rfl rfl ?_
          clear hf; intro a ha hf
          exact st_nil hf (th_n ⟨ha, rfl⟩)
        clear hf; intro a hf
        refine dr_take 9 (.bool (((q66.2 != (0 : Int)) || (q68.2 != (0 : Int))) || (q70.2 != (0 : Int)))) rfl (by kernel_rfl) (by kernel_rfl) (by kernel_rfl) (by kernel_rfl) rfl rfl hf (by decide) rfl (fun w hp => ?_) ⟨_, hp⟩ ?_
        · obtain ⟨_, hp⟩ := hp
          refine st_pick (v := .bool (((q66.2 != (0 : Int)) || (q68.2 != (0 : Int))) || (q70.2 != (0 : Int)))) hf rfl rfl (fun hb' => absurd (hb89.symm.trans hb') (by decide)) (fun _ => by rw [show (((q66.2 != (0 : Int)) || (q68.2 != (0 : Int))) || (q70.2 != (0 : Int))) = (q70.2 != (0 : Int)) from by rw [hb89]; rfl]; rfl) (by decide) ?_
          clear hf; intro a ha hf
          exact st_nil hf (th_n ⟨ha, rfl⟩)
        clear hf; intro a hf
        refine dr_take 10 (.bool (((q66.2 != (0 : Int)) || (q68.2 != (0 : Int))) || (q70.2 != (0 : Int)))) rfl (by kernel_rfl) (by kernel_rfl) (by kernel_rfl) (by kernel_rfl) rfl rfl hf (by decide) rfl (fun w hp => ?_) ⟨_, hp⟩ ?_
        · obtain ⟨_, hp⟩ := hp
          refine st_move hf rfl rfl (by decide) ?_
          clear hf; intro a ha hf
          exact st_nil hf (th_n ⟨ha, rfl⟩)
        clear hf; intro a hf
        refine dr_take 11 (.int .i64 q72.2) rfl (by kernel_rfl) (by kernel_rfl) (by kernel_rfl) (by kernel_rfl) rfl rfl hf (by decide) (wantY hf rfl rfl hb91) (fun w hp => ?_) ⟨_, hp⟩ ?_
        · obtain ⟨_, hp⟩ := hp
          refine st_move hf (wantY hf rfl rfl hb91) rfl (by decide) ?_
          clear hf; intro a ha hf
          exact st_nil hf (th_n ⟨ha, rfl⟩)
        clear hf; intro a hf
        refine dr_take 12 (.bool (q72.2 != (0 : Int))) rfl (by kernel_rfl) (by kernel_rfl) (by kernel_rfl) (by kernel_rfl) rfl rfl hf (by decide) (wantY hf rfl rfl hb91) (fun w hp => ?_) ⟨_, hp⟩ ?_
        · obtain ⟨_, hp⟩ := hp
          refine st_ineq hf (by decide) (wantY hf rfl rfl hb91) rfl rfl ?_
          clear hf; intro a ha hf
          exact st_nil hf (th_n ⟨ha, rfl⟩)
        clear hf; intro a hf
        refine dr_take 13 (.bool ((((q66.2 != (0 : Int)) || (q68.2 != (0 : Int))) || (q70.2 != (0 : Int))) || (q72.2 != (0 : Int)))) rfl (by kernel_rfl) (by kernel_rfl) (by kernel_rfl) (by kernel_rfl) rfl rfl hf (by decide) rfl (fun w hp => ?_) ⟨_, hp⟩ ?_
        · obtain ⟨_, hp⟩ := hp
          refine st_pick (v := .bool ((((q66.2 != (0 : Int)) || (q68.2 != (0 : Int))) || (q70.2 != (0 : Int))) || (q72.2 != (0 : Int)))) hf rfl rfl (fun hb' => absurd (hb91.symm.trans hb') (by decide)) (fun _ => by rw [show ((((q66.2 != (0 : Int)) || (q68.2 != (0 : Int))) || (q70.2 != (0 : Int))) || (q72.2 != (0 : Int))) = (q72.2 != (0 : Int)) from by rw [hb91]; rfl]; rfl) (by decide) ?_
          clear hf; intro a ha hf
          exact st_nil hf (th_n ⟨ha, rfl⟩)
        clear hf; intro a hf
        refine dr_take 14 (.bool ((((q66.2 != (0 : Int)) || (q68.2 != (0 : Int))) || (q70.2 != (0 : Int))) || (q72.2 != (0 : Int)))) rfl (by kernel_rfl) (by kernel_rfl) (by kernel_rfl) (by kernel_rfl) rfl rfl hf (by decide) rfl (fun w hp => ?_) ⟨_, hp⟩ ?_
        · obtain ⟨_, hp⟩ := hp
          refine st_move hf rfl rfl (by decide) ?_
          clear hf; intro a ha hf
          exact st_nil hf (th_n ⟨ha, rfl⟩)
        clear hf; intro a hf
        refine dr_take 15 (.int .i64 q66.1) rfl (by kernel_rfl) (by kernel_rfl) (by kernel_rfl) (by kernel_rfl) rfl rfl hf (by decide) (wantY hf rfl rfl hb93) (fun w hp => ?_) ⟨_, hp⟩ ?_
        · obtain ⟨_, hp⟩ := hp
          refine st_move hf (wantY hf rfl rfl hb93) rfl (by decide) ?_
          clear hf; intro a ha hf
          exact st_nil hf (th_n ⟨ha, rfl⟩)
        clear hf; intro a hf
        refine dr_take 16 (.int .i64 q68.1) rfl (by kernel_rfl) (by kernel_rfl) (by kernel_rfl) (by kernel_rfl) rfl rfl hf (by decide) (wantY hf rfl rfl hb93) (fun w hp => ?_) ⟨_, hp⟩ ?_
        · obtain ⟨_, hp⟩ := hp
          refine st_move hf (wantY hf rfl rfl hb93) rfl (by decide) ?_
          clear hf; intro a ha hf
          exact st_nil hf (th_n ⟨ha, rfl⟩)
        clear hf; intro a hf
        refine dr_take 17 (.bool (q66.1 != q68.1)) rfl (by kernel_rfl) (by kernel_rfl) (by kernel_rfl) (by kernel_rfl) rfl rfl hf (by decide) (wantY hf rfl rfl hb93) (fun w hp => ?_) ⟨_, hp⟩ ?_
        · obtain ⟨_, hp⟩ := hp
          refine st_ineq hf (by decide) (wantY hf rfl rfl hb93) rfl rfl ?_
          clear hf; intro a ha hf
          exact st_nil hf (th_n ⟨ha, rfl⟩)
        clear hf; intro a hf
        refine dr_take 18 (.bool (((((q66.2 != (0 : Int)) || (q68.2 != (0 : Int))) || (q70.2 != (0 : Int))) || (q72.2 != (0 : Int))) || (q66.1 != q68.1))) rfl (by kernel_rfl) (by kernel_rfl) (by kernel_rfl) (by kernel_rfl) rfl rfl hf (by decide) rfl (fun w hp => ?_) ⟨_, hp⟩ ?_
        · obtain ⟨_, hp⟩ := hp
          refine st_pick (v := .bool (((((q66.2 != (0 : Int)) || (q68.2 != (0 : Int))) || (q70.2 != (0 : Int))) || (q72.2 != (0 : Int))) || (q66.1 != q68.1))) hf rfl rfl (fun hb' => absurd (hb93.symm.trans hb') (by decide)) (fun _ => by rw [show (((((q66.2 != (0 : Int)) || (q68.2 != (0 : Int))) || (q70.2 != (0 : Int))) || (q72.2 != (0 : Int))) || (q66.1 != q68.1)) = (q66.1 != q68.1) from by rw [hb93]; rfl]; rfl) (by decide) ?_
          clear hf; intro a ha hf
          exact st_nil hf (th_n ⟨ha, rfl⟩)
        clear hf; intro a hf
        refine dr_take 19 (.bool (((((q66.2 != (0 : Int)) || (q68.2 != (0 : Int))) || (q70.2 != (0 : Int))) || (q72.2 != (0 : Int))) || (q66.1 != q68.1))) rfl (by kernel_rfl) (by kernel_rfl) (by kernel_rfl) (by kernel_rfl) rfl rfl hf (by decide) rfl (fun w hp => ?_) ⟨_, hp⟩ ?_
        · obtain ⟨_, hp⟩ := hp
          refine st_move hf rfl rfl (by decide) ?_
          clear hf; intro a ha hf
          exact st_nil hf (th_n ⟨ha, rfl⟩)
        clear hf; intro a hf
        refine dr_take 20 (.int .i64 q66.1) rfl (by kernel_rfl) (by kernel_rfl) (by kernel_rfl) (by kernel_rfl) rfl rfl hf (by decide) (wantY hf rfl rfl hb95) (fun w hp => ?_) ⟨_, hp⟩ ?_
        · obtain ⟨_, hp⟩ := hp
          refine st_move hf (wantY hf rfl rfl hb95) rfl (by decide) ?_
          clear hf; intro a ha hf
          exact st_nil hf (th_n ⟨ha, rfl⟩)
        clear hf; intro a hf
        refine dr_take 21 (.int .i64 q70.1) rfl (by kernel_rfl) (by kernel_rfl) (by kernel_rfl) (by kernel_rfl) rfl rfl hf (by decide) (wantY hf rfl rfl hb95) (fun w hp => ?_) ⟨_, hp⟩ ?_
        · obtain ⟨_, hp⟩ := hp
          refine st_move hf (wantY hf rfl rfl hb95) rfl (by decide) ?_
          clear hf; intro a ha hf
          exact st_nil hf (th_n ⟨ha, rfl⟩)
        clear hf; intro a hf
        refine dr_take 22 (.int .i64 (IntKind.i64.wrap (q66.1 + q70.1))) rfl (by kernel_rfl) (by kernel_rfl) (by kernel_rfl) (by kernel_rfl) rfl rfl hf (by decide) (wantY hf rfl rfl hb95) (fun w hp => ?_) ⟨_, hp⟩ ?_
        · obtain ⟨_, hp⟩ := hp
          refine st_iadd hf (by decide) (wantY hf rfl rfl hb95) rfl rfl ?_
          clear hf; intro a ha hf
          exact st_nil hf (th_n ⟨ha, rfl⟩)
        clear hf; intro a hf
        refine dr_take 23 (.int .i64 (((IntKind.i64.wrap (q66.1 + q70.1))).tmod (4 : Int))) rfl (by kernel_rfl) (by kernel_rfl) (by kernel_rfl) (by kernel_rfl) rfl rfl hf (by decide) (wantY hf rfl rfl hb95) (fun w hp => ?_) ⟨_, hp⟩ ?_
        · obtain ⟨_, hp⟩ := hp
          refine st_irem hf (by decide) (wantY hf rfl rfl hb95) rfl rfl (by decide) ?_
          clear hf; intro a ha hf
          exact st_nil hf (th_n ⟨ha, rfl⟩)
        clear hf; intro a hf
        refine dr_take 24 (.int .i64 q72.1) rfl (by kernel_rfl) (by kernel_rfl) (by kernel_rfl) (by kernel_rfl) rfl rfl hf (by decide) (wantY hf rfl rfl hb95) (fun w hp => ?_) ⟨_, hp⟩ ?_
        · obtain ⟨_, hp⟩ := hp
          refine st_move hf (wantY hf rfl rfl hb95) rfl (by decide) ?_
          clear hf; intro a ha hf
          exact st_nil hf (th_n ⟨ha, rfl⟩)
        clear hf; intro a hf
        refine dr_take 25 (.bool ((((IntKind.i64.wrap (q66.1 + q70.1))).tmod (4 : Int)) != q72.1)) rfl (by kernel_rfl) (by kernel_rfl) (by kernel_rfl) (by kernel_rfl) rfl rfl hf (by decide) (wantY hf rfl rfl hb95) (fun w hp => ?_) ⟨_, hp⟩ ?_
        · obtain ⟨_, hp⟩ := hp
          refine st_ineq hf (by decide) (wantY hf rfl rfl hb95) rfl rfl ?_
          clear hf; intro a ha hf
          exact st_nil hf (th_n ⟨ha, rfl⟩)
        clear hf; intro a hf
        refine dr_take 26 (.bool ((((((q66.2 != (0 : Int)) || (q68.2 != (0 : Int))) || (q70.2 != (0 : Int))) || (q72.2 != (0 : Int))) || (q66.1 != q68.1)) || ((((IntKind.i64.wrap (q66.1 + q70.1))).tmod (4 : Int)) != q72.1))) rfl (by kernel_rfl) (by kernel_rfl) (by kernel_rfl) (by kernel_rfl) rfl rfl hf (by decide) rfl (fun w hp => ?_) ⟨_, hp⟩ ?_
        · obtain ⟨_, hp⟩ := hp
          refine st_pick (v := .bool ((((((q66.2 != (0 : Int)) || (q68.2 != (0 : Int))) || (q70.2 != (0 : Int))) || (q72.2 != (0 : Int))) || (q66.1 != q68.1)) || ((((IntKind.i64.wrap (q66.1 + q70.1))).tmod (4 : Int)) != q72.1))) hf rfl rfl (fun hb' => absurd (hb95.symm.trans hb') (by decide)) (fun _ => by rw [show ((((((q66.2 != (0 : Int)) || (q68.2 != (0 : Int))) || (q70.2 != (0 : Int))) || (q72.2 != (0 : Int))) || (q66.1 != q68.1)) || ((((IntKind.i64.wrap (q66.1 + q70.1))).tmod (4 : Int)) != q72.1)) = ((((IntKind.i64.wrap (q66.1 + q70.1))).tmod (4 : Int)) != q72.1) from by rw [hb95]; rfl]; rfl) (by decide) ?_
          clear hf; intro a ha hf
          exact st_nil hf (th_n ⟨ha, rfl⟩)
        clear hf; intro a hf
        refine dr_take 27 (.bool ((((((q66.2 != (0 : Int)) || (q68.2 != (0 : Int))) || (q70.2 != (0 : Int))) || (q72.2 != (0 : Int))) || (q66.1 != q68.1)) || ((((IntKind.i64.wrap (q66.1 + q70.1))).tmod (4 : Int)) != q72.1))) rfl (by kernel_rfl) (by kernel_rfl) (by kernel_rfl) (by kernel_rfl) rfl rfl hf (by decide) rfl (fun w hp => ?_) ⟨_, hp⟩ ?_
        · obtain ⟨_, hp⟩ := hp
          refine st_move hf rfl rfl (by decide) ?_
          clear hf; intro a ha hf
          exact st_nil hf (th_n ⟨ha, rfl⟩)
        clear hf; intro a hf
        refine dr_take 28 (v25) rfl (by kernel_rfl) (by kernel_rfl) (by kernel_rfl) (by kernel_rfl) rfl rfl hf (by decide) (wantY hf rfl rfl hb97) (fun w hp => ?_) ⟨_, hp⟩ ?_
        · obtain ⟨_, hp⟩ := hp
          refine st_move hf (wantY hf rfl rfl hb97) rfl (by decide) ?_
          clear hf; intro a ha hf
          exact st_nil hf (th_n ⟨ha, rfl⟩)
        clear hf; intro a hf
        refine dr_take 29 (.int .i64 i21) rfl (by kernel_rfl) (by kernel_rfl) (by kernel_rfl) (by kernel_rfl) rfl rfl hf (by decide) (wantY hf rfl rfl hb97) (fun w hp => ?_) ⟨_, hp⟩ ?_
        · obtain ⟨_, hp⟩ := hp
          refine st_move hf (wantY hf rfl rfl hb97) rfl (by decide) ?_
          clear hf; intro a ha hf
          exact st_nil hf (th_n ⟨ha, rfl⟩)
        clear hf; intro a hf
        refine dr_take 30 (eptr v25 i21 1) rfl (by kernel_rfl) (by kernel_rfl) (by kernel_rfl) (by kernel_rfl) rfl rfl hf (by decide) (wantY hf rfl rfl hb97) (fun w hp => ?_) ⟨_, hp⟩ ?_
        · obtain ⟨_, hp⟩ := hp
          refine st_index (E := Ek.c128) hf (by decide) Try.underlying26 elt28 (wantY hf rfl rfl hb97) rfl rfl (rl84.sl hp) hc98.1 hc98.2 ?_
          clear hf; intro a ha hf
          exact st_nil hf (th_n ⟨ha, rfl⟩)
        clear hf; intro a hf
        refine dr_take 31 (.complex .f64 bb100 bb101) rfl (by kernel_rfl) (by kernel_rfl) (by kernel_rfl) (by kernel_rfl) rfl rfl hf (by decide) (wantY hf rfl rfl hb97) (fun w hp => ?_) ⟨_, hp⟩ ?_
        · obtain ⟨_, hp⟩ := hp
          refine st_ldP hf (by decide) pl28 (wantY hf rfl rfl hb97) rfl (hl99 _ _ hp) ?_
          clear hf; intro a ha hf
          exact st_nil hf (th_n ⟨ha, rfl⟩)
        clear hf; intro a hf
        refine dr_take 32 (v29) rfl (by kernel_rfl) (by kernel_rfl) (by kernel_rfl) (by kernel_rfl) rfl rfl hf (by decide) (wantY hf rfl rfl hb97) (fun w hp => ?_) ⟨_, hp⟩ ?_
        · obtain ⟨_, hp⟩ := hp
          refine st_move hf (wantY hf rfl rfl hb97) rfl (by decide) ?_
          clear hf; intro a ha hf
          exact st_nil hf (th_n ⟨ha, rfl⟩)
        clear hf; intro a hf
        refine dr_take 33 (.int .i64 i21) rfl (by kernel_rfl) (by kernel_rfl) (by kernel_rfl) (by kernel_rfl) rfl rfl hf (by decide) (wantY hf rfl rfl hb97) (fun w hp => ?_) ⟨_, hp⟩ ?_
        · obtain ⟨_, hp⟩ := hp
          refine st_move hf (wantY hf rfl rfl hb97) rfl (by decide) ?_
          clear hf; intro a ha hf
          exact st_nil hf (th_n ⟨ha, rfl⟩)
        clear hf; intro a hf
        refine dr_take 34 (eptr v29 i21 1) rfl (by kernel_rfl) (by kernel_rfl) (by kernel_rfl) (by kernel_rfl) rfl rfl hf (by decide) (wantY hf rfl rfl hb97) (fun w hp => ?_) ⟨_, hp⟩ ?_
        · obtain ⟨_, hp⟩ := hp
          refine st_index (E := Ek.c128) hf (by decide) Try.underlying26 elt28 (wantY hf rfl rfl hb97) rfl rfl (rl85.sl hp) hc104.1 hc104.2 ?_
          clear hf; intro a ha hf
          exact st_nil hf (th_n ⟨ha, rfl⟩)
        clear hf; intro a hf
        refine dr_take 35 (.complex .f64 bb106 bb107) rfl (by kernel_rfl) (by kernel_rfl) (by kernel_rfl) (by kernel_rfl) rfl rfl hf (by decide) (wantY hf rfl rfl hb97) (fun w hp => ?_) ⟨_, hp⟩ ?_
        · obtain ⟨_, hp⟩ := hp
          refine st_ldP hf (by decide) pl28 (wantY hf rfl rfl hb97) rfl (hl105 _ _ hp) ?_
          clear hf; intro a ha hf
          exact st_nil hf (th_n ⟨ha, rfl⟩)
        clear hf; intro a hf
        refine dr_take 36 (.complex .f64 bb10 bb12) rfl (by kernel_rfl) (by kernel_rfl) (by kernel_rfl) (by kernel_rfl) rfl rfl hf (by decide) (wantY hf rfl rfl hb97) (fun w hp => ?_) ⟨_, hp⟩ ?_
        · obtain ⟨_, hp⟩ := hp
          refine st_move hf (wantY hf rfl rfl hb97) rfl (by decide) ?_
          clear hf; intro a ha hf
          exact st_nil hf (th_n ⟨ha, rfl⟩)
        clear hf; intro a hf
        refine dr_one 37 rfl (by kernel_rfl) ?_
        refine st_call hf (by decide) Try.func16 rfl rfl (wantY hf rfl rfl hb97) rfl rfl (f_plane_Mul_c hp _ _ _ (show Fl.rep bb106 ((gt q27.1 i21)).1 from y108) (show Fl.rep bb107 ((gt q27.1 i21)).2 from y109) _ _ _ (show Fl.rep bb10 (((fquo (fofi ((re1).tmod (4097 : Int))) (Fl.bits 4634204016564240384)), (fquo (fofi ((im2).tmod (4097 : Int))) (Fl.bits 4634204016564240384)))).1 from y11) (show Fl.rep bb12 (((fquo (fofi ((re1).tmod (4097 : Int))) (Fl.bits 4634204016564240384)), (fquo (fofi ((im2).tmod (4097 : Int))) (Fl.bits 4634204016564240384)))).2 from y13) hcall111) ?_
        rintro _ w ⟨v112, v113, rfl, y114, y115, hp0⟩
        clear hp; have hp := hp0; clear hp0
        replace hp : Hp _ _ _ (Res.obj 40 v1 [.int .i64 xx0_Power, .int .i64 xx0_Place, .int .i64 xx0_Tone, .int .i64 xx0_By] :: ow) := hp
        refine ⟨_, rfl, ?_⟩
        clear hf; intro a hf
        refine st_nil hf (th_n ⟨fun _ _ => ⟨_, hp⟩, ?_⟩)
        refine dr_take 38 (.bool (!ceq (gt q18.1 i21) q110)) rfl (by kernel_rfl) (by kernel_rfl) (by kernel_rfl) (by kernel_rfl) rfl rfl hf (by decide) (wantY hf rfl rfl hb97) (fun w hp => ?_) ⟨_, hp⟩ ?_
        · obtain ⟨_, hp⟩ := hp
          refine st_ccmp (r_cne (x := (gt q18.1 i21)) (y := q110) y102 y103 y114 y115) hf (by decide) (wantY hf rfl rfl hb97) rfl rfl ?_
          clear hf; intro a ha hf
          exact st_nil hf (th_n ⟨ha, rfl⟩)
        clear hf; intro a hf
        refine dr_take 39 (.bool z116) rfl (by kernel_rfl) (by kernel_rfl) (by kernel_rfl) (by kernel_rfl) rfl rfl hf (by decide) rfl (fun w hp => ?_) ⟨_, hp⟩ ?_
        · obtain ⟨_, hp⟩ := hp
          refine st_pick (v := .bool z116) hf rfl rfl (fun hb' => absurd (hb97.symm.trans hb') (by decide)) (fun _ => by rw [← hz96]; rfl) (by decide) ?_
          clear hf; intro a ha hf
          exact st_nil hf (th_n ⟨ha, rfl⟩)
        clear hf; intro a hf
        refine dr_take 40 (.bool z116) rfl (by kernel_rfl) (by kernel_rfl) (by kernel_rfl) (by kernel_rfl) rfl rfl hf (by decide) rfl (fun w hp => ?_) ⟨_, hp⟩ ?_
        · obtain ⟨_, hp⟩ := hp
          refine st_move hf rfl rfl (by decide) ?_
          clear hf; intro a ha hf
          exact st_nil hf (th_n ⟨ha, rfl⟩)
        clear hf; intro a hf
        refine dr_take 41 (v29) rfl (by kernel_rfl) (by kernel_rfl) (by kernel_rfl) (by kernel_rfl) rfl rfl hf (by decide) (wantY hf rfl rfl hb118) (fun w hp => ?_) ⟨_, hp⟩ ?_
        · obtain ⟨_, hp⟩ := hp
          refine st_move hf (wantY hf rfl rfl hb118) rfl (by decide) ?_
          clear hf; intro a ha hf
          exact st_nil hf (th_n ⟨ha, rfl⟩)
        clear hf; intro a hf
        refine dr_take 42 (.int .i64 i21) rfl (by kernel_rfl) (by kernel_rfl) (by kernel_rfl) (by kernel_rfl) rfl rfl hf (by decide) (wantY hf rfl rfl hb118) (fun w hp => ?_) ⟨_, hp⟩ ?_
        · obtain ⟨_, hp⟩ := hp
          refine st_move hf (wantY hf rfl rfl hb118) rfl (by decide) ?_
          clear hf; intro a ha hf
          exact st_nil hf (th_n ⟨ha, rfl⟩)
        clear hf; intro a hf
        refine dr_take 43 (eptr v29 i21 1) rfl (by kernel_rfl) (by kernel_rfl) (by kernel_rfl) (by kernel_rfl) rfl rfl hf (by decide) (wantY hf rfl rfl hb118) (fun w hp => ?_) ⟨_, hp⟩ ?_
        · obtain ⟨_, hp⟩ := hp
          refine st_index (E := Ek.c128) hf (by decide) Try.underlying26 elt28 (wantY hf rfl rfl hb118) rfl rfl (rl85.sl hp) hc119.1 hc119.2 ?_
          clear hf; intro a ha hf
          exact st_nil hf (th_n ⟨ha, rfl⟩)
        clear hf; intro a hf
        refine dr_take 44 (.complex .f64 bb121 bb122) rfl (by kernel_rfl) (by kernel_rfl) (by kernel_rfl) (by kernel_rfl) rfl rfl hf (by decide) (wantY hf rfl rfl hb118) (fun w hp => ?_) ⟨_, hp⟩ ?_
        · obtain ⟨_, hp⟩ := hp
          refine st_ldP hf (by decide) pl28 (wantY hf rfl rfl hb118) rfl (hl120 _ _ hp) ?_
          clear hf; intro a ha hf
          exact st_nil hf (th_n ⟨ha, rfl⟩)
        clear hf; intro a hf
        refine dr_take 45 (v29) rfl (by kernel_rfl) (by kernel_rfl) (by kernel_rfl) (by kernel_rfl) rfl rfl hf (by decide) (wantY hf rfl rfl hb118) (fun w hp => ?_) ⟨_, hp⟩ ?_
        · obtain ⟨_, hp⟩ := hp
          refine st_move hf (wantY hf rfl rfl hb118) rfl (by decide) ?_
          clear hf; intro a ha hf
          exact st_nil hf (th_n ⟨ha, rfl⟩)
        clear hf; intro a hf
        refine dr_take 46 (eptr v29 (0 : Int) 1) rfl (by kernel_rfl) (by kernel_rfl) (by kernel_rfl) (by kernel_rfl) rfl rfl hf (by decide) (wantY hf rfl rfl hb118) (fun w hp => ?_) ⟨_, hp⟩ ?_
        · obtain ⟨_, hp⟩ := hp
          refine st_index (E := Ek.c128) hf (by decide) Try.underlying26 elt28 (wantY hf rfl rfl hb118) rfl rfl (rl85.sl hp) hc125.1 hc125.2 ?_
          clear hf; intro a ha hf
          exact st_nil hf (th_n ⟨ha, rfl⟩)
        clear hf; intro a hf
        refine dr_take 47 (.complex .f64 bb127 bb128) rfl (by kernel_rfl) (by kernel_rfl) (by kernel_rfl) (by kernel_rfl) rfl rfl hf (by decide) (wantY hf rfl rfl hb118) (fun w hp => ?_) ⟨_, hp⟩ ?_
        · obtain ⟨_, hp⟩ := hp
          refine st_ldP hf (by decide) pl28 (wantY hf rfl rfl hb118) rfl (hl126 _ _ hp) ?_
          clear hf; intro a ha hf
          exact st_nil hf (th_n ⟨ha, rfl⟩)
        clear hf; intro a hf
        refine dr_take 48 (.int .i64 q66.1) rfl (by kernel_rfl) (by kernel_rfl) (by kernel_rfl) (by kernel_rfl) rfl rfl hf (by decide) (wantY hf rfl rfl hb118) (fun w hp => ?_) ⟨_, hp⟩ ?_
        · obtain ⟨_, hp⟩ := hp
          refine st_move hf (wantY hf rfl rfl hb118) rfl (by decide) ?_
          clear hf; intro a ha hf
          exact st_nil hf (th_n ⟨ha, rfl⟩)
        clear hf; intro a hf
        refine dr_one 49 rfl (by kernel_rfl) ?_
        refine st_call hf (by decide) Try.func8 rfl rfl (wantY hf rfl rfl hb118) rfl rfl (f_plane_Turn_c hp _ _ _ (show Fl.rep bb127 ((gt q27.1 (0 : Int))).1 from y129) (show Fl.rep bb128 ((gt q27.1 (0 : Int))).2 from y130) _ hcall132) ?_
        rintro _ w ⟨v133, v134, rfl, y135, y136, hp0⟩
        clear hp; have hp := hp0; clear hp0
        replace hp : Hp _ _ _ (Res.obj 40 v1 [.int .i64 xx0_Power, .int .i64 xx0_Place, .int .i64 xx0_Tone, .int .i64 xx0_By] :: ow) := hp
        refine ⟨_, rfl, ?_⟩
        clear hf; intro a hf
        refine st_nil hf (th_n ⟨fun _ _ => ⟨_, hp⟩, ?_⟩)
        refine dr_take 50 (.bool (!ceq (gt q27.1 i21) q131)) rfl (by kernel_rfl) (by kernel_rfl) (by kernel_rfl) (by kernel_rfl) rfl rfl hf (by decide) (wantY hf rfl rfl hb118) (fun w hp => ?_) ⟨_, hp⟩ ?_
        · obtain ⟨_, hp⟩ := hp
          refine st_ccmp (r_cne (x := (gt q27.1 i21)) (y := q131) y123 y124 y135 y136) hf (by decide) (wantY hf rfl rfl hb118) rfl rfl ?_
          clear hf; intro a ha hf
          exact st_nil hf (th_n ⟨ha, rfl⟩)
        clear hf; intro a hf
        refine dr_take 51 (.bool z137) rfl (by kernel_rfl) (by kernel_rfl) (by kernel_rfl) (by kernel_rfl) rfl rfl hf (by decide) rfl (fun w hp => ?_) ⟨_, hp⟩ ?_
        · obtain ⟨_, hp⟩ := hp
          refine st_pick (v := .bool z137) hf rfl rfl (fun hb' => absurd (hb118.symm.trans hb') (by decide)) (fun _ => by rw [← hz117]; rfl) (by decide) ?_
          clear hf; intro a ha hf
          exact st_nil hf (th_n ⟨ha, rfl⟩)
        clear hf; intro a hf
        refine dr_end (by kernel_rfl) ?_ _
        have hp := bk83 _ _ hp
        have hp := bk78 _ _ hp
        exact ⟨hf.sub ⟨rfl, rfl, rfl, rfl, rfl, rfl, rfl, rfl, rfl, rfl, rfl, rfl, rfl, trivial⟩, hp⟩
      rintro a w ⟨hf, hp⟩
      refine th_n ?_
      refine wp_if hf rfl (fun hb => ?_) (fun hb => ?_)
      · replace h := ifT h hb
        refine wp_seq ?_
        refine wp_reg ?_
        refine st_assign hf rfl rfl (by decide) ?_
        clear hf; intro a ha hf; clear ha
        refine st_nil hf ?_
        refine th_n ?_
        refine wp_ret ?_
        refine ib_r ?_
        refine th_r ?_
        obtain rfl := Option.some.inj h
        have hp : Hp _ _ _ (ow) := Hp.sel (pre := [Res.sl Ek.c128 28 v25 q18.1, Res.sl Ek.c128 28 v29 q27.1, Res.obj 40 v1 [.int .i64 xx0_Power, .int .i64 xx0_Place, .int .i64 xx0_Tone, .int .i64 xx0_By]]) (tail := ow) (rs' := []) hp [] (by decide) (by simp) rfl
        exact rnd_r (by simp) ⟨rfl, ⟨hf.sub ⟨rfl, trivial⟩, hp⟩⟩
      replace h := ifF h hb
      refine wp_skip ?_
      refine ib_n ?_
      refine th_n ?_
      refine wp_reg ?_
      refine st_move hf rfl rfl (by decide) ?_
      clear hf; intro a ha hf; clear ha
      refine st_iadd hf (by decide) rfl rfl rfl ?_
      clear hf; intro a ha hf; clear ha
      refine st_assign hf rfl rfl (by decide) ?_
      clear hf; intro a ha hf; clear ha
      refine st_nil hf ?_
      obtain rfl := Option.some.inj h
      have hp : Hp _ _ _ (Res.obj 40 v1 [.int .i64 xx0_Power, .int .i64 xx0_Place, .int .i64 xx0_Tone, .int .i64 xx0_By] :: Res.sl Ek.c128 28 v25 q18.1 :: Res.sl Ek.c128 28 v29 q27.1 :: ow) := Hp.sel (pre := [Res.sl Ek.c128 28 v25 q18.1, Res.sl Ek.c128 28 v29 q27.1, Res.obj 40 v1 [.int .i64 xx0_Power, .int .i64 xx0_Place, .int .i64 xx0_Tone, .int .i64 xx0_By]]) (tail := ow) (rs' := [Res.obj 40 v1 [.int .i64 xx0_Power, .int .i64 xx0_Place, .int .i64 xx0_Tone, .int .i64 xx0_By], Res.sl Ek.c128 28 v25 q18.1, Res.sl Ek.c128 28 v29 q27.1]) hp [2, 0, 1] (by decide) (by simp) rfl
      exact rnd_l ⟨hf.sub ⟨rfl, rfl, rfl, rfl, rfl, rfl, rfl, rfl, rfl, rfl, rfl, rfl, trivial⟩, hp⟩
    replace h := ifF h hb
    refine wp_exit ?_
    refine th_e ?_
    obtain rfl := Option.some.inj h
    have hp : Hp _ _ _ (Res.obj 40 v1 [.int .i64 xx0_Power, .int .i64 xx0_Place, .int .i64 xx0_Tone, .int .i64 xx0_By] :: ow) := Hp.sel (pre := [Res.obj 40 v1 [.int .i64 xx0_Power, .int .i64 xx0_Place, .int .i64 xx0_Tone, .int .i64 xx0_By], Res.sl Ek.c128 28 v25 q18.1, Res.sl Ek.c128 28 v29 q27.1]) (tail := ow) (rs' := [Res.obj 40 v1 [.int .i64 xx0_Power, .int .i64 xx0_Place, .int .i64 xx0_Tone, .int .i64 xx0_By]]) hp [0] (by decide) (by simp) rfl
    exact rnd_r (by simp) ⟨rfl, hf.sub ⟨rfl, rfl, rfl, trivial⟩, hp⟩
  clear hl hf hp
  intro e a w hne hO
  rcases q138 with q139 | q140
  · replace h := smL h
    obtain ⟨rfl, hf, hp⟩ := hO
    refine ib_same ?_
    refine th_n ?_
    refine wp_seq ?_
    refine wp_reg ?_
    refine st_move hf rfl rfl (by decide) ?_
    clear hf; intro a ha hf; clear ha
    refine st_move hf rfl rfl (by decide) ?_
    clear hf; intro a ha hf; clear ha
    refine st_fa (o' := 3) hf (by decide) (off := 3) (sz := 1) (by kernel_rfl) (by decide) rfl rfl (hp.ob (i := 0) rfl) rfl ?_
    clear hf; intro a ha hf; clear ha
    refine st_ldO (u := .int .i64 xx0_By) hf (by decide) pl3 rfl rfl (hp.ob (i := 0) rfl) rfl ?_
    clear hf; intro a ha hf; clear ha
    obtain ⟨q141, hcall142, h⟩ := bnd h
    refine st_call hf (by decide) Try.func17 rfl rfl rfl rfl rfl (f_foghornlaw09_shifted_c hp _ _ _ hcall142) ?_
    rintro _ w ⟨rfl, hp0⟩
    clear hp; have hp := hp0; clear hp0
    replace hp : Hp _ _ _ (Res.obj 40 v1 [.int .i64 xx0_Power, .int .i64 xx0_Place, .int .i64 xx0_Tone, .int .i64 xx0_By] :: ow) := hp
    refine ⟨_, rfl, ?_⟩
    clear hf; intro a hf
    refine st_move hf rfl rfl (by decide) ?_
    clear hf; intro a ha hf; clear ha
    obtain ⟨z145, hz143, h⟩ := bnd h
    refine wpList_cut 2 (fun a w => Fr 225 a [(224, .bool z145)] ∧ Hp S w0 w (Res.obj 40 v1 [.int .i64 xx0_Power, .int .i64 xx0_Place, .int .i64 xx0_Tone, .int .i64 xx0_By] :: ow)) ?_ ?_
    · rcases Bool.eq_false_or_eq_true q141 with hb144 | hb144
      · skip
        replace hz143 := ifT hz143 hb144
        obtain ⟨q146, hcall147, hz143⟩ := bnd hz143
        refine st_call hf (by decide) Try.func13 rfl rfl (wantY hf rfl rfl hb144) rfl rfl (f_foghornlaw09_awake_c hp  hcall147) ?_
        rintro _ w ⟨rfl, hp0⟩
        clear hp; have hp := hp0; clear hp0
        replace hp : Hp _ _ _ (Res.obj 40 v1 [.int .i64 xx0_Power, .int .i64 xx0_Place, .int .i64 xx0_Tone, .int .i64 xx0_By] :: ow) := hp
        refine ⟨_, rfl, ?_⟩
        clear hf; intro a hf
        obtain rfl := Option.some.inj hz143
        refine st_pick (v := .bool q146) hf rfl rfl (fun hb' => ?_) (fun hb' => ?_) (by decide) ?_
        · rfl
        · exact absurd (hb144.symm.trans hb') (by decide)
        clear hf; intro a ha hf; clear ha
        refine st_nil hf (th_n ?_)
        exact ⟨hf.sub ⟨rfl, trivial⟩, hp⟩
      replace hz143 := ifF hz143 hb144
      refine st_skip hf (wantN hf rfl rfl hb144) rfl (by decide) ?_ rfl
      clear hf; intro a hf
      obtain rfl := Option.some.inj hz143
      refine st_pick (v := .bool false) hf rfl rfl (fun hb' => ?_) (fun hb' => ?_) (by decide) ?_
      · exact absurd (hb144.symm.trans hb') (by decide)
      · rfl
      clear hf; intro a ha hf; clear ha
      refine st_nil hf (th_n ?_)
      exact ⟨hf.sub ⟨rfl, trivial⟩, hp⟩
    rintro a w ⟨hf, hp⟩
    refine st_assign hf rfl rfl (by decide) ?_
    clear hf; intro a ha hf; clear ha
    refine st_nil hf ?_
    refine th_n ?_
    refine wp_ret ?_
    obtain rfl := Option.some.inj h
    have hp : Hp _ _ _ (ow) := Hp.sel (pre := [Res.obj 40 v1 [.int .i64 xx0_Power, .int .i64 xx0_Place, .int .i64 xx0_Tone, .int .i64 xx0_By]]) (tail := ow) (rs' := []) hp [] (by decide) (by simp) rfl
    exact ⟨rfl, ⟨hf.sub ⟨rfl, trivial⟩, hp⟩⟩
  replace h := smR h
  obtain ⟨rfl, hf, hp⟩ := hO
  refine ib_r ?_
  refine th_r ?_
  obtain rfl := Option.some.inj h
  exact ⟨rfl, ⟨hf.sub ⟨rfl, trivial⟩, hp⟩⟩

end Go.Proofs.Ythmobhgjojgipaa
