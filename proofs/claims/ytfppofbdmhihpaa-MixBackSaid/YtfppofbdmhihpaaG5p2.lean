/- The functions foghorn foghornlaw08.MixBack, foghorn foghornlaw08.MixNames, foghorn foghornlaw08.MixShares: what each answers, as a plain function, and that its call answers it; printed by gen.py. -/
import Derived.Test.YtfppofbdmhihpaaProg
import Derived.Test.YtfppofbdmhihpaaGlP
import Derived.KernelRfl
import Derived.Test.YtfppofbdmhihpaaG5p1
set_option linter.unusedVariables false
set_option maxRecDepth 100000
set_option maxHeartbeats 4000000
namespace Go.Proofs.Ytfppofbdmhihpaa
open GL
noncomputable def f_foghornlaw08_MixBack.s1c (q153 : ((List (Fl × Fl)) × (List (Fl × Fl)))) (line27 : (List Fl)) (i28 : Int) : Option (((List Fl) × Int) ⊕ (List Fl)) := (if ((decide (i28 < (q153.1.length : Int))) && (decide (i28 < (32768 : Int)))) = true then (if 0 ≤ i28 ∧ i28 < (q153.1.length : Int) then (if 0 ≤ i28 ∧ i28 < (q153.1.length : Int) then (if (line27.length + ([(gt q153.1 i28).1, (gt q153.1 i28).2]).length) * 8 ≤ 140737488355328 then (some (Sum.inl ((line27 ++ [(gt q153.1 i28).1, (gt q153.1 i28).2]), (IntKind.i64.wrap (i28 + (1 : Int)))))) else none) else none) else none) else (some (Sum.inr line27)))
noncomputable def f_foghornlaw08_MixBack.s1 (q153 : ((List (Fl × Fl)) × (List (Fl × Fl)))) (s : ((List Fl) × Int)) : Option (((List Fl) × Int) ⊕ (List Fl)) := f_foghornlaw08_MixBack.s1c q153 s.1 s.2
noncomputable def f_foghornlaw08_MixBack.s2c (step3 : Int) (z9 : (List (Fl × Fl))) (rows31 : (List (List (Fl × Fl)))) (k32 : Int) : Option (((List (List (Fl × Fl))) × Int) ⊕ ((List (List (Fl × Fl))) ⊕ Bool)) := (if (decide (k32 < (IntKind.i64.wrap ((1 : Int) + (((IntKind.i64.wrap (((step3).tmod (20 : Int)) + (20 : Int)))).tmod (20 : Int)))))) = true then (if (IntKind.i64.wrap ((1 : Int) + (((IntKind.i64.wrap (((step3).tmod (20 : Int)) + (20 : Int)))).tmod (20 : Int)))) ≠ 0 then (if 0 ≤ (IntKind.i64.wrap ((IntKind.i64.wrap (((z9.length : Int)).tdiv (IntKind.i64.wrap ((1 : Int) + (((IntKind.i64.wrap (((step3).tmod (20 : Int)) + (20 : Int)))).tmod (20 : Int)))))) * (IntKind.i64.wrap ((1 : Int) + (((IntKind.i64.wrap (((step3).tmod (20 : Int)) + (20 : Int)))).tmod (20 : Int)))))) ∧ (IntKind.i64.wrap ((IntKind.i64.wrap (((z9.length : Int)).tdiv (IntKind.i64.wrap ((1 : Int) + (((IntKind.i64.wrap (((step3).tmod (20 : Int)) + (20 : Int)))).tmod (20 : Int)))))) * (IntKind.i64.wrap ((1 : Int) + (((IntKind.i64.wrap (((step3).tmod (20 : Int)) + (20 : Int)))).tmod (20 : Int)))))) ≤ (z9.length : Int) then ((f_mix_Share ((z9.drop 0).take (((IntKind.i64.wrap ((IntKind.i64.wrap (((z9.length : Int)).tdiv (IntKind.i64.wrap ((1 : Int) + (((IntKind.i64.wrap (((step3).tmod (20 : Int)) + (20 : Int)))).tmod (20 : Int)))))) * (IntKind.i64.wrap ((1 : Int) + (((IntKind.i64.wrap (((step3).tmod (20 : Int)) + (20 : Int)))).tmod (20 : Int))))))).toNat - 0)) k32 (IntKind.i64.wrap ((1 : Int) + (((IntKind.i64.wrap (((step3).tmod (20 : Int)) + (20 : Int)))).tmod (20 : Int))))).bind fun q232 => (if (q232.2 != (0 : Int)) = true then (some (Sum.inr (Sum.inr false))) else (if (rows31.length + 1) * 24 ≤ 140737488355328 then (some (Sum.inl ((rows31 ++ [(q232.1 : (List (Fl × Fl)))]), (IntKind.i64.wrap (k32 + (1 : Int)))))) else none))) else none) else none) else (some (Sum.inr (Sum.inl rows31))))
noncomputable def f_foghornlaw08_MixBack.s2 (step3 : Int) (z9 : (List (Fl × Fl))) (s : ((List (List (Fl × Fl))) × Int)) : Option (((List (List (Fl × Fl))) × Int) ⊕ ((List (List (Fl × Fl))) ⊕ Bool)) := f_foghornlaw08_MixBack.s2c step3 z9 s.1 s.2
noncomputable def f_foghornlaw08_MixBack.j1 (r1 : (List Int)) (quarters2 : Int) (step3 : Int) (z9 : (List (Fl × Fl))) : Option Bool := ((f_mix_Up z9 quarters2).bind fun q9 => ((f_mix_Down q9.1 quarters2).bind fun q18 => ((f_mix_Down z9 quarters2).bind fun q27 => ((f_mix_Up q27.1 quarters2).bind fun q36 => ((f_mix_Line z9).bind fun q45 => ((f_mix_Unline q45.1).bind fun q54 => ((f_mix_Mirror z9).bind fun q63 => ((f_mix_Mirror q63.1).bind fun q72 => ((if ((((((q9.2 != (0 : Int)) || (q18.2 != (0 : Int))) || (q36.2 != (0 : Int))) || (q45.2 != (0 : Int))) || (q54.2 != (0 : Int))) || (q72.2 != (0 : Int))) = true then (some true) else ((f_foghornref08_Same q18.1 z9).bind fun q94 => (some (!q94)))).bind fun z93 => ((if z93 = true then (some true) else ((f_foghornref08_Same q36.1 z9).bind fun q109 => (some (!q109)))).bind fun z108 => ((if z108 = true then (some true) else ((f_foghornref08_Same q54.1 z9).bind fun q124 => (some (!q124)))).bind fun z123 => ((if z123 = true then (some true) else ((f_foghornref08_Same q72.1 z9).bind fun q139 => (some (!q139)))).bind fun z138 => (if (z138 || ((q45.1.length : Int) != (IntKind.i64.wrap ((2 : Int) * (z9.length : Int))))) = true then (some false) else ((f_foghornlaw08_numbers r1).bind fun q153 => ((loop (f_foghornlaw08_MixBack.s1 q153) ([], (0 : Int))).bind (fun q185 => ((f_mix_Unline q185).bind fun q187 => ((f_mix_Line q187.1).bind fun q196 => ((if ((q187.2 != (0 : Int)) || (q196.2 != (0 : Int))) = true then (some true) else ((f_foghornref08_Floats q196.1 q185).bind fun q210 => (some (!q210)))).bind fun z209 => (if z209 = true then (some false) else ((loop (f_foghornlaw08_MixBack.s2 step3 z9) ([], (0 : Int))).bind (fun q245 => sm q245 (fun q247 => ((f_mix_Merge q247).bind fun q249 => ((if (q249.2 == (0 : Int)) = true then (if (IntKind.i64.wrap ((1 : Int) + (((IntKind.i64.wrap (((step3).tmod (20 : Int)) + (20 : Int)))).tmod (20 : Int)))) ≠ 0 then (if 0 ≤ (IntKind.i64.wrap ((IntKind.i64.wrap (((z9.length : Int)).tdiv (IntKind.i64.wrap ((1 : Int) + (((IntKind.i64.wrap (((step3).tmod (20 : Int)) + (20 : Int)))).tmod (20 : Int)))))) * (IntKind.i64.wrap ((1 : Int) + (((IntKind.i64.wrap (((step3).tmod (20 : Int)) + (20 : Int)))).tmod (20 : Int)))))) ∧ (IntKind.i64.wrap ((IntKind.i64.wrap (((z9.length : Int)).tdiv (IntKind.i64.wrap ((1 : Int) + (((IntKind.i64.wrap (((step3).tmod (20 : Int)) + (20 : Int)))).tmod (20 : Int)))))) * (IntKind.i64.wrap ((1 : Int) + (((IntKind.i64.wrap (((step3).tmod (20 : Int)) + (20 : Int)))).tmod (20 : Int)))))) ≤ (z9.length : Int) then ((f_foghornref08_Same q249.1 ((z9.drop 0).take (((IntKind.i64.wrap ((IntKind.i64.wrap (((z9.length : Int)).tdiv (IntKind.i64.wrap ((1 : Int) + (((IntKind.i64.wrap (((step3).tmod (20 : Int)) + (20 : Int)))).tmod (20 : Int)))))) * (IntKind.i64.wrap ((1 : Int) + (((IntKind.i64.wrap (((step3).tmod (20 : Int)) + (20 : Int)))).tmod (20 : Int))))))).toNat - 0))).bind fun q265 => (some q265)) else none) else none) else (some false)).bind fun z260 => (some z260)))) (fun q248 => (some q248))))))))))))))))))))))))
noncomputable def f_foghornlaw08_MixBack (l0 : (List Int)) (r1 : (List Int)) (quarters2 : Int) (step3 : Int) : Option Bool := ((f_foghornlaw08_awake).bind fun q1 => (if (!q1) = true then (some false) else ((f_foghornlaw08_numbers l0).bind fun q3 => (if (decide ((32768 : Int) < (q3.1.length : Int))) = true then (if 0 ≤ (32768 : Int) ∧ (32768 : Int) ≤ ((q3.1 ++ ([] : List (Fl × Fl))).length : Int) then (f_foghornlaw08_MixBack.j1 r1 quarters2 step3 ((q3.1 ++ ([] : List (Fl × Fl))).take (((32768 : Int)).toNat))) else none) else (f_foghornlaw08_MixBack.j1 r1 quarters2 step3 q3.1)))))
theorem f_foghornlaw08_MixBack_c {S : Nat → Prop} {w0 w : World} {ow : List Res} (hp : Hp S w0 w ow) (vl0 : Value) (l0 : (List Int)) (hl0 : RdS (Ek.int .u64) S w0 vl0 l0) (vr1 : Value) (r1 : (List Int)) (hr1 : RdS (Ek.int .u64) S w0 vr1 r1) (quarters2 : Int) (step3 : Int) {r : Bool} (h : f_foghornlaw08_MixBack l0 r1 quarters2 step3 = some r) :
    Calls Try.prog 8 #[vl0, vr1, .int .i64 quarters2, .int .i64 step3] w (fun e w' => e = .returned (.bool r) ∧ Hp S w0 w' (ow)) := by
  unfold f_foghornlaw08_MixBack at h
  refine enter (n := 239) (args := [vl0, vr1, .int .i64 quarters2, .int .i64 step3]) Try.func8 rfl rfl (Nat.le_of_ble_eq_true rfl) fun a hf => ?_
  replace hf : Fr 239 a [(0, vl0), (1, vr1), (2, .int .i64 quarters2), (3, .int .i64 step3)] := hf
  refine wp_mono (Q := fun e a w => e = .ret ∧ Fr 239 a [(8, .bool r)] ∧ Hp S w0 w (ow)) ?_ ?_
  rotate_left
  · rintro e a w ⟨rfl, hf, hp⟩
    exact ret1 hf rfl rfl ⟨rfl, hp⟩
  refine wp_seq ?_
  refine wp_reg ?_
  refine st_assign hf rfl rfl (by decide) ?_
  clear hf; intro a ha hf; clear ha
  refine st_nil hf ?_
  refine th_n ?_
  refine wp_seq ?_
  refine wp_seq ?_
  refine wp_reg ?_
  obtain ⟨q1, hcall2, h⟩ := bnd h
  refine st_call hf (by decide) Try.func31 rfl rfl rfl rfl rfl (f_foghornlaw08_awake_c hp  hcall2) ?_
  rintro _ w ⟨rfl, hp0⟩
  clear hp; have hp := hp0; clear hp0
  replace hp : Hp _ _ w (ow) := hp
  refine ⟨_, rfl, ?_⟩
  clear hf; intro a hf
  refine st_not hf (by decide) rfl rfl ?_
  clear hf; intro a ha hf; clear ha
  refine st_nil hf ?_
  refine th_n ?_
  refine wp_if hf rfl (fun hb => ?_) (fun hb => ?_)
  · replace h := ifT h hb
    refine wp_seq ?_
    refine wp_reg ?_
    refine st_assign hf rfl rfl (by decide) ?_
    clear hf; intro a ha hf; clear ha
    refine st_nil hf ?_
    refine th_n ?_
    refine wp_ret ?_
    refine th_r ?_
    obtain rfl := Option.some.inj h
    exact ⟨rfl, ⟨hf.sub ⟨rfl, trivial⟩, hp⟩⟩
  · replace h := ifF h hb
    refine wp_skip ?_
    refine th_n ?_
    refine wp_seq ?_
    refine wp_reg ?_
    refine st_move hf rfl rfl (by decide) ?_
    clear hf; intro a ha hf; clear ha
    obtain ⟨q3, hcall4, h⟩ := bnd h
    refine st_call hf (by decide) Try.func9 rfl rfl rfl rfl rfl (f_foghornlaw08_numbers_c hp _ _ hl0 hcall4) ?_
    rintro _ w ⟨v5, rfl, hp0⟩
    clear hp; have hp := hp0; clear hp0
    replace hp : Hp _ _ w (Res.slx Ek.c128 36 v5 q3.1 q3.2 :: ow) := hp
    replace hp : Hp _ _ w (Res.sl Ek.c128 36 v5 q3.1 :: ow) := hp.forget (i := 0) rfl
    refine ⟨_, rfl, ?_⟩
    clear hf; intro a hf
    refine st_assign hf rfl rfl (by decide) ?_
    clear hf; intro a ha hf; clear ha
    refine st_nil hf ?_
    refine th_n ?_
    refine wp_seq_cut (fun a w => ∃ (z9 : (List (Fl × Fl))) (v7 : Value), f_foghornlaw08_MixBack.j1 r1 quarters2 step3 z9 = some r ∧ Fr 239 a [(1, vr1), (2, .int .i64 quarters2), (3, .int .i64 step3), (9, v7)] ∧ Hp S w0 w (Res.sl Ek.c128 36 v7 z9 :: ow)) ?_ ?_
    · skip
      refine wp_seq ?_
      refine wp_reg ?_
      refine st_move hf rfl rfl (by decide) ?_
      clear hf; intro a ha hf; clear ha
      refine st_len (E := Ek.c128) hf (by decide) Try.underlying24 rfl rfl (hp.sl (i := 0) rfl) ?_
      clear hf; intro a ha hf; clear ha
      refine st_igtr hf (by decide) rfl rfl rfl ?_
      clear hf; intro a ha hf; clear ha
      refine st_nil hf ?_
      refine th_n ?_
      refine wp_if hf rfl (fun hb => ?_) (fun hb => ?_)
      · replace h := ifT h hb
        refine wp_reg ?_
        refine st_move hf rfl rfl (by decide) ?_
        clear hf; intro a ha hf; clear ha
        obtain ⟨hc277, h⟩ := chk h
        have hc278 : 0 ≤ ((32768 : Int)).toNat := by omega
        have hc279 : ((32768 : Int)).toNat ≤ (q3.1 ++ ([] : List (Fl × Fl))).length := by omega
        refine st_cutX (E := Ek.c128) hf (by decide) Try.underlying24 elt36 hp (i := 0) rfl rfl rfl (.inl ⟨rfl, rfl⟩) (.inr ⟨_, _, rfl, evI rfl (by omega)⟩) hc278 hc279 ?_
        clear hf; intro a ha hf; clear ha
        replace hp : Hp _ _ w (Res.slx Ek.c128 36 (GL.cut v5 0 (((32768 : Int)).toNat) 1) ((q3.1 ++ ([] : List (Fl × Fl))).take (((32768 : Int)).toNat)) ((q3.1 ++ ([] : List (Fl × Fl))).drop (((32768 : Int)).toNat)) :: ow) := hp.cutOwn (i := 0) rfl hc279
        replace hp : Hp _ _ w (Res.sl Ek.c128 36 (GL.cut v5 0 (((32768 : Int)).toNat) 1) ((q3.1 ++ ([] : List (Fl × Fl))).take (((32768 : Int)).toNat)) :: ow) := hp.forget (i := 0) rfl
        refine st_assign hf rfl rfl (by decide) ?_
        clear hf; intro a ha hf; clear ha
        refine st_nil hf ?_
        refine th_n ?_
        exact ⟨_, _, h, hf.sub ⟨rfl, rfl, rfl, rfl, trivial⟩, hp⟩
      · replace h := ifF h hb
        refine wp_skip ?_
        refine th_n ?_
        exact ⟨_, _, h, hf.sub ⟨rfl, rfl, rfl, rfl, trivial⟩, hp⟩
    · rintro a w ⟨z9, v7, h, hf, hp⟩
      unfold f_foghornlaw08_MixBack.j1 at h
      refine wp_seq ?_
      refine wp_reg ?_
      refine st_move hf rfl rfl (by decide) ?_
      clear hf; intro a ha hf; clear ha
      refine st_move hf rfl rfl (by decide) ?_
      clear hf; intro a ha hf; clear ha
      obtain ⟨q9, hcall10, h⟩ := bnd h
      obtain ⟨S11, hp12, rd13, up14, bk15⟩ := Hp.lendS hp (i := 0) rfl
      refine st_call hf (by decide) Try.func17 rfl rfl rfl rfl rfl (f_mix_Up_c hp12 _ _ rd13 _ hcall10) ?_
      rintro _ w ⟨v16, rfl, hp0⟩
      have hp0 := bk15 _ _ hp0
      clear hp; have hp := hp0; clear hp0
      replace hp : Hp _ _ w (Res.sl Ek.c128 36 v7 z9 :: Res.sl Ek.c128 36 v16 q9.1 :: ow) := hp
      refine ⟨_, rfl, ?_⟩
      clear hf; intro a hf
      refine st_move hf rfl rfl (by decide) ?_
      clear hf; intro a ha hf; clear ha
      refine st_extract hf (by decide) rfl rfl rfl ?_
      clear hf; intro a ha hf; clear ha
      refine st_extract hf (by decide) rfl rfl rfl ?_
      clear hf; intro a ha hf; clear ha
      refine st_assign hf rfl rfl (by decide) ?_
      clear hf; intro a ha hf; clear ha
      refine st_assign hf rfl rfl (by decide) ?_
      clear hf; intro a ha hf; clear ha
      refine st_nil hf ?_
      refine th_n ?_
      refine wp_seq ?_
      refine wp_reg ?_
      refine st_move hf rfl rfl (by decide) ?_
      clear hf; intro a ha hf; clear ha
      refine st_move hf rfl rfl (by decide) ?_
      clear hf; intro a ha hf; clear ha
      obtain ⟨q18, hcall19, h⟩ := bnd h
      obtain ⟨S20, hp21, rd22, up23, bk24⟩ := Hp.lendS hp (i := 1) rfl
      refine st_call hf (by decide) Try.func19 rfl rfl rfl rfl rfl (f_mix_Down_c hp21 _ _ rd22 _ hcall19) ?_
      rintro _ w ⟨v25, rfl, hp0⟩
      have hp0 := bk24 _ _ hp0
      clear hp; have hp := hp0; clear hp0
      replace hp : Hp _ _ w (Res.sl Ek.c128 36 v16 q9.1 :: Res.sl Ek.c128 36 v25 q18.1 :: Res.sl Ek.c128 36 v7 z9 :: ow) := hp
      refine ⟨_, rfl, ?_⟩
      clear hf; intro a hf
      refine st_move hf rfl rfl (by decide) ?_
      clear hf; intro a ha hf; clear ha
      refine st_extract hf (by decide) rfl rfl rfl ?_
      clear hf; intro a ha hf; clear ha
      refine st_extract hf (by decide) rfl rfl rfl ?_
      clear hf; intro a ha hf; clear ha
      refine st_assign hf rfl rfl (by decide) ?_
      clear hf; intro a ha hf; clear ha
      refine st_assign hf rfl rfl (by decide) ?_
      clear hf; intro a ha hf; clear ha
      refine st_nil hf ?_
      refine th_n ?_
      refine wp_seq ?_
      refine wp_reg ?_
      refine st_move hf rfl rfl (by decide) ?_
      clear hf; intro a ha hf; clear ha
      refine st_move hf rfl rfl (by decide) ?_
      clear hf; intro a ha hf; clear ha
      obtain ⟨q27, hcall28, h⟩ := bnd h
      obtain ⟨S29, hp30, rd31, up32, bk33⟩ := Hp.lendS hp (i := 2) rfl
      refine st_call hf (by decide) Try.func19 rfl rfl rfl rfl rfl (f_mix_Down_c hp30 _ _ rd31 _ hcall28) ?_
      rintro _ w ⟨v34, rfl, hp0⟩
      have hp0 := bk33 _ _ hp0
      clear hp; have hp := hp0; clear hp0
      replace hp : Hp _ _ w (Res.sl Ek.c128 36 v7 z9 :: Res.sl Ek.c128 36 v34 q27.1 :: Res.sl Ek.c128 36 v16 q9.1 :: Res.sl Ek.c128 36 v25 q18.1 :: ow) := hp
      refine ⟨_, rfl, ?_⟩
      clear hf; intro a hf
      refine st_move hf rfl rfl (by decide) ?_
      clear hf; intro a ha hf; clear ha
      refine st_extract hf (by decide) rfl rfl rfl ?_
      clear hf; intro a ha hf; clear ha
      refine st_extract hf (by decide) rfl rfl rfl ?_
      clear hf; intro a ha hf; clear ha
      refine st_assign hf rfl rfl (by decide) ?_
      clear hf; intro a ha hf; clear ha
      refine st_assign hf rfl rfl (by decide) ?_
      clear hf; intro a ha hf; clear ha
      refine st_nil hf ?_
      refine th_n ?_
      refine wp_seq ?_
      refine wp_reg ?_
      refine st_move hf rfl rfl (by decide) ?_
      clear hf; intro a ha hf; clear ha
      refine st_move hf rfl rfl (by decide) ?_
      clear hf; intro a ha hf; clear ha
      obtain ⟨q36, hcall37, h⟩ := bnd h
      obtain ⟨S38, hp39, rd40, up41, bk42⟩ := Hp.lendS hp (i := 1) rfl
      refine st_call hf (by decide) Try.func17 rfl rfl rfl rfl rfl (f_mix_Up_c hp39 _ _ rd40 _ hcall37) ?_
      rintro _ w ⟨v43, rfl, hp0⟩
      have hp0 := bk42 _ _ hp0
      clear hp; have hp := hp0; clear hp0
      replace hp : Hp _ _ w (Res.sl Ek.c128 36 v34 q27.1 :: Res.sl Ek.c128 36 v43 q36.1 :: Res.sl Ek.c128 36 v7 z9 :: Res.sl Ek.c128 36 v16 q9.1 :: Res.sl Ek.c128 36 v25 q18.1 :: ow) := hp
      refine ⟨_, rfl, ?_⟩
      clear hf; intro a hf
      refine st_move hf rfl rfl (by decide) ?_
      clear hf; intro a ha hf; clear ha
      refine st_extract hf (by decide) rfl rfl rfl ?_
      clear hf; intro a ha hf; clear ha
      refine st_extract hf (by decide) rfl rfl rfl ?_
      clear hf; intro a ha hf; clear ha
      refine st_assign hf rfl rfl (by decide) ?_
      clear hf; intro a ha hf; clear ha
      refine st_assign hf rfl rfl (by decide) ?_
      clear hf; intro a ha hf; clear ha
      refine st_nil hf ?_
      refine th_n ?_
      refine wp_seq ?_
      refine wp_reg ?_
      refine st_move hf rfl rfl (by decide) ?_
      clear hf; intro a ha hf; clear ha
      obtain ⟨q45, hcall46, h⟩ := bnd h
      obtain ⟨S47, hp48, rd49, up50, bk51⟩ := Hp.lendS hp (i := 2) rfl
      refine st_call hf (by decide) Try.func26 rfl rfl rfl rfl rfl (f_mix_Line_c hp48 _ _ rd49 hcall46) ?_
      rintro _ w ⟨v52, rfl, hp0⟩
      have hp0 := bk51 _ _ hp0
      clear hp; have hp := hp0; clear hp0
      replace hp : Hp _ _ w (Res.sl Ek.c128 36 v7 z9 :: Res.sl Ek.f64 37 v52 q45.1 :: Res.sl Ek.c128 36 v34 q27.1 :: Res.sl Ek.c128 36 v43 q36.1 :: Res.sl Ek.c128 36 v16 q9.1 :: Res.sl Ek.c128 36 v25 q18.1 :: ow) := hp
      refine ⟨_, rfl, ?_⟩
      clear hf; intro a hf
      refine st_move hf rfl rfl (by decide) ?_
      clear hf; intro a ha hf; clear ha
      refine st_extract hf (by decide) rfl rfl rfl ?_
      clear hf; intro a ha hf; clear ha
      refine st_extract hf (by decide) rfl rfl rfl ?_
      clear hf; intro a ha hf; clear ha
      refine st_assign hf rfl rfl (by decide) ?_
      clear hf; intro a ha hf; clear ha
      refine st_assign hf rfl rfl (by decide) ?_
      clear hf; intro a ha hf; clear ha
      refine st_nil hf ?_
      refine th_n ?_
      refine wp_seq ?_
      refine wp_reg ?_
      refine st_move hf rfl rfl (by decide) ?_
      clear hf; intro a ha hf; clear ha
      obtain ⟨q54, hcall55, h⟩ := bnd h
      obtain ⟨S56, hp57, rd58, up59, bk60⟩ := Hp.lendS hp (i := 1) rfl
      refine st_call hf (by decide) Try.func29 rfl rfl rfl rfl rfl (f_mix_Unline_c hp57 _ _ rd58 hcall55) ?_
      rintro _ w ⟨v61, rfl, hp0⟩
      have hp0 := bk60 _ _ hp0
      clear hp; have hp := hp0; clear hp0
      replace hp : Hp _ _ w (Res.sl Ek.f64 37 v52 q45.1 :: Res.sl Ek.c128 36 v61 q54.1 :: Res.sl Ek.c128 36 v7 z9 :: Res.sl Ek.c128 36 v34 q27.1 :: Res.sl Ek.c128 36 v43 q36.1 :: Res.sl Ek.c128 36 v16 q9.1 :: Res.sl Ek.c128 36 v25 q18.1 :: ow) := hp
      refine ⟨_, rfl, ?_⟩
      clear hf; intro a hf
      refine st_move hf rfl rfl (by decide) ?_
      clear hf; intro a ha hf; clear ha
      refine st_extract hf (by decide) rfl rfl rfl ?_
      clear hf; intro a ha hf; clear ha
      refine st_extract hf (by decide) rfl rfl rfl ?_
      clear hf; intro a ha hf; clear ha
      refine st_assign hf rfl rfl (by decide) ?_
      clear hf; intro a ha hf; clear ha
      refine st_assign hf rfl rfl (by decide) ?_
      clear hf; intro a ha hf; clear ha
      refine st_nil hf ?_
      refine th_n ?_
      refine wp_seq ?_
      refine wp_reg ?_
      refine st_move hf rfl rfl (by decide) ?_
      clear hf; intro a ha hf; clear ha
      obtain ⟨q63, hcall64, h⟩ := bnd h
      obtain ⟨S65, hp66, rd67, up68, bk69⟩ := Hp.lendS hp (i := 2) rfl
      refine st_call hf (by decide) Try.func21 rfl rfl rfl rfl rfl (f_mix_Mirror_c hp66 _ _ rd67 hcall64) ?_
      rintro _ w ⟨v70, rfl, hp0⟩
      have hp0 := bk69 _ _ hp0
      clear hp; have hp := hp0; clear hp0
      replace hp : Hp _ _ w (Res.sl Ek.c128 36 v7 z9 :: Res.sl Ek.c128 36 v70 q63.1 :: Res.sl Ek.f64 37 v52 q45.1 :: Res.sl Ek.c128 36 v61 q54.1 :: Res.sl Ek.c128 36 v34 q27.1 :: Res.sl Ek.c128 36 v43 q36.1 :: Res.sl Ek.c128 36 v16 q9.1 :: Res.sl Ek.c128 36 v25 q18.1 :: ow) := hp
      refine ⟨_, rfl, ?_⟩
      clear hf; intro a hf
      refine st_move hf rfl rfl (by decide) ?_
      clear hf; intro a ha hf; clear ha
      refine st_extract hf (by decide) rfl rfl rfl ?_
      clear hf; intro a ha hf; clear ha
      refine st_extract hf (by decide) rfl rfl rfl ?_
      clear hf; intro a ha hf; clear ha
      refine st_assign hf rfl rfl (by decide) ?_
      clear hf; intro a ha hf; clear ha
      refine st_assign hf rfl rfl (by decide) ?_
      clear hf; intro a ha hf; clear ha
      refine st_nil hf ?_
      refine th_n ?_
      refine wp_seq ?_
      refine wp_reg ?_
      refine st_move hf rfl rfl (by decide) ?_
      clear hf; intro a ha hf; clear ha
      obtain ⟨q72, hcall73, h⟩ := bnd h
      obtain ⟨S74, hp75, rd76, up77, bk78⟩ := Hp.lendS hp (i := 1) rfl
      refine st_call hf (by decide) Try.func21 rfl rfl rfl rfl rfl (f_mix_Mirror_c hp75 _ _ rd76 hcall73) ?_
      rintro _ w ⟨v79, rfl, hp0⟩
      have hp0 := bk78 _ _ hp0
      clear hp; have hp := hp0; clear hp0
      replace hp : Hp _ _ w (Res.sl Ek.c128 36 v70 q63.1 :: Res.sl Ek.c128 36 v79 q72.1 :: Res.sl Ek.c128 36 v7 z9 :: Res.sl Ek.f64 37 v52 q45.1 :: Res.sl Ek.c128 36 v61 q54.1 :: Res.sl Ek.c128 36 v34 q27.1 :: Res.sl Ek.c128 36 v43 q36.1 :: Res.sl Ek.c128 36 v16 q9.1 :: Res.sl Ek.c128 36 v25 q18.1 :: ow) := hp
      refine ⟨_, rfl, ?_⟩
      clear hf; intro a hf
      refine st_move hf rfl rfl (by decide) ?_
      clear hf; intro a ha hf; clear ha
      refine st_extract hf (by decide) rfl rfl rfl ?_
      clear hf; intro a ha hf; clear ha
      refine st_extract hf (by decide) rfl rfl rfl ?_
      clear hf; intro a ha hf; clear ha
      refine st_assign hf rfl rfl (by decide) ?_
      clear hf; intro a ha hf; clear ha
      refine st_assign hf rfl rfl (by decide) ?_
      clear hf; intro a ha hf; clear ha
      refine st_nil hf ?_
      refine th_n ?_
      refine wp_seq ?_
      refine wp_seq ?_
      refine wp_reg ?_
      refine st_move hf rfl rfl (by decide) ?_
      clear hf; intro a ha hf; clear ha
      refine st_ineq hf (by decide) rfl rfl rfl ?_
      clear hf; intro a ha hf; clear ha
      refine st_move hf rfl rfl (by decide) ?_
      clear hf; intro a ha hf; clear ha
      refine wpList_cut 3 (fun a w => Fr 239 a [(1, vr1), (3, .int .i64 step3), (9, v7), (12, v25), (16, v43), (17, .int .i64 q36.2), (18, v52), (19, .int .i64 q45.2), (20, v61), (21, .int .i64 q54.2), (24, v79), (25, .int .i64 q72.2), (94, .bool ((q9.2 != (0 : Int)) || (q18.2 != (0 : Int))))] ∧ Hp S w0 w (Res.sl Ek.c128 36 v70 q63.1 :: Res.sl Ek.c128 36 v79 q72.1 :: Res.sl Ek.c128 36 v7 z9 :: Res.sl Ek.f64 37 v52 q45.1 :: Res.sl Ek.c128 36 v61 q54.1 :: Res.sl Ek.c128 36 v34 q27.1 :: Res.sl Ek.c128 36 v43 q36.1 :: Res.sl Ek.c128 36 v16 q9.1 :: Res.sl Ek.c128 36 v25 q18.1 :: ow)) ?_ ?_
      · rcases Bool.eq_false_or_eq_true (q9.2 != (0 : Int)) with hb82 | hb82
        · skip
          refine st_skip hf (wantN hf rfl rfl hb82) rfl (by decide) ?_ rfl
          clear hf; intro a hf
          refine st_skip hf (wantN hf rfl rfl hb82) rfl (by decide) ?_ rfl
          clear hf; intro a hf
          refine st_pick (v := .bool true) hf rfl rfl (fun hb' => ?_) (fun hb' => ?_) (by decide) ?_
          · rfl
          · exact absurd (hb82.symm.trans hb') (by decide)
          clear hf; intro a ha hf; clear ha
          refine st_nil hf (th_n ?_)
          exact ⟨hf.sub ⟨rfl, rfl, rfl, rfl, rfl, rfl, rfl, rfl, rfl, rfl, rfl, rfl, (by rw [hb82]; rfl), trivial⟩, hp⟩
        · skip
          refine st_move hf (wantY hf rfl rfl hb82) rfl (by decide) ?_
          clear hf; intro a ha hf; clear ha
          refine st_ineq hf (by decide) (wantY hf rfl rfl hb82) rfl rfl ?_
          clear hf; intro a ha hf; clear ha
          refine st_pick (v := .bool (q18.2 != (0 : Int))) hf rfl rfl (fun hb' => ?_) (fun hb' => ?_) (by decide) ?_
          · exact absurd (hb82.symm.trans hb') (by decide)
          · rfl
          clear hf; intro a ha hf; clear ha
          refine st_nil hf (th_n ?_)
          exact ⟨hf.sub ⟨rfl, rfl, rfl, rfl, rfl, rfl, rfl, rfl, rfl, rfl, rfl, rfl, (by rw [hb82]; rfl), trivial⟩, hp⟩
      · rintro a w ⟨hf, hp⟩
        refine st_move hf rfl rfl (by decide) ?_
        clear hf; intro a ha hf; clear ha
        refine wpList_cut 3 (fun a w => Fr 239 a [(1, vr1), (3, .int .i64 step3), (9, v7), (12, v25), (16, v43), (18, v52), (19, .int .i64 q45.2), (20, v61), (21, .int .i64 q54.2), (24, v79), (25, .int .i64 q72.2), (98, .bool (((q9.2 != (0 : Int)) || (q18.2 != (0 : Int))) || (q36.2 != (0 : Int))))] ∧ Hp S w0 w (Res.sl Ek.c128 36 v70 q63.1 :: Res.sl Ek.c128 36 v79 q72.1 :: Res.sl Ek.c128 36 v7 z9 :: Res.sl Ek.f64 37 v52 q45.1 :: Res.sl Ek.c128 36 v61 q54.1 :: Res.sl Ek.c128 36 v34 q27.1 :: Res.sl Ek.c128 36 v43 q36.1 :: Res.sl Ek.c128 36 v16 q9.1 :: Res.sl Ek.c128 36 v25 q18.1 :: ow)) ?_ ?_
        · rcases Bool.eq_false_or_eq_true ((q9.2 != (0 : Int)) || (q18.2 != (0 : Int))) with hb84 | hb84
          · skip
            refine st_skip hf (wantN hf rfl rfl hb84) rfl (by decide) ?_ rfl
            clear hf; intro a hf
            refine st_skip hf (wantN hf rfl rfl hb84) rfl (by decide) ?_ rfl
            clear hf; intro a hf
            refine st_pick (v := .bool true) hf rfl rfl (fun hb' => ?_) (fun hb' => ?_) (by decide) ?_
            · rfl
            · exact absurd (hb84.symm.trans hb') (by decide)
            clear hf; intro a ha hf; clear ha
            refine st_nil hf (th_n ?_)
            exact ⟨hf.sub ⟨rfl, rfl, rfl, rfl, rfl, rfl, rfl, rfl, rfl, rfl, rfl, (by rw [hb84]; rfl), trivial⟩, hp⟩
          · skip
            refine st_move hf (wantY hf rfl rfl hb84) rfl (by decide) ?_
            clear hf; intro a ha hf; clear ha
            refine st_ineq hf (by decide) (wantY hf rfl rfl hb84) rfl rfl ?_
            clear hf; intro a ha hf; clear ha
            refine st_pick (v := .bool (q36.2 != (0 : Int))) hf rfl rfl (fun hb' => ?_) (fun hb' => ?_) (by decide) ?_
            · exact absurd (hb84.symm.trans hb') (by decide)
            · rfl
            clear hf; intro a ha hf; clear ha
            refine st_nil hf (th_n ?_)
            exact ⟨hf.sub ⟨rfl, rfl, rfl, rfl, rfl, rfl, rfl, rfl, rfl, rfl, rfl, (by rw [hb84]; rfl), trivial⟩, hp⟩
        · rintro a w ⟨hf, hp⟩
          refine st_move hf rfl rfl (by decide) ?_
          clear hf; intro a ha hf; clear ha
          refine wpList_cut 3 (fun a w => Fr 239 a [(1, vr1), (3, .int .i64 step3), (9, v7), (12, v25), (16, v43), (18, v52), (20, v61), (21, .int .i64 q54.2), (24, v79), (25, .int .i64 q72.2), (102, .bool ((((q9.2 != (0 : Int)) || (q18.2 != (0 : Int))) || (q36.2 != (0 : Int))) || (q45.2 != (0 : Int))))] ∧ Hp S w0 w (Res.sl Ek.c128 36 v70 q63.1 :: Res.sl Ek.c128 36 v79 q72.1 :: Res.sl Ek.c128 36 v7 z9 :: Res.sl Ek.f64 37 v52 q45.1 :: Res.sl Ek.c128 36 v61 q54.1 :: Res.sl Ek.c128 36 v34 q27.1 :: Res.sl Ek.c128 36 v43 q36.1 :: Res.sl Ek.c128 36 v16 q9.1 :: Res.sl Ek.c128 36 v25 q18.1 :: ow)) ?_ ?_
          · rcases Bool.eq_false_or_eq_true (((q9.2 != (0 : Int)) || (q18.2 != (0 : Int))) || (q36.2 != (0 : Int))) with hb86 | hb86
            · skip
              refine st_skip hf (wantN hf rfl rfl hb86) rfl (by decide) ?_ rfl
              clear hf; intro a hf
              refine st_skip hf (wantN hf rfl rfl hb86) rfl (by decide) ?_ rfl
              clear hf; intro a hf
              refine st_pick (v := .bool true) hf rfl rfl (fun hb' => ?_) (fun hb' => ?_) (by decide) ?_
              · rfl
              · exact absurd (hb86.symm.trans hb') (by decide)
              clear hf; intro a ha hf; clear ha
              refine st_nil hf (th_n ?_)
              exact ⟨hf.sub ⟨rfl, rfl, rfl, rfl, rfl, rfl, rfl, rfl, rfl, rfl, (by rw [hb86]; rfl), trivial⟩, hp⟩
            · skip
              refine st_move hf (wantY hf rfl rfl hb86) rfl (by decide) ?_
              clear hf; intro a ha hf; clear ha
              refine st_ineq hf (by decide) (wantY hf rfl rfl hb86) rfl rfl ?_
              clear hf; intro a ha hf; clear ha
              refine st_pick (v := .bool (q45.2 != (0 : Int))) hf rfl rfl (fun hb' => ?_) (fun hb' => ?_) (by decide) ?_
              · exact absurd (hb86.symm.trans hb') (by decide)
              · rfl
              clear hf; intro a ha hf; clear ha
              refine st_nil hf (th_n ?_)
              exact ⟨hf.sub ⟨rfl, rfl, rfl, rfl, rfl, rfl, rfl, rfl, rfl, rfl, (by rw [hb86]; rfl), trivial⟩, hp⟩
          · rintro a w ⟨hf, hp⟩
            refine st_move hf rfl rfl (by decide) ?_
            clear hf; intro a ha hf; clear ha
            refine wpList_cut 3 (fun a w => Fr 239 a [(1, vr1), (3, .int .i64 step3), (9, v7), (12, v25), (16, v43), (18, v52), (20, v61), (24, v79), (25, .int .i64 q72.2), (106, .bool (((((q9.2 != (0 : Int)) || (q18.2 != (0 : Int))) || (q36.2 != (0 : Int))) || (q45.2 != (0 : Int))) || (q54.2 != (0 : Int))))] ∧ Hp S w0 w (Res.sl Ek.c128 36 v70 q63.1 :: Res.sl Ek.c128 36 v79 q72.1 :: Res.sl Ek.c128 36 v7 z9 :: Res.sl Ek.f64 37 v52 q45.1 :: Res.sl Ek.c128 36 v61 q54.1 :: Res.sl Ek.c128 36 v34 q27.1 :: Res.sl Ek.c128 36 v43 q36.1 :: Res.sl Ek.c128 36 v16 q9.1 :: Res.sl Ek.c128 36 v25 q18.1 :: ow)) ?_ ?_
            · rcases Bool.eq_false_or_eq_true ((((q9.2 != (0 : Int)) || (q18.2 != (0 : Int))) || (q36.2 != (0 : Int))) || (q45.2 != (0 : Int))) with hb88 | hb88
              · skip
                refine st_skip hf (wantN hf rfl rfl hb88) rfl (by decide) ?_ rfl
                clear hf; intro a hf
                refine st_skip hf (wantN hf rfl rfl hb88) rfl (by decide) ?_ rfl
                clear hf; intro a hf
                refine st_pick (v := .bool true) hf rfl rfl (fun hb' => ?_) (fun hb' => ?_) (by decide) ?_
                · rfl
                · exact absurd (hb88.symm.trans hb') (by decide)
                clear hf; intro a ha hf; clear ha
                refine st_nil hf (th_n ?_)
                exact ⟨hf.sub ⟨rfl, rfl, rfl, rfl, rfl, rfl, rfl, rfl, rfl, (by rw [hb88]; rfl), trivial⟩, hp⟩
              · skip
                refine st_move hf (wantY hf rfl rfl hb88) rfl (by decide) ?_
                clear hf; intro a ha hf; clear ha
                refine st_ineq hf (by decide) (wantY hf rfl rfl hb88) rfl rfl ?_
                clear hf; intro a ha hf; clear ha
                refine st_pick (v := .bool (q54.2 != (0 : Int))) hf rfl rfl (fun hb' => ?_) (fun hb' => ?_) (by decide) ?_
                · exact absurd (hb88.symm.trans hb') (by decide)
                · rfl
                clear hf; intro a ha hf; clear ha
                refine st_nil hf (th_n ?_)
                exact ⟨hf.sub ⟨rfl, rfl, rfl, rfl, rfl, rfl, rfl, rfl, rfl, (by rw [hb88]; rfl), trivial⟩, hp⟩
            · rintro a w ⟨hf, hp⟩
              refine st_move hf rfl rfl (by decide) ?_
              clear hf; intro a ha hf; clear ha
              refine wpList_cut 3 (fun a w => Fr 239 a [(1, vr1), (3, .int .i64 step3), (9, v7), (12, v25), (16, v43), (18, v52), (20, v61), (24, v79), (110, .bool ((((((q9.2 != (0 : Int)) || (q18.2 != (0 : Int))) || (q36.2 != (0 : Int))) || (q45.2 != (0 : Int))) || (q54.2 != (0 : Int))) || (q72.2 != (0 : Int))))] ∧ Hp S w0 w (Res.sl Ek.c128 36 v70 q63.1 :: Res.sl Ek.c128 36 v79 q72.1 :: Res.sl Ek.c128 36 v7 z9 :: Res.sl Ek.f64 37 v52 q45.1 :: Res.sl Ek.c128 36 v61 q54.1 :: Res.sl Ek.c128 36 v34 q27.1 :: Res.sl Ek.c128 36 v43 q36.1 :: Res.sl Ek.c128 36 v16 q9.1 :: Res.sl Ek.c128 36 v25 q18.1 :: ow)) ?_ ?_
              · rcases Bool.eq_false_or_eq_true (((((q9.2 != (0 : Int)) || (q18.2 != (0 : Int))) || (q36.2 != (0 : Int))) || (q45.2 != (0 : Int))) || (q54.2 != (0 : Int))) with hb90 | hb90
                · skip
                  refine st_skip hf (wantN hf rfl rfl hb90) rfl (by decide) ?_ rfl
                  clear hf; intro a hf
                  refine st_skip hf (wantN hf rfl rfl hb90) rfl (by decide) ?_ rfl
                  clear hf; intro a hf
                  refine st_pick (v := .bool true) hf rfl rfl (fun hb' => ?_) (fun hb' => ?_) (by decide) ?_
                  · rfl
                  · exact absurd (hb90.symm.trans hb') (by decide)
                  clear hf; intro a ha hf; clear ha
                  refine st_nil hf (th_n ?_)
                  exact ⟨hf.sub ⟨rfl, rfl, rfl, rfl, rfl, rfl, rfl, rfl, (by rw [hb90]; rfl), trivial⟩, hp⟩
                · skip
                  refine st_move hf (wantY hf rfl rfl hb90) rfl (by decide) ?_
                  clear hf; intro a ha hf; clear ha
                  refine st_ineq hf (by decide) (wantY hf rfl rfl hb90) rfl rfl ?_
                  clear hf; intro a ha hf; clear ha
                  refine st_pick (v := .bool (q72.2 != (0 : Int))) hf rfl rfl (fun hb' => ?_) (fun hb' => ?_) (by decide) ?_
                  · exact absurd (hb90.symm.trans hb') (by decide)
                  · rfl
                  clear hf; intro a ha hf; clear ha
                  refine st_nil hf (th_n ?_)
                  exact ⟨hf.sub ⟨rfl, rfl, rfl, rfl, rfl, rfl, rfl, rfl, (by rw [hb90]; rfl), trivial⟩, hp⟩
              · rintro a w ⟨hf, hp⟩
                refine st_move hf rfl rfl (by decide) ?_
                clear hf; intro a ha hf; clear ha
                obtain ⟨z93, hz91, h⟩ := bnd h
                refine wpList_cut 5 (fun a w => Fr 239 a [(1, vr1), (3, .int .i64 step3), (9, v7), (16, v43), (18, v52), (20, v61), (24, v79), (116, .bool z93)] ∧ Hp S w0 w (Res.sl Ek.c128 36 v70 q63.1 :: Res.sl Ek.c128 36 v79 q72.1 :: Res.sl Ek.c128 36 v7 z9 :: Res.sl Ek.f64 37 v52 q45.1 :: Res.sl Ek.c128 36 v61 q54.1 :: Res.sl Ek.c128 36 v34 q27.1 :: Res.sl Ek.c128 36 v43 q36.1 :: Res.sl Ek.c128 36 v16 q9.1 :: Res.sl Ek.c128 36 v25 q18.1 :: ow)) ?_ ?_
                · rcases Bool.eq_false_or_eq_true ((((((q9.2 != (0 : Int)) || (q18.2 != (0 : Int))) || (q36.2 != (0 : Int))) || (q45.2 != (0 : Int))) || (q54.2 != (0 : Int))) || (q72.2 != (0 : Int))) with hb92 | hb92
                  · skip
                    replace hz91 := ifT hz91 hb92
                    refine st_skip hf (wantN hf rfl rfl hb92) rfl (by decide) ?_ rfl
                    clear hf; intro a hf
                    refine st_skip hf (wantN hf rfl rfl hb92) rfl (by decide) ?_ rfl
                    clear hf; intro a hf
                    refine st_skip hf (wantN hf rfl rfl hb92) rfl (by decide) ?_ rfl
                    clear hf; intro a hf
                    refine st_skip hf (wantN hf rfl rfl hb92) rfl (by decide) ?_ rfl
                    clear hf; intro a hf
                    obtain rfl := Option.some.inj hz91
                    refine st_pick (v := .bool true) hf rfl rfl (fun hb' => ?_) (fun hb' => ?_) (by decide) ?_
                    · rfl
                    · exact absurd (hb92.symm.trans hb') (by decide)
                    clear hf; intro a ha hf; clear ha
                    refine st_nil hf (th_n ?_)
                    exact ⟨hf.sub ⟨rfl, rfl, rfl, rfl, rfl, rfl, rfl, rfl, trivial⟩, hp⟩
                  · skip
                    replace hz91 := ifF hz91 hb92
                    refine st_move hf (wantY hf rfl rfl hb92) rfl (by decide) ?_
                    clear hf; intro a ha hf; clear ha
                    refine st_move hf (wantY hf rfl rfl hb92) rfl (by decide) ?_
                    clear hf; intro a ha hf; clear ha
                    obtain ⟨q94, hcall95, hz91⟩ := bnd hz91
                    obtain ⟨S96, hp97, rd98, up99, bk100⟩ := Hp.lendS hp (i := 8) rfl
                    obtain ⟨S101, hp102, rd103, up104, bk105⟩ := Hp.lendS hp97 (i := 2) rfl
                    refine st_call hf (by decide) Try.func33 rfl rfl (wantY hf rfl rfl hb92) rfl rfl (f_foghornref08_Same_c hp102 _ _ ((rd98.now hp97).mono up104) _ _ rd103 hcall95) ?_
                    rintro _ w ⟨rfl, hp0⟩
                    have hp0 := bk105 _ _ hp0
                    have hp0 := bk100 _ _ hp0
                    clear hp; have hp := hp0; clear hp0
                    replace hp : Hp _ _ w (Res.sl Ek.c128 36 v25 q18.1 :: Res.sl Ek.c128 36 v7 z9 :: Res.sl Ek.c128 36 v70 q63.1 :: Res.sl Ek.c128 36 v79 q72.1 :: Res.sl Ek.f64 37 v52 q45.1 :: Res.sl Ek.c128 36 v61 q54.1 :: Res.sl Ek.c128 36 v34 q27.1 :: Res.sl Ek.c128 36 v43 q36.1 :: Res.sl Ek.c128 36 v16 q9.1 :: ow) := hp
                    refine ⟨_, rfl, ?_⟩
                    clear hf; intro a hf
                    refine st_not hf (by decide) (wantY hf rfl rfl hb92) rfl ?_
                    clear hf; intro a ha hf; clear ha
                    obtain rfl := Option.some.inj hz91
                    refine st_pick (v := .bool (!q94)) hf rfl rfl (fun hb' => ?_) (fun hb' => ?_) (by decide) ?_
                    · exact absurd (hb92.symm.trans hb') (by decide)
                    · rfl
                    clear hf; intro a ha hf; clear ha
                    refine st_nil hf (th_n ?_)
                    have hp : Hp _ _ w (Res.sl Ek.c128 36 v70 q63.1 :: Res.sl Ek.c128 36 v79 q72.1 :: Res.sl Ek.c128 36 v7 z9 :: Res.sl Ek.f64 37 v52 q45.1 :: Res.sl Ek.c128 36 v61 q54.1 :: Res.sl Ek.c128 36 v34 q27.1 :: Res.sl Ek.c128 36 v43 q36.1 :: Res.sl Ek.c128 36 v16 q9.1 :: Res.sl Ek.c128 36 v25 q18.1 :: ow) := Hp.sel (pre := [Res.sl Ek.c128 36 v25 q18.1, Res.sl Ek.c128 36 v7 z9, Res.sl Ek.c128 36 v70 q63.1, Res.sl Ek.c128 36 v79 q72.1, Res.sl Ek.f64 37 v52 q45.1, Res.sl Ek.c128 36 v61 q54.1, Res.sl Ek.c128 36 v34 q27.1, Res.sl Ek.c128 36 v43 q36.1, Res.sl Ek.c128 36 v16 q9.1]) (tail := ow) (rs' := [Res.sl Ek.c128 36 v70 q63.1, Res.sl Ek.c128 36 v79 q72.1, Res.sl Ek.c128 36 v7 z9, Res.sl Ek.f64 37 v52 q45.1, Res.sl Ek.c128 36 v61 q54.1, Res.sl Ek.c128 36 v34 q27.1, Res.sl Ek.c128 36 v43 q36.1, Res.sl Ek.c128 36 v16 q9.1, Res.sl Ek.c128 36 v25 q18.1]) hp [2, 3, 1, 4, 5, 6, 7, 8, 0] (by decide) (by simp) rfl
                    exact ⟨hf.sub ⟨rfl, rfl, rfl, rfl, rfl, rfl, rfl, rfl, trivial⟩, hp⟩
                · rintro a w ⟨hf, hp⟩
                  refine st_move hf rfl rfl (by decide) ?_
                  clear hf; intro a ha hf; clear ha
                  obtain ⟨z108, hz106, h⟩ := bnd h
                  refine wpList_cut 5 (fun a w => Fr 239 a [(1, vr1), (3, .int .i64 step3), (9, v7), (18, v52), (20, v61), (24, v79), (122, .bool z108)] ∧ Hp S w0 w (Res.sl Ek.c128 36 v70 q63.1 :: Res.sl Ek.c128 36 v79 q72.1 :: Res.sl Ek.c128 36 v7 z9 :: Res.sl Ek.f64 37 v52 q45.1 :: Res.sl Ek.c128 36 v61 q54.1 :: Res.sl Ek.c128 36 v34 q27.1 :: Res.sl Ek.c128 36 v43 q36.1 :: Res.sl Ek.c128 36 v16 q9.1 :: Res.sl Ek.c128 36 v25 q18.1 :: ow)) ?_ ?_
                  · rcases Bool.eq_false_or_eq_true z93 with hb107 | hb107
                    · skip
                      replace hz106 := ifT hz106 hb107
                      refine st_skip hf (wantN hf rfl rfl hb107) rfl (by decide) ?_ rfl
                      clear hf; intro a hf
                      refine st_skip hf (wantN hf rfl rfl hb107) rfl (by decide) ?_ rfl
                      clear hf; intro a hf
                      refine st_skip hf (wantN hf rfl rfl hb107) rfl (by decide) ?_ rfl
                      clear hf; intro a hf
                      refine st_skip hf (wantN hf rfl rfl hb107) rfl (by decide) ?_ rfl
                      clear hf; intro a hf
                      obtain rfl := Option.some.inj hz106
                      refine st_pick (v := .bool true) hf rfl rfl (fun hb' => ?_) (fun hb' => ?_) (by decide) ?_
                      · rfl
                      · exact absurd (hb107.symm.trans hb') (by decide)
                      clear hf; intro a ha hf; clear ha
                      refine st_nil hf (th_n ?_)
                      exact ⟨hf.sub ⟨rfl, rfl, rfl, rfl, rfl, rfl, rfl, trivial⟩, hp⟩
                    · skip
                      replace hz106 := ifF hz106 hb107
                      refine st_move hf (wantY hf rfl rfl hb107) rfl (by decide) ?_
                      clear hf; intro a ha hf; clear ha
                      refine st_move hf (wantY hf rfl rfl hb107) rfl (by decide) ?_
                      clear hf; intro a ha hf; clear ha
                      obtain ⟨q109, hcall110, hz106⟩ := bnd hz106
                      obtain ⟨S111, hp112, rd113, up114, bk115⟩ := Hp.lendS hp (i := 6) rfl
                      obtain ⟨S116, hp117, rd118, up119, bk120⟩ := Hp.lendS hp112 (i := 2) rfl
                      refine st_call hf (by decide) Try.func33 rfl rfl (wantY hf rfl rfl hb107) rfl rfl (f_foghornref08_Same_c hp117 _ _ ((rd113.now hp112).mono up119) _ _ rd118 hcall110) ?_
                      rintro _ w ⟨rfl, hp0⟩
                      have hp0 := bk120 _ _ hp0
                      have hp0 := bk115 _ _ hp0
                      clear hp; have hp := hp0; clear hp0
                      replace hp : Hp _ _ w (Res.sl Ek.c128 36 v43 q36.1 :: Res.sl Ek.c128 36 v7 z9 :: Res.sl Ek.c128 36 v70 q63.1 :: Res.sl Ek.c128 36 v79 q72.1 :: Res.sl Ek.f64 37 v52 q45.1 :: Res.sl Ek.c128 36 v61 q54.1 :: Res.sl Ek.c128 36 v34 q27.1 :: Res.sl Ek.c128 36 v16 q9.1 :: Res.sl Ek.c128 36 v25 q18.1 :: ow) := hp
                      refine ⟨_, rfl, ?_⟩
                      clear hf; intro a hf
                      refine st_not hf (by decide) (wantY hf rfl rfl hb107) rfl ?_
                      clear hf; intro a ha hf; clear ha
                      obtain rfl := Option.some.inj hz106
                      refine st_pick (v := .bool (!q109)) hf rfl rfl (fun hb' => ?_) (fun hb' => ?_) (by decide) ?_
                      · exact absurd (hb107.symm.trans hb') (by decide)
                      · rfl
                      clear hf; intro a ha hf; clear ha
                      refine st_nil hf (th_n ?_)
                      have hp : Hp _ _ w (Res.sl Ek.c128 36 v70 q63.1 :: Res.sl Ek.c128 36 v79 q72.1 :: Res.sl Ek.c128 36 v7 z9 :: Res.sl Ek.f64 37 v52 q45.1 :: Res.sl Ek.c128 36 v61 q54.1 :: Res.sl Ek.c128 36 v34 q27.1 :: Res.sl Ek.c128 36 v43 q36.1 :: Res.sl Ek.c128 36 v16 q9.1 :: Res.sl Ek.c128 36 v25 q18.1 :: ow) := Hp.sel (pre := [Res.sl Ek.c128 36 v43 q36.1, Res.sl Ek.c128 36 v7 z9, Res.sl Ek.c128 36 v70 q63.1, Res.sl Ek.c128 36 v79 q72.1, Res.sl Ek.f64 37 v52 q45.1, Res.sl Ek.c128 36 v61 q54.1, Res.sl Ek.c128 36 v34 q27.1, Res.sl Ek.c128 36 v16 q9.1, Res.sl Ek.c128 36 v25 q18.1]) (tail := ow) (rs' := [Res.sl Ek.c128 36 v70 q63.1, Res.sl Ek.c128 36 v79 q72.1, Res.sl Ek.c128 36 v7 z9, Res.sl Ek.f64 37 v52 q45.1, Res.sl Ek.c128 36 v61 q54.1, Res.sl Ek.c128 36 v34 q27.1, Res.sl Ek.c128 36 v43 q36.1, Res.sl Ek.c128 36 v16 q9.1, Res.sl Ek.c128 36 v25 q18.1]) hp [2, 3, 1, 4, 5, 6, 0, 7, 8] (by decide) (by simp) rfl
                      exact ⟨hf.sub ⟨rfl, rfl, rfl, rfl, rfl, rfl, rfl, trivial⟩, hp⟩
                  · rintro a w ⟨hf, hp⟩
                    refine st_move hf rfl rfl (by decide) ?_
                    clear hf; intro a ha hf; clear ha
                    obtain ⟨z123, hz121, h⟩ := bnd h
                    refine wpList_cut 5 (fun a w => Fr 239 a [(1, vr1), (3, .int .i64 step3), (9, v7), (18, v52), (24, v79), (128, .bool z123)] ∧ Hp S w0 w (Res.sl Ek.c128 36 v70 q63.1 :: Res.sl Ek.c128 36 v79 q72.1 :: Res.sl Ek.c128 36 v7 z9 :: Res.sl Ek.f64 37 v52 q45.1 :: Res.sl Ek.c128 36 v61 q54.1 :: Res.sl Ek.c128 36 v34 q27.1 :: Res.sl Ek.c128 36 v43 q36.1 :: Res.sl Ek.c128 36 v16 q9.1 :: Res.sl Ek.c128 36 v25 q18.1 :: ow)) ?_ ?_
                    · rcases Bool.eq_false_or_eq_true z108 with hb122 | hb122
                      · skip
                        replace hz121 := ifT hz121 hb122
                        refine st_skip hf (wantN hf rfl rfl hb122) rfl (by decide) ?_ rfl
                        clear hf; intro a hf
                        refine st_skip hf (wantN hf rfl rfl hb122) rfl (by decide) ?_ rfl
                        clear hf; intro a hf
                        refine st_skip hf (wantN hf rfl rfl hb122) rfl (by decide) ?_ rfl
                        clear hf; intro a hf
                        refine st_skip hf (wantN hf rfl rfl hb122) rfl (by decide) ?_ rfl
                        clear hf; intro a hf
                        obtain rfl := Option.some.inj hz121
                        refine st_pick (v := .bool true) hf rfl rfl (fun hb' => ?_) (fun hb' => ?_) (by decide) ?_
                        · rfl
                        · exact absurd (hb122.symm.trans hb') (by decide)
                        clear hf; intro a ha hf; clear ha
                        refine st_nil hf (th_n ?_)
                        exact ⟨hf.sub ⟨rfl, rfl, rfl, rfl, rfl, rfl, trivial⟩, hp⟩
                      · skip
                        replace hz121 := ifF hz121 hb122
                        refine st_move hf (wantY hf rfl rfl hb122) rfl (by decide) ?_
                        clear hf; intro a ha hf; clear ha
                        refine st_move hf (wantY hf rfl rfl hb122) rfl (by decide) ?_
                        clear hf; intro a ha hf; clear ha
                        obtain ⟨q124, hcall125, hz121⟩ := bnd hz121
                        obtain ⟨S126, hp127, rd128, up129, bk130⟩ := Hp.lendS hp (i := 4) rfl
                        obtain ⟨S131, hp132, rd133, up134, bk135⟩ := Hp.lendS hp127 (i := 2) rfl
                        refine st_call hf (by decide) Try.func33 rfl rfl (wantY hf rfl rfl hb122) rfl rfl (f_foghornref08_Same_c hp132 _ _ ((rd128.now hp127).mono up134) _ _ rd133 hcall125) ?_
                        rintro _ w ⟨rfl, hp0⟩
                        have hp0 := bk135 _ _ hp0
                        have hp0 := bk130 _ _ hp0
                        clear hp; have hp := hp0; clear hp0
                        replace hp : Hp _ _ w (Res.sl Ek.c128 36 v61 q54.1 :: Res.sl Ek.c128 36 v7 z9 :: Res.sl Ek.c128 36 v70 q63.1 :: Res.sl Ek.c128 36 v79 q72.1 :: Res.sl Ek.f64 37 v52 q45.1 :: Res.sl Ek.c128 36 v34 q27.1 :: Res.sl Ek.c128 36 v43 q36.1 :: Res.sl Ek.c128 36 v16 q9.1 :: Res.sl Ek.c128 36 v25 q18.1 :: ow) := hp
                        refine ⟨_, rfl, ?_⟩
                        clear hf; intro a hf
                        refine st_not hf (by decide) (wantY hf rfl rfl hb122) rfl ?_
                        clear hf; intro a ha hf; clear ha
                        obtain rfl := Option.some.inj hz121
                        refine st_pick (v := .bool (!q124)) hf rfl rfl (fun hb' => ?_) (fun hb' => ?_) (by decide) ?_
                        · exact absurd (hb122.symm.trans hb') (by decide)
                        · rfl
                        clear hf; intro a ha hf; clear ha
                        refine st_nil hf (th_n ?_)
                        have hp : Hp _ _ w (Res.sl Ek.c128 36 v70 q63.1 :: Res.sl Ek.c128 36 v79 q72.1 :: Res.sl Ek.c128 36 v7 z9 :: Res.sl Ek.f64 37 v52 q45.1 :: Res.sl Ek.c128 36 v61 q54.1 :: Res.sl Ek.c128 36 v34 q27.1 :: Res.sl Ek.c128 36 v43 q36.1 :: Res.sl Ek.c128 36 v16 q9.1 :: Res.sl Ek.c128 36 v25 q18.1 :: ow) := Hp.sel (pre := [Res.sl Ek.c128 36 v61 q54.1, Res.sl Ek.c128 36 v7 z9, Res.sl Ek.c128 36 v70 q63.1, Res.sl Ek.c128 36 v79 q72.1, Res.sl Ek.f64 37 v52 q45.1, Res.sl Ek.c128 36 v34 q27.1, Res.sl Ek.c128 36 v43 q36.1, Res.sl Ek.c128 36 v16 q9.1, Res.sl Ek.c128 36 v25 q18.1]) (tail := ow) (rs' := [Res.sl Ek.c128 36 v70 q63.1, Res.sl Ek.c128 36 v79 q72.1, Res.sl Ek.c128 36 v7 z9, Res.sl Ek.f64 37 v52 q45.1, Res.sl Ek.c128 36 v61 q54.1, Res.sl Ek.c128 36 v34 q27.1, Res.sl Ek.c128 36 v43 q36.1, Res.sl Ek.c128 36 v16 q9.1, Res.sl Ek.c128 36 v25 q18.1]) hp [2, 3, 1, 4, 0, 5, 6, 7, 8] (by decide) (by simp) rfl
                        exact ⟨hf.sub ⟨rfl, rfl, rfl, rfl, rfl, rfl, trivial⟩, hp⟩
                    · rintro a w ⟨hf, hp⟩
                      refine st_move hf rfl rfl (by decide) ?_
                      clear hf; intro a ha hf; clear ha
                      obtain ⟨z138, hz136, h⟩ := bnd h
                      refine wpList_cut 5 (fun a w => Fr 239 a [(1, vr1), (3, .int .i64 step3), (9, v7), (18, v52), (134, .bool z138)] ∧ Hp S w0 w (Res.sl Ek.c128 36 v70 q63.1 :: Res.sl Ek.c128 36 v79 q72.1 :: Res.sl Ek.c128 36 v7 z9 :: Res.sl Ek.f64 37 v52 q45.1 :: Res.sl Ek.c128 36 v61 q54.1 :: Res.sl Ek.c128 36 v34 q27.1 :: Res.sl Ek.c128 36 v43 q36.1 :: Res.sl Ek.c128 36 v16 q9.1 :: Res.sl Ek.c128 36 v25 q18.1 :: ow)) ?_ ?_
                      · rcases Bool.eq_false_or_eq_true z123 with hb137 | hb137
                        · skip
                          replace hz136 := ifT hz136 hb137
                          refine st_skip hf (wantN hf rfl rfl hb137) rfl (by decide) ?_ rfl
                          clear hf; intro a hf
                          refine st_skip hf (wantN hf rfl rfl hb137) rfl (by decide) ?_ rfl
                          clear hf; intro a hf
                          refine st_skip hf (wantN hf rfl rfl hb137) rfl (by decide) ?_ rfl
                          clear hf; intro a hf
                          refine st_skip hf (wantN hf rfl rfl hb137) rfl (by decide) ?_ rfl
                          clear hf; intro a hf
                          obtain rfl := Option.some.inj hz136
                          refine st_pick (v := .bool true) hf rfl rfl (fun hb' => ?_) (fun hb' => ?_) (by decide) ?_
                          · rfl
                          · exact absurd (hb137.symm.trans hb') (by decide)
                          clear hf; intro a ha hf; clear ha
                          refine st_nil hf (th_n ?_)
                          exact ⟨hf.sub ⟨rfl, rfl, rfl, rfl, rfl, trivial⟩, hp⟩
                        · skip
                          replace hz136 := ifF hz136 hb137
                          refine st_move hf (wantY hf rfl rfl hb137) rfl (by decide) ?_
                          clear hf; intro a ha hf; clear ha
                          refine st_move hf (wantY hf rfl rfl hb137) rfl (by decide) ?_
                          clear hf; intro a ha hf; clear ha
                          obtain ⟨q139, hcall140, hz136⟩ := bnd hz136
                          obtain ⟨S141, hp142, rd143, up144, bk145⟩ := Hp.lendS hp (i := 1) rfl
                          obtain ⟨S146, hp147, rd148, up149, bk150⟩ := Hp.lendS hp142 (i := 1) rfl
                          refine st_call hf (by decide) Try.func33 rfl rfl (wantY hf rfl rfl hb137) rfl rfl (f_foghornref08_Same_c hp147 _ _ ((rd143.now hp142).mono up149) _ _ rd148 hcall140) ?_
                          rintro _ w ⟨rfl, hp0⟩
                          have hp0 := bk150 _ _ hp0
                          have hp0 := bk145 _ _ hp0
                          clear hp; have hp := hp0; clear hp0
                          replace hp : Hp _ _ w (Res.sl Ek.c128 36 v79 q72.1 :: Res.sl Ek.c128 36 v7 z9 :: Res.sl Ek.c128 36 v70 q63.1 :: Res.sl Ek.f64 37 v52 q45.1 :: Res.sl Ek.c128 36 v61 q54.1 :: Res.sl Ek.c128 36 v34 q27.1 :: Res.sl Ek.c128 36 v43 q36.1 :: Res.sl Ek.c128 36 v16 q9.1 :: Res.sl Ek.c128 36 v25 q18.1 :: ow) := hp
                          refine ⟨_, rfl, ?_⟩
                          clear hf; intro a hf
                          refine st_not hf (by decide) (wantY hf rfl rfl hb137) rfl ?_
                          clear hf; intro a ha hf; clear ha
                          obtain rfl := Option.some.inj hz136
                          refine st_pick (v := .bool (!q139)) hf rfl rfl (fun hb' => ?_) (fun hb' => ?_) (by decide) ?_
                          · exact absurd (hb137.symm.trans hb') (by decide)
                          · rfl
                          clear hf; intro a ha hf; clear ha
                          refine st_nil hf (th_n ?_)
                          have hp : Hp _ _ w (Res.sl Ek.c128 36 v70 q63.1 :: Res.sl Ek.c128 36 v79 q72.1 :: Res.sl Ek.c128 36 v7 z9 :: Res.sl Ek.f64 37 v52 q45.1 :: Res.sl Ek.c128 36 v61 q54.1 :: Res.sl Ek.c128 36 v34 q27.1 :: Res.sl Ek.c128 36 v43 q36.1 :: Res.sl Ek.c128 36 v16 q9.1 :: Res.sl Ek.c128 36 v25 q18.1 :: ow) := Hp.sel (pre := [Res.sl Ek.c128 36 v79 q72.1, Res.sl Ek.c128 36 v7 z9, Res.sl Ek.c128 36 v70 q63.1, Res.sl Ek.f64 37 v52 q45.1, Res.sl Ek.c128 36 v61 q54.1, Res.sl Ek.c128 36 v34 q27.1, Res.sl Ek.c128 36 v43 q36.1, Res.sl Ek.c128 36 v16 q9.1, Res.sl Ek.c128 36 v25 q18.1]) (tail := ow) (rs' := [Res.sl Ek.c128 36 v70 q63.1, Res.sl Ek.c128 36 v79 q72.1, Res.sl Ek.c128 36 v7 z9, Res.sl Ek.f64 37 v52 q45.1, Res.sl Ek.c128 36 v61 q54.1, Res.sl Ek.c128 36 v34 q27.1, Res.sl Ek.c128 36 v43 q36.1, Res.sl Ek.c128 36 v16 q9.1, Res.sl Ek.c128 36 v25 q18.1]) hp [2, 0, 1, 3, 4, 5, 6, 7, 8] (by decide) (by simp) rfl
                          exact ⟨hf.sub ⟨rfl, rfl, rfl, rfl, rfl, trivial⟩, hp⟩
                      · rintro a w ⟨hf, hp⟩
                        refine st_move hf rfl rfl (by decide) ?_
                        clear hf; intro a ha hf; clear ha
                        refine wpList_cut 7 (fun a w => Fr 239 a [(1, vr1), (3, .int .i64 step3), (9, v7), (142, .bool (z138 || ((q45.1.length : Int) != (IntKind.i64.wrap ((2 : Int) * (z9.length : Int))))))] ∧ Hp S w0 w (Res.sl Ek.c128 36 v70 q63.1 :: Res.sl Ek.c128 36 v79 q72.1 :: Res.sl Ek.c128 36 v7 z9 :: Res.sl Ek.f64 37 v52 q45.1 :: Res.sl Ek.c128 36 v61 q54.1 :: Res.sl Ek.c128 36 v34 q27.1 :: Res.sl Ek.c128 36 v43 q36.1 :: Res.sl Ek.c128 36 v16 q9.1 :: Res.sl Ek.c128 36 v25 q18.1 :: ow)) ?_ ?_
                        · rcases Bool.eq_false_or_eq_true z138 with hb152 | hb152
                          · skip
                            refine st_skip hf (wantN hf rfl rfl hb152) rfl (by decide) ?_ rfl
                            clear hf; intro a hf
                            refine st_skip hf (wantN hf rfl rfl hb152) rfl (by decide) ?_ rfl
                            clear hf; intro a hf
                            refine st_skip hf (wantN hf rfl rfl hb152) rfl (by decide) ?_ rfl
                            clear hf; intro a hf
                            refine st_skip hf (wantN hf rfl rfl hb152) rfl (by decide) ?_ rfl
                            clear hf; intro a hf
                            refine st_skip hf (wantN hf rfl rfl hb152) rfl (by decide) ?_ rfl
                            clear hf; intro a hf
                            refine st_skip hf (wantN hf rfl rfl hb152) rfl (by decide) ?_ rfl
                            clear hf; intro a hf
                            refine st_pick (v := .bool true) hf rfl rfl (fun hb' => ?_) (fun hb' => ?_) (by decide) ?_
                            · rfl
                            · exact absurd (hb152.symm.trans hb') (by decide)
                            clear hf; intro a ha hf; clear ha
                            refine st_nil hf (th_n ?_)
                            exact ⟨hf.sub ⟨rfl, rfl, rfl, (by rw [hb152]; rfl), trivial⟩, hp⟩
                          · skip
                            refine st_move hf (wantY hf rfl rfl hb152) rfl (by decide) ?_
                            clear hf; intro a ha hf; clear ha
                            refine st_len (E := Ek.f64) hf (by decide) Try.underlying40 (wantY hf rfl rfl hb152) rfl (hp.sl (i := 3) rfl) ?_
                            clear hf; intro a ha hf; clear ha
                            refine st_move hf (wantY hf rfl rfl hb152) rfl (by decide) ?_
                            clear hf; intro a ha hf; clear ha
                            refine st_len (E := Ek.c128) hf (by decide) Try.underlying24 (wantY hf rfl rfl hb152) rfl (hp.sl (i := 2) rfl) ?_
                            clear hf; intro a ha hf; clear ha
                            refine st_imul hf (by decide) (wantY hf rfl rfl hb152) rfl rfl ?_
                            clear hf; intro a ha hf; clear ha
                            refine st_ineq hf (by decide) (wantY hf rfl rfl hb152) rfl rfl ?_
                            clear hf; intro a ha hf; clear ha
                            refine st_pick (v := .bool ((q45.1.length : Int) != (IntKind.i64.wrap ((2 : Int) * (z9.length : Int))))) hf rfl rfl (fun hb' => ?_) (fun hb' => ?_) (by decide) ?_
                            · exact absurd (hb152.symm.trans hb') (by decide)
                            · rfl
                            clear hf; intro a ha hf; clear ha
                            refine st_nil hf (th_n ?_)
                            exact ⟨hf.sub ⟨rfl, rfl, rfl, (by rw [hb152]; rfl), trivial⟩, hp⟩
                        · rintro a w ⟨hf, hp⟩
                          refine st_nil hf ?_
                          refine th_n ?_
                          refine wp_if hf rfl (fun hb => ?_) (fun hb => ?_)
                          · replace h := ifT h hb
                            refine wp_seq ?_
                            refine wp_reg ?_
                            refine st_assign hf rfl rfl (by decide) ?_
                            clear hf; intro a ha hf; clear ha
                            refine st_nil hf ?_
                            refine th_n ?_
                            refine wp_ret ?_
                            refine th_r ?_
                            obtain rfl := Option.some.inj h
                            have hp : Hp _ _ w (ow) := Hp.sel (pre := [Res.sl Ek.c128 36 v70 q63.1, Res.sl Ek.c128 36 v79 q72.1, Res.sl Ek.c128 36 v7 z9, Res.sl Ek.f64 37 v52 q45.1, Res.sl Ek.c128 36 v61 q54.1, Res.sl Ek.c128 36 v34 q27.1, Res.sl Ek.c128 36 v43 q36.1, Res.sl Ek.c128 36 v16 q9.1, Res.sl Ek.c128 36 v25 q18.1]) (tail := ow) (rs' := []) hp [] (by decide) (by simp) rfl
                            exact ⟨rfl, ⟨hf.sub ⟨rfl, trivial⟩, hp⟩⟩
                          · replace h := ifF h hb
                            refine wp_skip ?_
                            refine th_n ?_
                            refine wp_seq ?_
                            refine wp_reg ?_
                            refine st_move hf rfl rfl (by decide) ?_
                            clear hf; intro a ha hf; clear ha
                            obtain ⟨q153, hcall154, h⟩ := bnd h
                            refine st_call hf (by decide) Try.func9 rfl rfl rfl rfl rfl (f_foghornlaw08_numbers_c hp _ _ hr1 hcall154) ?_
                            rintro _ w ⟨v155, rfl, hp0⟩
                            clear hp; have hp := hp0; clear hp0
                            replace hp : Hp _ _ w (Res.slx Ek.c128 36 v155 q153.1 q153.2 :: Res.sl Ek.c128 36 v70 q63.1 :: Res.sl Ek.c128 36 v79 q72.1 :: Res.sl Ek.c128 36 v7 z9 :: Res.sl Ek.f64 37 v52 q45.1 :: Res.sl Ek.c128 36 v61 q54.1 :: Res.sl Ek.c128 36 v34 q27.1 :: Res.sl Ek.c128 36 v43 q36.1 :: Res.sl Ek.c128 36 v16 q9.1 :: Res.sl Ek.c128 36 v25 q18.1 :: ow) := hp
                            replace hp : Hp _ _ w (Res.sl Ek.c128 36 v155 q153.1 :: Res.sl Ek.c128 36 v70 q63.1 :: Res.sl Ek.c128 36 v79 q72.1 :: Res.sl Ek.c128 36 v7 z9 :: Res.sl Ek.f64 37 v52 q45.1 :: Res.sl Ek.c128 36 v61 q54.1 :: Res.sl Ek.c128 36 v34 q27.1 :: Res.sl Ek.c128 36 v43 q36.1 :: Res.sl Ek.c128 36 v16 q9.1 :: Res.sl Ek.c128 36 v25 q18.1 :: ow) := hp.forget (i := 0) rfl
                            refine ⟨_, rfl, ?_⟩
                            clear hf; intro a hf
                            refine st_assign hf rfl rfl (by decide) ?_
                            clear hf; intro a ha hf; clear ha
                            refine st_nil hf ?_
                            refine th_n ?_
                            refine wp_seq ?_
                            refine wp_reg ?_
                            refine st_assign hf rfl rfl (by decide) ?_
                            clear hf; intro a ha hf; clear ha
                            refine st_nil hf ?_
                            refine th_n ?_
                            refine wp_seq ?_
                            refine wp_seq ?_
                            refine wp_reg ?_
                            refine st_assign hf rfl rfl (by decide) ?_
                            clear hf; intro a ha hf; clear ha
                            refine st_nil hf ?_
                            refine th_n ?_
                            refine wp_block ?_
                            obtain ⟨q185, hl, h⟩ := bnd h
                            have hp := hp.nil Ek.f64 37
                            have hp : Hp _ _ w (Res.sl Ek.f64 37 (.slice none 0 0) ([]) :: Res.sl Ek.c128 36 v7 z9 :: Res.sl Ek.c128 36 v155 q153.1 :: ow) := Hp.sel (pre := [Res.sl Ek.f64 37 (.slice none 0 0) ([]), Res.sl Ek.c128 36 v155 q153.1, Res.sl Ek.c128 36 v70 q63.1, Res.sl Ek.c128 36 v79 q72.1, Res.sl Ek.c128 36 v7 z9, Res.sl Ek.f64 37 v52 q45.1, Res.sl Ek.c128 36 v61 q54.1, Res.sl Ek.c128 36 v34 q27.1, Res.sl Ek.c128 36 v43 q36.1, Res.sl Ek.c128 36 v16 q9.1, Res.sl Ek.c128 36 v25 q18.1]) (tail := ow) (rs' := [Res.sl Ek.f64 37 (.slice none 0 0) ([]), Res.sl Ek.c128 36 v7 z9, Res.sl Ek.c128 36 v155 q153.1]) hp [0, 4, 1] (by decide) (by simp) rfl
                            refine wp_loop_pure (f := (f_foghornlaw08_MixBack.s1 q153)) (s := ([], (0 : Int))) (fun s a w => ∃ (v157 : Value), Fr 239 a [(3, .int .i64 step3), (9, v7), (26, v155), (27, v157), (28, .int .i64 s.2)] ∧ Hp S w0 w (Res.sl Ek.f64 37 v157 s.1 :: Res.sl Ek.c128 36 v7 z9 :: Res.sl Ek.c128 36 v155 q153.1 :: ow)) (fun q e a w => e = .exit 0 ∧ ∃ (v159 : Value), Fr 239 a [(3, .int .i64 step3), (9, v7), (27, v159)] ∧ Hp S w0 w (Res.sl Ek.f64 37 v159 q :: Res.sl Ek.c128 36 v7 z9 :: ow)) ?_ hl ⟨_, hf.sub ⟨rfl, rfl, rfl, rfl, rfl, trivial⟩, hp⟩ ?_
                            · clear hl hf hp
                              intro s x a w h hI
                              obtain ⟨line27, i28⟩ := s
                              obtain ⟨v157, hf, hp⟩ : ∃ (v157 : Value), Fr 239 a [(3, .int .i64 step3), (9, v7), (26, v155), (27, v157), (28, .int .i64 i28)] ∧ Hp S w0 w (Res.sl Ek.f64 37 v157 line27 :: Res.sl Ek.c128 36 v7 z9 :: Res.sl Ek.c128 36 v155 q153.1 :: ow) := hI
                              replace h : f_foghornlaw08_MixBack.s1c q153 line27 i28 = some x := h
                              unfold f_foghornlaw08_MixBack.s1c at h
                              refine wp_seq ?_
                              refine wp_seq ?_
                              refine wp_reg ?_
                              refine st_move hf rfl rfl (by decide) ?_
                              clear hf; intro a ha hf; clear ha
                              refine st_move hf rfl rfl (by decide) ?_
                              clear hf; intro a ha hf; clear ha
                              refine st_len (E := Ek.c128) hf (by decide) Try.underlying24 rfl rfl (hp.sl (i := 2) rfl) ?_
                              clear hf; intro a ha hf; clear ha
                              refine st_ilss hf (by decide) rfl rfl rfl ?_
                              clear hf; intro a ha hf; clear ha
                              refine st_move hf rfl rfl (by decide) ?_
                              clear hf; intro a ha hf; clear ha
                              refine wpList_cut 3 (fun a w => Fr 239 a [(3, .int .i64 step3), (9, v7), (26, v155), (27, v157), (28, .int .i64 i28), (152, .bool ((decide (i28 < (q153.1.length : Int))) && (decide (i28 < (32768 : Int)))))] ∧ Hp S w0 w (Res.sl Ek.f64 37 v157 line27 :: Res.sl Ek.c128 36 v7 z9 :: Res.sl Ek.c128 36 v155 q153.1 :: ow)) ?_ ?_
                              · rcases Bool.eq_false_or_eq_true (decide (i28 < (q153.1.length : Int))) with hb162 | hb162
                                · skip
                                  refine st_move hf (wantY hf rfl rfl hb162) rfl (by decide) ?_
                                  clear hf; intro a ha hf; clear ha
                                  refine st_ilss hf (by decide) (wantY hf rfl rfl hb162) rfl rfl ?_
                                  clear hf; intro a ha hf; clear ha
                                  refine st_pick (v := .bool (decide (i28 < (32768 : Int)))) hf rfl rfl (fun hb' => ?_) (fun hb' => ?_) (by decide) ?_
                                  · rfl
                                  · exact absurd (hb162.symm.trans hb') (by decide)
                                  clear hf; intro a ha hf; clear ha
                                  refine st_nil hf (th_n ?_)
                                  exact ⟨hf.sub ⟨rfl, rfl, rfl, rfl, rfl, (by rw [hb162]; rfl), trivial⟩, hp⟩
                                · skip
                                  refine st_skip hf (wantN hf rfl rfl hb162) rfl (by decide) ?_ rfl
                                  clear hf; intro a hf
                                  refine st_skip hf (wantN hf rfl rfl hb162) rfl (by decide) ?_ rfl
                                  clear hf; intro a hf
                                  refine st_pick (v := .bool false) hf rfl rfl (fun hb' => ?_) (fun hb' => ?_) (by decide) ?_
                                  · exact absurd (hb162.symm.trans hb') (by decide)
                                  · rfl
                                  clear hf; intro a ha hf; clear ha
                                  refine st_nil hf (th_n ?_)
                                  exact ⟨hf.sub ⟨rfl, rfl, rfl, rfl, rfl, (by rw [hb162]; rfl), trivial⟩, hp⟩
                              · rintro a w ⟨hf, hp⟩
                                refine st_nil hf ?_
                                refine th_n ?_
                                refine wp_if hf rfl (fun hb => ?_) (fun hb => ?_)
                                · replace h := ifT h hb
                                  refine wp_skip ?_
                                  refine th_n ?_
                                  refine wp_seq ?_
                                  refine wp_block ?_
                                  obtain ⟨S163, hp164, rd165, up166, bk167⟩ := Hp.lendS hp (i := 2) rfl
                                  have rl168 := rd165
                                  obtain ⟨hc169, h⟩ := chk h
                                  obtain ⟨b171, b172, y173, y174, hl170⟩ := RdS.pinC (p := i28) rl168 hc169.1 hc169.2
                                  obtain ⟨hc175, h⟩ := chk h
                                  obtain ⟨b177, b178, y179, y180, hl176⟩ := RdS.pinC (p := i28) rl168 hc175.1 hc175.2
                                  obtain ⟨hc183, h⟩ := chk h
                                  refine wp_cutN (fun a w => ∃ (v181 : Value) (v184 : Value), Fr 239 a [(3, .int .i64 step3), (9, v7), (26, v155), (27, v184), (28, .int .i64 i28)] ∧ Hp S w0 w (Res.sl Ek.c128 36 v155 q153.1 :: Res.sl Ek.f64 37 v181 ([(gt q153.1 i28).1, (gt q153.1 i28).2]) :: Res.sl Ek.f64 37 v184 (line27 ++ [(gt q153.1 i28).1, (gt q153.1 i28).2]) :: Res.sl Ek.c128 36 v7 z9 :: ow)) ?_ ?_
                                  · have hp := hp164.same (Same.drew w)
                                    refine dr_begin' (fun a w => ∃ (v181 : Value) (v184 : Value), Fr 239 a [(3, .int .i64 step3), (9, v7), (26, v155), (27, v184), (28, .int .i64 i28)] ∧ Hp S w0 w (Res.sl Ek.c128 36 v155 q153.1 :: Res.sl Ek.f64 37 v181 ([(gt q153.1 i28).1, (gt q153.1 i28).2]) :: Res.sl Ek.f64 37 v184 (line27 ++ [(gt q153.1 i28).1, (gt q153.1 i28).2]) :: Res.sl Ek.c128 36 v7 z9 :: ow)) (fun w' => ∃ l, Hp S163 w w' l) [] (by kernel_rfl) ?_
                                    refine dr_take 0 (v157) rfl (by kernel_rfl) (by kernel_rfl) (by kernel_rfl) (by kernel_rfl) rfl rfl hf (by decide) rfl (fun w hp => ?_) ⟨_, hp⟩ ?_
                                    · obtain ⟨_, hp⟩ := hp
                                      refine st_move hf rfl rfl (by decide) ?_
                                      clear hf; intro a ha hf
                                      exact st_nil hf (th_n ⟨ha, rfl⟩)
                                    clear hf; intro a hf
                                    refine dr_take 1 (v155) rfl (by kernel_rfl) (by kernel_rfl) (by kernel_rfl) (by kernel_rfl) rfl rfl hf (by decide) rfl (fun w hp => ?_) ⟨_, hp⟩ ?_
                                    · obtain ⟨_, hp⟩ := hp
                                      refine st_move hf rfl rfl (by decide) ?_
                                      clear hf; intro a ha hf
                                      exact st_nil hf (th_n ⟨ha, rfl⟩)
                                    clear hf; intro a hf
                                    refine dr_take 2 (.int .i64 i28) rfl (by kernel_rfl) (by kernel_rfl) (by kernel_rfl) (by kernel_rfl) rfl rfl hf (by decide) rfl (fun w hp => ?_) ⟨_, hp⟩ ?_
                                    · obtain ⟨_, hp⟩ := hp
                                      refine st_move hf rfl rfl (by decide) ?_
                                      clear hf; intro a ha hf
                                      exact st_nil hf (th_n ⟨ha, rfl⟩)
                                    clear hf; intro a hf
                                    refine dr_take 3 (eptr v155 i28 1) rfl (by kernel_rfl) (by kernel_rfl) (by kernel_rfl) (by kernel_rfl) rfl rfl hf (by decide) rfl (fun w hp => ?_) ⟨_, hp⟩ ?_
                                    · obtain ⟨_, hp⟩ := hp
                                      refine st_index (E := Ek.c128) hf (by decide) Try.underlying24 elt36 rfl rfl rfl (rl168.sl hp) hc169.1 hc169.2 ?_
                                      clear hf; intro a ha hf
                                      exact st_nil hf (th_n ⟨ha, rfl⟩)
                                    clear hf; intro a hf
                                    refine dr_take 4 (.complex .f64 b171 b172) rfl (by kernel_rfl) (by kernel_rfl) (by kernel_rfl) (by kernel_rfl) rfl rfl hf (by decide) rfl (fun w hp => ?_) ⟨_, hp⟩ ?_
                                    · obtain ⟨_, hp⟩ := hp
                                      refine st_ldP hf (by decide) pl36 rfl rfl (hl170 _ _ hp) ?_
                                      clear hf; intro a ha hf
                                      exact st_nil hf (th_n ⟨ha, rfl⟩)
                                    clear hf; intro a hf
                                    refine dr_take 5 (.float .f64 b171) rfl (by kernel_rfl) (by kernel_rfl) (by kernel_rfl) (by kernel_rfl) rfl rfl hf (by decide) rfl (fun w hp => ?_) ⟨_, hp⟩ ?_
                                    · obtain ⟨_, hp⟩ := hp
                                      refine st_real hf (by decide) rfl rfl ?_
                                      clear hf; intro a ha hf
                                      exact st_nil hf (th_n ⟨ha, rfl⟩)
                                    clear hf; intro a hf
                                    refine dr_take 6 (v155) rfl (by kernel_rfl) (by kernel_rfl) (by kernel_rfl) (by kernel_rfl) rfl rfl hf (by decide) rfl (fun w hp => ?_) ⟨_, hp⟩ ?_
                                    · obtain ⟨_, hp⟩ := hp
                                      refine st_move hf rfl rfl (by decide) ?_
                                      clear hf; intro a ha hf
                                      exact st_nil hf (th_n ⟨ha, rfl⟩)
                                    clear hf; intro a hf
                                    refine dr_take 7 (.int .i64 i28) rfl (by kernel_rfl) (by kernel_rfl) (by kernel_rfl) (by kernel_rfl) rfl rfl hf (by decide) rfl (fun w hp => ?_) ⟨_, hp⟩ ?_
                                    · obtain ⟨_, hp⟩ := hp
                                      refine st_move hf rfl rfl (by decide) ?_
                                      clear hf; intro a ha hf
                                      exact st_nil hf (th_n ⟨ha, rfl⟩)
                                    clear hf; intro a hf
                                    refine dr_take 8 (eptr v155 i28 1) rfl (by kernel_rfl) (by kernel_rfl) (by kernel_rfl) (by kernel_rfl) rfl rfl hf (by decide) rfl (fun w hp => ?_) ⟨_, hp⟩ ?_
                                    · obtain ⟨_, hp⟩ := hp
                                      refine st_index (E := Ek.c128) hf (by decide) Try.underlying24 elt36 rfl rfl rfl (rl168.sl hp) hc175.1 hc175.2 ?_
                                      clear hf; intro a ha hf
                                      exact st_nil hf (th_n ⟨ha, rfl⟩)
                                    clear hf; intro a hf
                                    refine dr_take 9 (.complex .f64 b177 b178) rfl (by kernel_rfl) (by kernel_rfl) (by kernel_rfl) (by kernel_rfl) rfl rfl hf (by decide) rfl (fun w hp => ?_) ⟨_, hp⟩ ?_
                                    · obtain ⟨_, hp⟩ := hp
                                      refine st_ldP hf (by decide) pl36 rfl rfl (hl176 _ _ hp) ?_
                                      clear hf; intro a ha hf
                                      exact st_nil hf (th_n ⟨ha, rfl⟩)
                                    clear hf; intro a hf
                                    refine dr_take 10 (.float .f64 b178) rfl (by kernel_rfl) (by kernel_rfl) (by kernel_rfl) (by kernel_rfl) rfl rfl hf (by decide) rfl (fun w hp => ?_) ⟨_, hp⟩ ?_
                                    · obtain ⟨_, hp⟩ := hp
                                      refine st_imag hf (by decide) rfl rfl ?_
                                      clear hf; intro a ha hf
                                      exact st_nil hf (th_n ⟨ha, rfl⟩)
                                    clear hf; intro a hf
                                    refine dr_one 11 rfl (by kernel_rfl) ?_
                                    refine st_build (E := Ek.f64) (xs := [(gt q153.1 i28).1, (gt q153.1 i28).2]) hf (by decide) elt37 Try.underlying40 hp (vals := #[(0, .float .f64 b171), (1, .float .f64 b178)]) (cells := #[.float .f64 b171, .float .f64 b178]) rfl (by simp [hf.ev (x := (Operand.tmp 160)) rfl, hf.ev (x := (Operand.tmp 165)) rfl]) (by decide) (by decide) (z := .float .f64 0) (by kernel_rfl) (by kernel_rfl) rfl (reps_cons (cs := [.float .f64 b171]) (show Ek.f64.rep [.float .f64 b171] ((gt q153.1 i28).1) from ⟨_, rfl, y173⟩) (reps_cons (cs := [.float .f64 b178]) (show Ek.f64.rep [.float .f64 b178] ((gt q153.1 i28).2) from ⟨_, rfl, y180⟩) (reps_nil _))) ?_
                                    clear hf; intro a w v181 hf hp0; clear hp; have hp := hp0; clear hp0
                                    replace hp : Hp _ _ w (Res.sl Ek.f64 37 v181 ([(gt q153.1 i28).1, (gt q153.1 i28).2]) :: Res.sl Ek.f64 37 v157 line27 :: Res.sl Ek.c128 36 v7 z9 :: ow) := hp
                                    refine st_nil hf (th_n ⟨fun _ _ => ⟨_, hp⟩, ?_⟩)
                                    refine dr_one 12 rfl (by kernel_rfl) ?_
                                    refine st_append (E := Ek.f64) hf (by decide) elt37 Try.underlying40 (by decide) hp (i := 1) rfl rfl rfl rfl (hp.sl (i := 0) rfl) hc183 ?_
                                    clear hf; intro a w v184 hf hp0; clear hp; have hp := hp0; clear hp0
                                    replace hp : Hp _ _ w (Res.sl Ek.f64 37 v181 ([(gt q153.1 i28).1, (gt q153.1 i28).2]) :: Res.sl Ek.f64 37 v184 (line27 ++ [(gt q153.1 i28).1, (gt q153.1 i28).2]) :: Res.sl Ek.c128 36 v7 z9 :: ow) := hp
                                    refine st_nil hf (th_n ⟨fun _ _ => ⟨_, hp⟩, ?_⟩)
                                    refine dr_take 13 (v184) rfl (by kernel_rfl) (by kernel_rfl) (by kernel_rfl) (by kernel_rfl) rfl rfl hf (by decide) rfl (fun w hp => ?_) ⟨_, hp⟩ ?_
                                    · obtain ⟨_, hp⟩ := hp
                                      refine st_assign hf rfl rfl (by decide) ?_
                                      clear hf; intro a ha hf
                                      exact st_nil hf (th_n ⟨ha, rfl⟩)
                                    clear hf; intro a hf
                                    refine dr_end (by kernel_rfl) ?_ _
                                    have hp := bk167 _ _ hp
                                    exact ⟨v181, v184, hf.sub ⟨rfl, rfl, rfl, rfl, rfl, trivial⟩, hp⟩
                                  · rintro a w ⟨v181, v184, hf, hp⟩
                                    refine ib_n ?_
                                    refine th_n ?_
                                    refine wp_reg ?_
                                    refine st_move hf rfl rfl (by decide) ?_
                                    clear hf; intro a ha hf; clear ha
                                    refine st_iadd hf (by decide) rfl rfl rfl ?_
                                    clear hf; intro a ha hf; clear ha
                                    refine st_assign hf rfl rfl (by decide) ?_
                                    clear hf; intro a ha hf; clear ha
                                    refine st_nil hf ?_
                                    obtain rfl := Option.some.inj h
                                    have hp : Hp _ _ w (Res.sl Ek.f64 37 v184 (line27 ++ [(gt q153.1 i28).1, (gt q153.1 i28).2]) :: Res.sl Ek.c128 36 v7 z9 :: Res.sl Ek.c128 36 v155 q153.1 :: ow) := Hp.sel (pre := [Res.sl Ek.c128 36 v155 q153.1, Res.sl Ek.f64 37 v181 ([(gt q153.1 i28).1, (gt q153.1 i28).2]), Res.sl Ek.f64 37 v184 (line27 ++ [(gt q153.1 i28).1, (gt q153.1 i28).2]), Res.sl Ek.c128 36 v7 z9]) (tail := ow) (rs' := [Res.sl Ek.f64 37 v184 (line27 ++ [(gt q153.1 i28).1, (gt q153.1 i28).2]), Res.sl Ek.c128 36 v7 z9, Res.sl Ek.c128 36 v155 q153.1]) hp [2, 3, 0] (by decide) (by simp) rfl
                                    exact rnd_l ⟨_, hf.sub ⟨rfl, rfl, rfl, rfl, rfl, trivial⟩, hp⟩
                                · replace h := ifF h hb
                                  refine wp_exit ?_
                                  refine th_e ?_
                                  obtain rfl := Option.some.inj h
                                  have hp : Hp _ _ w (Res.sl Ek.f64 37 v157 line27 :: Res.sl Ek.c128 36 v7 z9 :: ow) := Hp.sel (pre := [Res.sl Ek.f64 37 v157 line27, Res.sl Ek.c128 36 v7 z9, Res.sl Ek.c128 36 v155 q153.1]) (tail := ow) (rs' := [Res.sl Ek.f64 37 v157 line27, Res.sl Ek.c128 36 v7 z9]) hp [0, 1] (by decide) (by simp) rfl
                                  exact rnd_r (by simp) ⟨rfl, _, hf.sub ⟨rfl, rfl, rfl, trivial⟩, hp⟩
                            · clear hl hf hp
                              intro e a w hne hO
                              obtain ⟨rfl, v159, hf, hp⟩ := hO
                              refine ib_same ?_
                              refine th_n ?_
                              refine wp_seq ?_
                              refine wp_reg ?_
                              refine st_move hf rfl rfl (by decide) ?_
                              clear hf; intro a ha hf; clear ha
                              obtain ⟨q187, hcall188, h⟩ := bnd h
                              obtain ⟨S189, hp190, rd191, up192, bk193⟩ := Hp.lendS hp (i := 0) rfl
                              refine st_call hf (by decide) Try.func29 rfl rfl rfl rfl rfl (f_mix_Unline_c hp190 _ _ rd191 hcall188) ?_
                              rintro _ w ⟨v194, rfl, hp0⟩
                              have hp0 := bk193 _ _ hp0
                              clear hp; have hp := hp0; clear hp0
                              replace hp : Hp _ _ w (Res.sl Ek.f64 37 v159 q185 :: Res.sl Ek.c128 36 v194 q187.1 :: Res.sl Ek.c128 36 v7 z9 :: ow) := hp
                              refine ⟨_, rfl, ?_⟩
                              clear hf; intro a hf
                              refine st_move hf rfl rfl (by decide) ?_
                              clear hf; intro a ha hf; clear ha
                              refine st_extract hf (by decide) rfl rfl rfl ?_
                              clear hf; intro a ha hf; clear ha
                              refine st_extract hf (by decide) rfl rfl rfl ?_
                              clear hf; intro a ha hf; clear ha
                              refine st_assign hf rfl rfl (by decide) ?_
                              clear hf; intro a ha hf; clear ha
                              refine st_assign hf rfl rfl (by decide) ?_
                              clear hf; intro a ha hf; clear ha
                              refine st_nil hf ?_
                              refine th_n ?_
                              refine wp_seq ?_
                              refine wp_reg ?_
                              refine st_move hf rfl rfl (by decide) ?_
                              clear hf; intro a ha hf; clear ha
                              obtain ⟨q196, hcall197, h⟩ := bnd h
                              obtain ⟨S198, hp199, rd200, up201, bk202⟩ := Hp.lendS hp (i := 1) rfl
                              refine st_call hf (by decide) Try.func26 rfl rfl rfl rfl rfl (f_mix_Line_c hp199 _ _ rd200 hcall197) ?_
                              rintro _ w ⟨v203, rfl, hp0⟩
                              have hp0 := bk202 _ _ hp0
                              clear hp; have hp := hp0; clear hp0
                              replace hp : Hp _ _ w (Res.sl Ek.c128 36 v194 q187.1 :: Res.sl Ek.f64 37 v203 q196.1 :: Res.sl Ek.f64 37 v159 q185 :: Res.sl Ek.c128 36 v7 z9 :: ow) := hp
                              refine ⟨_, rfl, ?_⟩
                              clear hf; intro a hf
                              refine st_move hf rfl rfl (by decide) ?_
                              clear hf; intro a ha hf; clear ha
                              refine st_extract hf (by decide) rfl rfl rfl ?_
                              clear hf; intro a ha hf; clear ha
                              refine st_extract hf (by decide) rfl rfl rfl ?_
                              clear hf; intro a ha hf; clear ha
                              refine st_assign hf rfl rfl (by decide) ?_
                              clear hf; intro a ha hf; clear ha
                              refine st_assign hf rfl rfl (by decide) ?_
                              clear hf; intro a ha hf; clear ha
                              refine st_nil hf ?_
                              refine th_n ?_
                              refine wp_seq ?_
                              refine wp_seq ?_
                              refine wp_reg ?_
                              refine st_move hf rfl rfl (by decide) ?_
                              clear hf; intro a ha hf; clear ha
                              refine st_ineq hf (by decide) rfl rfl rfl ?_
                              clear hf; intro a ha hf; clear ha
                              refine st_move hf rfl rfl (by decide) ?_
                              clear hf; intro a ha hf; clear ha
                              refine wpList_cut 3 (fun a w => Fr 239 a [(3, .int .i64 step3), (9, v7), (27, v159), (30, v203), (183, .bool ((q187.2 != (0 : Int)) || (q196.2 != (0 : Int))))] ∧ Hp S w0 w (Res.sl Ek.c128 36 v194 q187.1 :: Res.sl Ek.f64 37 v203 q196.1 :: Res.sl Ek.f64 37 v159 q185 :: Res.sl Ek.c128 36 v7 z9 :: ow)) ?_ ?_
                              · rcases Bool.eq_false_or_eq_true (q187.2 != (0 : Int)) with hb206 | hb206
                                · skip
                                  refine st_skip hf (wantN hf rfl rfl hb206) rfl (by decide) ?_ rfl
                                  clear hf; intro a hf
                                  refine st_skip hf (wantN hf rfl rfl hb206) rfl (by decide) ?_ rfl
                                  clear hf; intro a hf
                                  refine st_pick (v := .bool true) hf rfl rfl (fun hb' => ?_) (fun hb' => ?_) (by decide) ?_
                                  · rfl
                                  · exact absurd (hb206.symm.trans hb') (by decide)
                                  clear hf; intro a ha hf; clear ha
                                  refine st_nil hf (th_n ?_)
                                  exact ⟨hf.sub ⟨rfl, rfl, rfl, rfl, (by rw [hb206]; rfl), trivial⟩, hp⟩
                                · skip
                                  refine st_move hf (wantY hf rfl rfl hb206) rfl (by decide) ?_
                                  clear hf; intro a ha hf; clear ha
                                  refine st_ineq hf (by decide) (wantY hf rfl rfl hb206) rfl rfl ?_
                                  clear hf; intro a ha hf; clear ha
                                  refine st_pick (v := .bool (q196.2 != (0 : Int))) hf rfl rfl (fun hb' => ?_) (fun hb' => ?_) (by decide) ?_
                                  · exact absurd (hb206.symm.trans hb') (by decide)
                                  · rfl
                                  clear hf; intro a ha hf; clear ha
                                  refine st_nil hf (th_n ?_)
                                  exact ⟨hf.sub ⟨rfl, rfl, rfl, rfl, (by rw [hb206]; rfl), trivial⟩, hp⟩
                              · rintro a w ⟨hf, hp⟩
                                refine st_move hf rfl rfl (by decide) ?_
                                clear hf; intro a ha hf; clear ha
                                obtain ⟨z209, hz207, h⟩ := bnd h
                                refine wpList_cut 5 (fun a w => Fr 239 a [(3, .int .i64 step3), (9, v7), (189, .bool z209)] ∧ Hp S w0 w (Res.sl Ek.c128 36 v194 q187.1 :: Res.sl Ek.f64 37 v203 q196.1 :: Res.sl Ek.f64 37 v159 q185 :: Res.sl Ek.c128 36 v7 z9 :: ow)) ?_ ?_
                                · rcases Bool.eq_false_or_eq_true ((q187.2 != (0 : Int)) || (q196.2 != (0 : Int))) with hb208 | hb208
                                  · skip
                                    replace hz207 := ifT hz207 hb208
                                    refine st_skip hf (wantN hf rfl rfl hb208) rfl (by decide) ?_ rfl
                                    clear hf; intro a hf
                                    refine st_skip hf (wantN hf rfl rfl hb208) rfl (by decide) ?_ rfl
                                    clear hf; intro a hf
                                    refine st_skip hf (wantN hf rfl rfl hb208) rfl (by decide) ?_ rfl
                                    clear hf; intro a hf
                                    refine st_skip hf (wantN hf rfl rfl hb208) rfl (by decide) ?_ rfl
                                    clear hf; intro a hf
                                    obtain rfl := Option.some.inj hz207
                                    refine st_pick (v := .bool true) hf rfl rfl (fun hb' => ?_) (fun hb' => ?_) (by decide) ?_
                                    · rfl
                                    · exact absurd (hb208.symm.trans hb') (by decide)
                                    clear hf; intro a ha hf; clear ha
                                    refine st_nil hf (th_n ?_)
                                    exact ⟨hf.sub ⟨rfl, rfl, rfl, trivial⟩, hp⟩
                                  · skip
                                    replace hz207 := ifF hz207 hb208
                                    refine st_move hf (wantY hf rfl rfl hb208) rfl (by decide) ?_
                                    clear hf; intro a ha hf; clear ha
                                    refine st_move hf (wantY hf rfl rfl hb208) rfl (by decide) ?_
                                    clear hf; intro a ha hf; clear ha
                                    obtain ⟨q210, hcall211, hz207⟩ := bnd hz207
                                    obtain ⟨S212, hp213, rd214, up215, bk216⟩ := Hp.lendS hp (i := 1) rfl
                                    obtain ⟨S217, hp218, rd219, up220, bk221⟩ := Hp.lendS hp213 (i := 1) rfl
                                    refine st_call hf (by decide) Try.func27 rfl rfl (wantY hf rfl rfl hb208) rfl rfl (f_foghornref08_Floats_c hp218 _ _ ((rd214.now hp213).mono up220) _ _ rd219 hcall211) ?_
                                    rintro _ w ⟨rfl, hp0⟩
                                    have hp0 := bk221 _ _ hp0
                                    have hp0 := bk216 _ _ hp0
                                    clear hp; have hp := hp0; clear hp0
                                    replace hp : Hp _ _ w (Res.sl Ek.f64 37 v203 q196.1 :: Res.sl Ek.f64 37 v159 q185 :: Res.sl Ek.c128 36 v194 q187.1 :: Res.sl Ek.c128 36 v7 z9 :: ow) := hp
                                    refine ⟨_, rfl, ?_⟩
                                    clear hf; intro a hf
                                    refine st_not hf (by decide) (wantY hf rfl rfl hb208) rfl ?_
                                    clear hf; intro a ha hf; clear ha
                                    obtain rfl := Option.some.inj hz207
                                    refine st_pick (v := .bool (!q210)) hf rfl rfl (fun hb' => ?_) (fun hb' => ?_) (by decide) ?_
                                    · exact absurd (hb208.symm.trans hb') (by decide)
                                    · rfl
                                    clear hf; intro a ha hf; clear ha
                                    refine st_nil hf (th_n ?_)
                                    have hp : Hp _ _ w (Res.sl Ek.c128 36 v194 q187.1 :: Res.sl Ek.f64 37 v203 q196.1 :: Res.sl Ek.f64 37 v159 q185 :: Res.sl Ek.c128 36 v7 z9 :: ow) := Hp.sel (pre := [Res.sl Ek.f64 37 v203 q196.1, Res.sl Ek.f64 37 v159 q185, Res.sl Ek.c128 36 v194 q187.1, Res.sl Ek.c128 36 v7 z9]) (tail := ow) (rs' := [Res.sl Ek.c128 36 v194 q187.1, Res.sl Ek.f64 37 v203 q196.1, Res.sl Ek.f64 37 v159 q185, Res.sl Ek.c128 36 v7 z9]) hp [2, 0, 1, 3] (by decide) (by simp) rfl
                                    exact ⟨hf.sub ⟨rfl, rfl, rfl, trivial⟩, hp⟩
                                · rintro a w ⟨hf, hp⟩
                                  refine st_nil hf ?_
                                  refine th_n ?_
                                  refine wp_if hf rfl (fun hb => ?_) (fun hb => ?_)
                                  · replace h := ifT h hb
                                    refine wp_seq ?_
                                    refine wp_reg ?_
                                    refine st_assign hf rfl rfl (by decide) ?_
                                    clear hf; intro a ha hf; clear ha
                                    refine st_nil hf ?_
                                    refine th_n ?_
                                    refine wp_ret ?_
                                    refine th_r ?_
                                    obtain rfl := Option.some.inj h
                                    have hp : Hp _ _ w (ow) := Hp.sel (pre := [Res.sl Ek.c128 36 v194 q187.1, Res.sl Ek.f64 37 v203 q196.1, Res.sl Ek.f64 37 v159 q185, Res.sl Ek.c128 36 v7 z9]) (tail := ow) (rs' := []) hp [] (by decide) (by simp) rfl
                                    exact ⟨rfl, ⟨hf.sub ⟨rfl, trivial⟩, hp⟩⟩
                                  · replace h := ifF h hb
                                    refine wp_skip ?_
                                    refine th_n ?_
                                    refine wp_seq ?_
                                    refine wp_reg ?_
                                    refine st_move hf rfl rfl (by decide) ?_
                                    clear hf; intro a ha hf; clear ha
                                    refine st_irem hf (by decide) rfl rfl rfl (by decide) ?_
                                    clear hf; intro a ha hf; clear ha
                                    refine st_iadd hf (by decide) rfl rfl rfl ?_
                                    clear hf; intro a ha hf; clear ha
                                    refine st_irem hf (by decide) rfl rfl rfl (by decide) ?_
                                    clear hf; intro a ha hf; clear ha
                                    refine st_iadd hf (by decide) rfl rfl rfl ?_
                                    clear hf; intro a ha hf; clear ha
                                    refine st_assign hf rfl rfl (by decide) ?_
                                    clear hf; intro a ha hf; clear ha
                                    refine st_nil hf ?_
                                    refine th_n ?_
                                    refine wp_seq ?_
                                    refine wp_reg ?_
                                    refine st_assign hf rfl rfl (by decide) ?_
                                    clear hf; intro a ha hf; clear ha
                                    refine st_nil hf ?_
                                    refine th_n ?_
                                    refine wp_seq ?_
                                    refine wp_seq ?_
                                    refine wp_reg ?_
                                    refine st_assign hf rfl rfl (by decide) ?_
                                    clear hf; intro a ha hf; clear ha
                                    refine st_nil hf ?_
                                    refine th_n ?_
                                    refine wp_block ?_
                                    obtain ⟨q245, hl, h⟩ := bnd h
                                    have hp := hp.rowsNil (RowK.sl Ek.c128 36) 24
                                    have hp : Hp _ _ w (Res.rows (RowK.sl Ek.c128 36) 24 (.slice none 0 0) ([]) ([]) :: Res.sl Ek.c128 36 v7 z9 :: ow) := Hp.sel (pre := [Res.rows (RowK.sl Ek.c128 36) 24 (.slice none 0 0) ([]) ([]), Res.sl Ek.c128 36 v194 q187.1, Res.sl Ek.f64 37 v203 q196.1, Res.sl Ek.f64 37 v159 q185, Res.sl Ek.c128 36 v7 z9]) (tail := ow) (rs' := [Res.rows (RowK.sl Ek.c128 36) 24 (.slice none 0 0) ([]) ([]), Res.sl Ek.c128 36 v7 z9]) hp [0, 4] (by decide) (by simp) rfl
                                    refine wp_loop_pure (f := (f_foghornlaw08_MixBack.s2 step3 z9)) (s := ([], (0 : Int))) (fun s a w => ∃ (v222 : Value) (vs223 : List Value), Fr 239 a [(3, .int .i64 (IntKind.i64.wrap ((1 : Int) + (((IntKind.i64.wrap (((step3).tmod (20 : Int)) + (20 : Int)))).tmod (20 : Int))))), (9, v7), (31, v222), (32, .int .i64 s.2)] ∧ Hp S w0 w (Res.rows (RowK.sl Ek.c128 36) 24 v222 vs223 s.1 :: Res.sl Ek.c128 36 v7 z9 :: ow)) (fun q e a w => match q with | (Sum.inl q) => e = .exit 2 ∧ ∃ (v225 : Value) (vs226 : List Value), Fr 239 a [(3, .int .i64 (IntKind.i64.wrap ((1 : Int) + (((IntKind.i64.wrap (((step3).tmod (20 : Int)) + (20 : Int)))).tmod (20 : Int))))), (9, v7), (31, v225)] ∧ Hp S w0 w (Res.rows (RowK.sl Ek.c128 36) 24 v225 vs226 q :: Res.sl Ek.c128 36 v7 z9 :: ow) | (Sum.inr q) => e = .ret ∧ Fr 239 a [(8, .bool q)] ∧ Hp S w0 w (ow)) ?_ hl ⟨_, _, hf.sub ⟨rfl, rfl, rfl, rfl, trivial⟩, hp⟩ ?_
                                    · clear hl hf hp
                                      intro s x a w h hI
                                      obtain ⟨rows31, k32⟩ := s
                                      obtain ⟨v222, vs223, hf, hp⟩ : ∃ (v222 : Value) (vs223 : List Value), Fr 239 a [(3, .int .i64 (IntKind.i64.wrap ((1 : Int) + (((IntKind.i64.wrap (((step3).tmod (20 : Int)) + (20 : Int)))).tmod (20 : Int))))), (9, v7), (31, v222), (32, .int .i64 k32)] ∧ Hp S w0 w (Res.rows (RowK.sl Ek.c128 36) 24 v222 vs223 rows31 :: Res.sl Ek.c128 36 v7 z9 :: ow) := hI
                                      replace h : f_foghornlaw08_MixBack.s2c step3 z9 rows31 k32 = some x := h
                                      unfold f_foghornlaw08_MixBack.s2c at h
                                      refine wp_seq ?_
                                      refine wp_seq ?_
                                      refine wp_reg ?_
                                      refine st_move hf rfl rfl (by decide) ?_
                                      clear hf; intro a ha hf; clear ha
                                      refine st_move hf rfl rfl (by decide) ?_
                                      clear hf; intro a ha hf; clear ha
                                      refine st_ilss hf (by decide) rfl rfl rfl ?_
                                      clear hf; intro a ha hf; clear ha
                                      refine st_nil hf ?_
                                      refine th_n ?_
                                      refine wp_if hf rfl (fun hb => ?_) (fun hb => ?_)
                                      · replace h := ifT h hb
                                        refine wp_skip ?_
                                        refine th_n ?_
                                        refine wp_seq ?_
                                        refine wp_block ?_
                                        refine wp_seq ?_
                                        refine wp_reg ?_
                                        refine st_move hf rfl rfl (by decide) ?_
                                        clear hf; intro a ha hf; clear ha
                                        refine st_move hf rfl rfl (by decide) ?_
                                        clear hf; intro a ha hf; clear ha
                                        refine st_len (E := Ek.c128) hf (by decide) Try.underlying24 rfl rfl (hp.sl (i := 1) rfl) ?_
                                        clear hf; intro a ha hf; clear ha
                                        refine st_move hf rfl rfl (by decide) ?_
                                        clear hf; intro a ha hf; clear ha
                                        obtain ⟨hc228, h⟩ := chk h
                                        refine st_iquo hf (by decide) rfl rfl rfl hc228 ?_
                                        clear hf; intro a ha hf; clear ha
                                        refine st_move hf rfl rfl (by decide) ?_
                                        clear hf; intro a ha hf; clear ha
                                        refine st_imul hf (by decide) rfl rfl rfl ?_
                                        clear hf; intro a ha hf; clear ha
                                        obtain ⟨hc229, h⟩ := chk h
                                        have hc230 : 0 ≤ ((IntKind.i64.wrap ((IntKind.i64.wrap (((z9.length : Int)).tdiv (IntKind.i64.wrap ((1 : Int) + (((IntKind.i64.wrap (((step3).tmod (20 : Int)) + (20 : Int)))).tmod (20 : Int)))))) * (IntKind.i64.wrap ((1 : Int) + (((IntKind.i64.wrap (((step3).tmod (20 : Int)) + (20 : Int)))).tmod (20 : Int))))))).toNat := by omega
                                        have hc231 : ((IntKind.i64.wrap ((IntKind.i64.wrap (((z9.length : Int)).tdiv (IntKind.i64.wrap ((1 : Int) + (((IntKind.i64.wrap (((step3).tmod (20 : Int)) + (20 : Int)))).tmod (20 : Int)))))) * (IntKind.i64.wrap ((1 : Int) + (((IntKind.i64.wrap (((step3).tmod (20 : Int)) + (20 : Int)))).tmod (20 : Int))))))).toNat ≤ z9.length := by omega
                                        refine st_cutS (E := Ek.c128) hf (by decide) Try.underlying24 elt36 rfl rfl (hp.sl (i := 1) rfl) (.inl ⟨rfl, rfl⟩) (.inr ⟨_, _, rfl, evI rfl (by omega)⟩) hc230 hc231 ?_
                                        clear hf; intro a ha hf; clear ha
                                        refine st_move hf rfl rfl (by decide) ?_
                                        clear hf; intro a ha hf; clear ha
                                        refine st_move hf rfl rfl (by decide) ?_
                                        clear hf; intro a ha hf; clear ha
                                        obtain ⟨q232, hcall233, h⟩ := bnd h
                                        obtain ⟨S234, hp235, rd236, up237, bk238⟩ := Hp.lendS hp (i := 1) rfl
                                        refine st_call hf (by decide) Try.func11 rfl rfl rfl rfl rfl (f_mix_Share_c hp235 _ _ (RdS.cut rd236 hc230 hc231) _ _ hcall233) ?_
                                        rintro _ w ⟨v239, rfl, hp0⟩
                                        have hp0 := bk238 _ _ hp0
                                        clear hp; have hp := hp0; clear hp0
                                        replace hp : Hp _ _ w (Res.sl Ek.c128 36 v7 z9 :: Res.sl Ek.c128 36 v239 q232.1 :: Res.rows (RowK.sl Ek.c128 36) 24 v222 vs223 rows31 :: ow) := hp
                                        refine ⟨_, rfl, ?_⟩
                                        clear hf; intro a hf
                                        refine st_move hf rfl rfl (by decide) ?_
                                        clear hf; intro a ha hf; clear ha
                                        refine st_extract hf (by decide) rfl rfl rfl ?_
                                        clear hf; intro a ha hf; clear ha
                                        refine st_extract hf (by decide) rfl rfl rfl ?_
                                        clear hf; intro a ha hf; clear ha
                                        refine st_assign hf rfl rfl (by decide) ?_
                                        clear hf; intro a ha hf; clear ha
                                        refine st_assign hf rfl rfl (by decide) ?_
                                        clear hf; intro a ha hf; clear ha
                                        refine st_nil hf ?_
                                        refine th_n ?_
                                        refine wp_seq ?_
                                        refine wp_seq ?_
                                        refine wp_reg ?_
                                        refine st_move hf rfl rfl (by decide) ?_
                                        clear hf; intro a ha hf; clear ha
                                        refine st_ineq hf (by decide) rfl rfl rfl ?_
                                        clear hf; intro a ha hf; clear ha
                                        refine st_nil hf ?_
                                        refine th_n ?_
                                        refine wp_if hf rfl (fun hb => ?_) (fun hb => ?_)
                                        · replace h := ifT h hb
                                          refine wp_seq ?_
                                          refine wp_reg ?_
                                          refine st_assign hf rfl rfl (by decide) ?_
                                          clear hf; intro a ha hf; clear ha
                                          refine st_nil hf ?_
                                          refine th_n ?_
                                          refine wp_ret ?_
                                          refine th_r ?_
                                          refine ib_r ?_
                                          refine th_r ?_
                                          obtain rfl := Option.some.inj h
                                          have hp : Hp _ _ w (ow) := Hp.sel (pre := [Res.sl Ek.c128 36 v7 z9, Res.sl Ek.c128 36 v239 q232.1, Res.rows (RowK.sl Ek.c128 36) 24 v222 vs223 rows31]) (tail := ow) (rs' := []) hp [] (by decide) (by simp) rfl
                                          exact rnd_r (by simp) ⟨rfl, ⟨hf.sub ⟨rfl, trivial⟩, hp⟩⟩
                                        · replace h := ifF h hb
                                          refine wp_skip ?_
                                          refine th_n ?_
                                          refine wp_reg ?_
                                          refine st_move hf rfl rfl (by decide) ?_
                                          clear hf; intro a ha hf; clear ha
                                          refine st_move hf rfl rfl (by decide) ?_
                                          clear hf; intro a ha hf; clear ha
                                          refine st_build (E := Ek.val) (xs := [v239]) hf (by decide) eltv24 Try.underlying31 hp (vals := #[(0, v239)]) (cells := #[v239]) rfl (by simp [hf.ev (x := (Operand.tmp 217)) rfl]) (by decide) (by decide) (z := .slice none 0 0) (by kernel_rfl) (fillv1 (hp.sl (i := 1) rfl).shapeV) rfl (reps_cons (E := Ek.val) (cs := [v239]) ⟨rfl, (one_of (hp.sl (i := 1) rfl).shapeV)⟩ (reps_nil _)) ?_
                                          clear hf; intro a w v241 hf hp0; clear hp; have hp := hp0; clear hp0
                                          replace hp : Hp _ _ w (Res.sl Ek.val 24 v241 [v239] :: Res.sl Ek.c128 36 v7 z9 :: Res.sl Ek.c128 36 v239 q232.1 :: Res.rows (RowK.sl Ek.c128 36) 24 v222 vs223 rows31 :: ow) := hp
                                          have hp : Hp _ _ w (Res.rows (RowK.sl Ek.c128 36) 24 v222 vs223 rows31 :: Res.sl Ek.c128 36 v239 q232.1 :: Res.sl Ek.val 24 v241 [v239] :: Res.sl Ek.c128 36 v7 z9 :: ow) := Hp.sel (pre := [Res.sl Ek.val 24 v241 [v239], Res.sl Ek.c128 36 v7 z9, Res.sl Ek.c128 36 v239 q232.1, Res.rows (RowK.sl Ek.c128 36) 24 v222 vs223 rows31]) (tail := ow) (rs' := [Res.rows (RowK.sl Ek.c128 36) 24 v222 vs223 rows31, Res.sl Ek.c128 36 v239 q232.1, Res.sl Ek.val 24 v241 [v239], Res.sl Ek.c128 36 v7 z9]) hp [3, 2, 0, 1] (by decide) (by simp) rfl
                                          obtain ⟨hc243, h⟩ := chk h
                                          refine st_appendR (K := (RowK.sl Ek.c128 36)) (b := (q232.1 : (List (Fl × Fl)))) hf (by decide) eltv24 Try.underlying31 (by decide) hp rfl rfl rfl (hp.sl (i := 2) rfl) (by rw [List.length_map]; exact hc243) ?_
                                          clear hf; intro a w v244 hf hp0; clear hp; have hp := hp0; clear hp0
                                          rw [fill3] at hp
                                          replace hp : Hp _ _ w (Res.rows (RowK.sl Ek.c128 36) 24 v244 (vs223 ++ [v239]) (rows31 ++ [(q232.1 : (List (Fl × Fl)))]) :: Res.sl Ek.val 24 v241 [v239] :: Res.sl Ek.c128 36 v7 z9 :: ow) := hp
                                          refine st_assign hf rfl rfl (by decide) ?_
                                          clear hf; intro a ha hf; clear ha
                                          refine st_nil hf ?_
                                          refine ib_n ?_
                                          refine th_n ?_
                                          refine wp_reg ?_
                                          refine st_move hf rfl rfl (by decide) ?_
                                          clear hf; intro a ha hf; clear ha
                                          refine st_iadd hf (by decide) rfl rfl rfl ?_
                                          clear hf; intro a ha hf; clear ha
                                          refine st_assign hf rfl rfl (by decide) ?_
                                          clear hf; intro a ha hf; clear ha
                                          refine st_nil hf ?_
                                          obtain rfl := Option.some.inj h
                                          have hp : Hp _ _ w (Res.rows (RowK.sl Ek.c128 36) 24 v244 (vs223 ++ [v239]) (rows31 ++ [(q232.1 : (List (Fl × Fl)))]) :: Res.sl Ek.c128 36 v7 z9 :: ow) := Hp.sel (pre := [Res.rows (RowK.sl Ek.c128 36) 24 v244 (vs223 ++ [v239]) (rows31 ++ [(q232.1 : (List (Fl × Fl)))]), Res.sl Ek.val 24 v241 [v239], Res.sl Ek.c128 36 v7 z9]) (tail := ow) (rs' := [Res.rows (RowK.sl Ek.c128 36) 24 v244 (vs223 ++ [v239]) (rows31 ++ [(q232.1 : (List (Fl × Fl)))]), Res.sl Ek.c128 36 v7 z9]) hp [0, 2] (by decide) (by simp) rfl
                                          exact rnd_l ⟨_, _, hf.sub ⟨rfl, rfl, rfl, rfl, trivial⟩, hp⟩
                                      · replace h := ifF h hb
                                        refine wp_exit ?_
                                        refine th_e ?_
                                        obtain rfl := Option.some.inj h
                                        exact rnd_r (by simp) ⟨rfl, _, _, hf.sub ⟨rfl, rfl, rfl, trivial⟩, hp⟩
                                    · clear hl hf hp
                                      intro e a w hne hO
                                      cases q245 with
                                      | inl q247 =>
                                        replace h := smL h
                                        obtain ⟨rfl, v225, vs226, hf, hp⟩ := hO
                                        refine ib_same ?_
                                        refine th_n ?_
                                        refine wp_seq ?_
                                        refine wp_reg ?_
                                        refine st_move hf rfl rfl (by decide) ?_
                                        clear hf; intro a ha hf; clear ha
                                        obtain ⟨q249, hcall250, h⟩ := bnd h
                                        obtain ⟨S251, hp252, rd253, up254, bk255⟩ := Hp.lendR hp (i := 0) rfl
                                        refine st_call hf (by decide) Try.func15 rfl rfl rfl rfl rfl (f_mix_Merge_c hp252 _ _ _ rd253 hcall250) ?_
                                        rintro _ w ⟨v256, rfl, hp0⟩
                                        have hp0 := bk255 _ _ hp0
                                        clear hp; have hp := hp0; clear hp0
                                        replace hp : Hp _ _ w (Res.rows (RowK.sl Ek.c128 36) 24 v225 vs226 q247 :: Res.sl Ek.c128 36 v256 q249.1 :: Res.sl Ek.c128 36 v7 z9 :: ow) := hp
                                        refine ⟨_, rfl, ?_⟩
                                        clear hf; intro a hf
                                        refine st_move hf rfl rfl (by decide) ?_
                                        clear hf; intro a ha hf; clear ha
                                        refine st_extract hf (by decide) rfl rfl rfl ?_
                                        clear hf; intro a ha hf; clear ha
                                        refine st_extract hf (by decide) rfl rfl rfl ?_
                                        clear hf; intro a ha hf; clear ha
                                        refine st_assign hf rfl rfl (by decide) ?_
                                        clear hf; intro a ha hf; clear ha
                                        refine st_assign hf rfl rfl (by decide) ?_
                                        clear hf; intro a ha hf; clear ha
                                        refine st_nil hf ?_
                                        refine th_n ?_
                                        refine wp_seq ?_
                                        refine wp_reg ?_
                                        refine st_move hf rfl rfl (by decide) ?_
                                        clear hf; intro a ha hf; clear ha
                                        refine st_ieql hf (by decide) rfl rfl rfl ?_
                                        clear hf; intro a ha hf; clear ha
                                        refine st_move hf rfl rfl (by decide) ?_
                                        clear hf; intro a ha hf; clear ha
                                        obtain ⟨z260, hz258, h⟩ := bnd h
                                        refine wpList_cut 11 (fun a w => Fr 239 a [(238, .bool z260)] ∧ Hp S w0 w (Res.rows (RowK.sl Ek.c128 36) 24 v225 vs226 q247 :: Res.sl Ek.c128 36 v256 q249.1 :: Res.sl Ek.c128 36 v7 z9 :: ow)) ?_ ?_
                                        · rcases Bool.eq_false_or_eq_true (q249.2 == (0 : Int)) with hb259 | hb259
                                          · skip
                                            replace hz258 := ifT hz258 hb259
                                            refine st_move hf (wantY hf rfl rfl hb259) rfl (by decide) ?_
                                            clear hf; intro a ha hf; clear ha
                                            refine st_move hf (wantY hf rfl rfl hb259) rfl (by decide) ?_
                                            clear hf; intro a ha hf; clear ha
                                            refine st_move hf (wantY hf rfl rfl hb259) rfl (by decide) ?_
                                            clear hf; intro a ha hf; clear ha
                                            refine st_len (E := Ek.c128) hf (by decide) Try.underlying24 (wantY hf rfl rfl hb259) rfl (hp.sl (i := 2) rfl) ?_
                                            clear hf; intro a ha hf; clear ha
                                            refine st_move hf (wantY hf rfl rfl hb259) rfl (by decide) ?_
                                            clear hf; intro a ha hf; clear ha
                                            obtain ⟨hc261, hz258⟩ := chk hz258
                                            refine st_iquo hf (by decide) (wantY hf rfl rfl hb259) rfl rfl hc261 ?_
                                            clear hf; intro a ha hf; clear ha
                                            refine st_move hf (wantY hf rfl rfl hb259) rfl (by decide) ?_
                                            clear hf; intro a ha hf; clear ha
                                            refine st_imul hf (by decide) (wantY hf rfl rfl hb259) rfl rfl ?_
                                            clear hf; intro a ha hf; clear ha
                                            obtain ⟨hc262, hz258⟩ := chk hz258
                                            have hc263 : 0 ≤ ((IntKind.i64.wrap ((IntKind.i64.wrap (((z9.length : Int)).tdiv (IntKind.i64.wrap ((1 : Int) + (((IntKind.i64.wrap (((step3).tmod (20 : Int)) + (20 : Int)))).tmod (20 : Int)))))) * (IntKind.i64.wrap ((1 : Int) + (((IntKind.i64.wrap (((step3).tmod (20 : Int)) + (20 : Int)))).tmod (20 : Int))))))).toNat := by omega
                                            have hc264 : ((IntKind.i64.wrap ((IntKind.i64.wrap (((z9.length : Int)).tdiv (IntKind.i64.wrap ((1 : Int) + (((IntKind.i64.wrap (((step3).tmod (20 : Int)) + (20 : Int)))).tmod (20 : Int)))))) * (IntKind.i64.wrap ((1 : Int) + (((IntKind.i64.wrap (((step3).tmod (20 : Int)) + (20 : Int)))).tmod (20 : Int))))))).toNat ≤ z9.length := by omega
                                            refine st_cutS (E := Ek.c128) hf (by decide) Try.underlying24 elt36 (wantY hf rfl rfl hb259) rfl (hp.sl (i := 2) rfl) (.inl ⟨rfl, rfl⟩) (.inr ⟨_, _, rfl, evI rfl (by omega)⟩) hc263 hc264 ?_
                                            clear hf; intro a ha hf; clear ha
                                            obtain ⟨q265, hcall266, hz258⟩ := bnd hz258
                                            obtain ⟨S267, hp268, rd269, up270, bk271⟩ := Hp.lendS hp (i := 1) rfl
                                            obtain ⟨S272, hp273, rd274, up275, bk276⟩ := Hp.lendS hp268 (i := 1) rfl
                                            refine st_call hf (by decide) Try.func33 rfl rfl (wantY hf rfl rfl hb259) rfl rfl (f_foghornref08_Same_c hp273 _ _ ((rd269.now hp268).mono up275) _ _ (RdS.cut rd274 hc263 hc264) hcall266) ?_
                                            rintro _ w ⟨rfl, hp0⟩
                                            have hp0 := bk276 _ _ hp0
                                            have hp0 := bk271 _ _ hp0
                                            clear hp; have hp := hp0; clear hp0
                                            replace hp : Hp _ _ w (Res.sl Ek.c128 36 v256 q249.1 :: Res.sl Ek.c128 36 v7 z9 :: Res.rows (RowK.sl Ek.c128 36) 24 v225 vs226 q247 :: ow) := hp
                                            refine ⟨_, rfl, ?_⟩
                                            clear hf; intro a hf
                                            obtain rfl := Option.some.inj hz258
                                            refine st_pick (v := .bool q265) hf rfl rfl (fun hb' => ?_) (fun hb' => ?_) (by decide) ?_
                                            · rfl
                                            · exact absurd (hb259.symm.trans hb') (by decide)
                                            clear hf; intro a ha hf; clear ha
                                            refine st_nil hf (th_n ?_)
                                            have hp : Hp _ _ w (Res.rows (RowK.sl Ek.c128 36) 24 v225 vs226 q247 :: Res.sl Ek.c128 36 v256 q249.1 :: Res.sl Ek.c128 36 v7 z9 :: ow) := Hp.sel (pre := [Res.sl Ek.c128 36 v256 q249.1, Res.sl Ek.c128 36 v7 z9, Res.rows (RowK.sl Ek.c128 36) 24 v225 vs226 q247]) (tail := ow) (rs' := [Res.rows (RowK.sl Ek.c128 36) 24 v225 vs226 q247, Res.sl Ek.c128 36 v256 q249.1, Res.sl Ek.c128 36 v7 z9]) hp [2, 0, 1] (by decide) (by simp) rfl
                                            exact ⟨hf.sub ⟨rfl, trivial⟩, hp⟩
                                          · skip
                                            replace hz258 := ifF hz258 hb259
                                            refine st_skip hf (wantN hf rfl rfl hb259) rfl (by decide) ?_ rfl
                                            clear hf; intro a hf
                                            refine st_skip hf (wantN hf rfl rfl hb259) rfl (by decide) ?_ rfl
                                            clear hf; intro a hf
                                            refine st_skip hf (wantN hf rfl rfl hb259) rfl (by decide) ?_ rfl
                                            clear hf; intro a hf
                                            refine st_skip hf (wantN hf rfl rfl hb259) rfl (by decide) ?_ rfl
                                            clear hf; intro a hf
                                            refine st_skip hf (wantN hf rfl rfl hb259) rfl (by decide) ?_ rfl
                                            clear hf; intro a hf
                                            refine st_skip hf (wantN hf rfl rfl hb259) rfl (by decide) ?_ rfl
                                            clear hf; intro a hf
                                            refine st_skip hf (wantN hf rfl rfl hb259) rfl (by decide) ?_ rfl
                                            clear hf; intro a hf
                                            refine st_skip hf (wantN hf rfl rfl hb259) rfl (by decide) ?_ rfl
                                            clear hf; intro a hf
                                            refine st_skip hf (wantN hf rfl rfl hb259) rfl (by decide) ?_ rfl
                                            clear hf; intro a hf
                                            refine st_skip hf (wantN hf rfl rfl hb259) rfl (by decide) ?_ rfl
                                            clear hf; intro a hf
                                            obtain rfl := Option.some.inj hz258
                                            refine st_pick (v := .bool false) hf rfl rfl (fun hb' => ?_) (fun hb' => ?_) (by decide) ?_
                                            · exact absurd (hb259.symm.trans hb') (by decide)
                                            · rfl
                                            clear hf; intro a ha hf; clear ha
                                            refine st_nil hf (th_n ?_)
                                            exact ⟨hf.sub ⟨rfl, trivial⟩, hp⟩
                                        · rintro a w ⟨hf, hp⟩
                                          refine st_assign hf rfl rfl (by decide) ?_
                                          clear hf; intro a ha hf; clear ha
                                          refine st_nil hf ?_
                                          refine th_n ?_
                                          refine wp_ret ?_
                                          obtain rfl := Option.some.inj h
                                          have hp : Hp _ _ w (ow) := Hp.sel (pre := [Res.rows (RowK.sl Ek.c128 36) 24 v225 vs226 q247, Res.sl Ek.c128 36 v256 q249.1, Res.sl Ek.c128 36 v7 z9]) (tail := ow) (rs' := []) hp [] (by decide) (by simp) rfl
                                          exact ⟨rfl, ⟨hf.sub ⟨rfl, trivial⟩, hp⟩⟩
                                      | inr q248 =>
                                        replace h := smR h
                                        obtain ⟨rfl, hf, hp⟩ := hO
                                        refine ib_r ?_
                                        refine th_r ?_
                                        obtain rfl := Option.some.inj h
                                        exact ⟨rfl, ⟨hf.sub ⟨rfl, trivial⟩, hp⟩⟩

noncomputable def f_mix_Carrier.s1c (n1 : Int) (l6 : (List (Fl × Fl))) (t19 : Int) : Option (((List (Fl × Fl)) × Int) ⊕ (List (Fl × Fl))) := (if (decide (t19 < ((List.replicate (n1).toNat (Fl.bits 0, Fl.bits 0)).length : Int))) = true then (if 0 ≤ t19 ∧ t19 < (l6.length : Int) then (some (Sum.inl ((l6.set (t19).toNat (Fl.bits 4607182418800017408, Fl.bits 0)), (IntKind.i64.wrap (t19 + (1 : Int)))))) else none) else (some (Sum.inr l6)))
noncomputable def f_mix_Carrier.s1 (n1 : Int) (s : ((List (Fl × Fl)) × Int)) : Option (((List (Fl × Fl)) × Int) ⊕ (List (Fl × Fl))) := f_mix_Carrier.s1c n1 s.1 s.2
noncomputable def f_mix_Carrier (quarters0 : Int) (n1 : Int) : Option ((List (Fl × Fl)) × Int) := ((if (decide (n1 < (0 : Int))) = true then (some true) else ((f_mix_fits n1).bind fun q4 => (some (!q4)))).bind fun z3 => (if z3 = true then (some ([], (1 : Int))) else (if 0 ≤ n1 ∧ n1 ≤ n1 ∧ n1 * 16 ≤ 281474976710656 then ((loop (f_mix_Carrier.s1 n1) ((List.replicate (n1).toNat (Fl.bits 0, Fl.bits 0)), (0 : Int))).bind (fun q15 => ((f_mix_Up q15 quarters0).bind fun q16 => (some (q16.1, q16.2))))) else none)))
theorem f_mix_Carrier_c {S : Nat → Prop} {w0 w : World} {ow : List Res} (hp : Hp S w0 w ow) (quarters0 : Int) (n1 : Int) {r : ((List (Fl × Fl)) × Int)} (h : f_mix_Carrier quarters0 n1 = some r) :
    Calls Try.prog 23 #[.int .i64 quarters0, .int .i64 n1] w (fun e w' => ∃ (u0 : Value), e = .returned (.tuple #[u0, .int .i64 r.2]) ∧ Hp S w0 w' (Res.sl Ek.c128 36 u0 r.1 :: ow)) := by
  unfold f_mix_Carrier at h
  refine enter (n := 31) (args := [.int .i64 quarters0, .int .i64 n1]) Try.func23 rfl rfl (Nat.le_of_ble_eq_true rfl) fun a hf => ?_
  replace hf : Fr 31 a [(0, .int .i64 quarters0), (1, .int .i64 n1)] := hf
  refine wp_mono (Q := fun e a w => e = .ret ∧ ∃ (u0 : Value), Fr 31 a [(4, u0), (5, .int .i64 r.2)] ∧ Hp S w0 w (Res.sl Ek.c128 36 u0 r.1 :: ow)) ?_ ?_
  rotate_left
  · rintro e a w ⟨rfl, x0, hf, hp⟩
    exact ret2 hf rfl rfl rfl ⟨x0, rfl, hp⟩
  refine wp_seq ?_
  refine wp_reg ?_
  refine st_assign hf rfl rfl (by decide) ?_
  clear hf; intro a ha hf; clear ha
  refine st_assign hf rfl rfl (by decide) ?_
  clear hf; intro a ha hf; clear ha
  refine st_nil hf ?_
  refine th_n ?_
  refine wp_seq ?_
  refine wp_seq ?_
  refine wp_reg ?_
  refine st_move hf rfl rfl (by decide) ?_
  clear hf; intro a ha hf; clear ha
  refine st_ilss hf (by decide) rfl rfl rfl ?_
  clear hf; intro a ha hf; clear ha
  refine st_move hf rfl rfl (by decide) ?_
  clear hf; intro a ha hf; clear ha
  obtain ⟨z3, hz1, h⟩ := bnd h
  refine wpList_cut 4 (fun a w => Fr 31 a [(0, .int .i64 quarters0), (1, .int .i64 n1), (14, .bool z3)] ∧ Hp S w0 w (ow)) ?_ ?_
  · rcases Bool.eq_false_or_eq_true (decide (n1 < (0 : Int))) with hb2 | hb2
    · skip
      replace hz1 := ifT hz1 hb2
      refine st_skip hf (wantN hf rfl rfl hb2) rfl (by decide) ?_ rfl
      clear hf; intro a hf
      refine st_skip hf (wantN hf rfl rfl hb2) rfl (by decide) ?_ rfl
      clear hf; intro a hf
      refine st_skip hf (wantN hf rfl rfl hb2) rfl (by decide) ?_ rfl
      clear hf; intro a hf
      obtain rfl := Option.some.inj hz1
      refine st_pick (v := .bool true) hf rfl rfl (fun hb' => ?_) (fun hb' => ?_) (by decide) ?_
      · rfl
      · exact absurd (hb2.symm.trans hb') (by decide)
      clear hf; intro a ha hf; clear ha
      refine st_nil hf (th_n ?_)
      exact ⟨hf.sub ⟨rfl, rfl, rfl, trivial⟩, hp⟩
    · skip
      replace hz1 := ifF hz1 hb2
      refine st_move hf (wantY hf rfl rfl hb2) rfl (by decide) ?_
      clear hf; intro a ha hf; clear ha
      obtain ⟨q4, hcall5, hz1⟩ := bnd hz1
      refine st_call hf (by decide) Try.func34 rfl rfl (wantY hf rfl rfl hb2) rfl rfl (f_mix_fits_c hp _ hcall5) ?_
      rintro _ w ⟨rfl, hp0⟩
      clear hp; have hp := hp0; clear hp0
      replace hp : Hp _ _ w (ow) := hp
      refine ⟨_, rfl, ?_⟩
      clear hf; intro a hf
      refine st_not hf (by decide) (wantY hf rfl rfl hb2) rfl ?_
      clear hf; intro a ha hf; clear ha
      obtain rfl := Option.some.inj hz1
      refine st_pick (v := .bool (!q4)) hf rfl rfl (fun hb' => ?_) (fun hb' => ?_) (by decide) ?_
      · exact absurd (hb2.symm.trans hb') (by decide)
      · rfl
      clear hf; intro a ha hf; clear ha
      refine st_nil hf (th_n ?_)
      exact ⟨hf.sub ⟨rfl, rfl, rfl, trivial⟩, hp⟩
  · rintro a w ⟨hf, hp⟩
    refine st_nil hf ?_
    refine th_n ?_
    refine wp_if hf rfl (fun hb => ?_) (fun hb => ?_)
    · replace h := ifT h hb
      refine wp_seq ?_
      refine wp_reg ?_
      refine st_assign hf rfl rfl (by decide) ?_
      clear hf; intro a ha hf; clear ha
      refine st_assign hf rfl rfl (by decide) ?_
      clear hf; intro a ha hf; clear ha
      refine st_nil hf ?_
      refine th_n ?_
      refine wp_ret ?_
      refine th_r ?_
      obtain rfl := Option.some.inj h
      have hp := hp.nil Ek.c128 36
      exact ⟨rfl, ⟨_, hf.sub ⟨rfl, rfl, trivial⟩, hp⟩⟩
    · replace h := ifF h hb
      refine wp_skip ?_
      refine th_n ?_
      refine wp_seq ?_
      refine wp_reg ?_
      refine st_move hf rfl rfl (by decide) ?_
      clear hf; intro a ha hf; clear ha
      obtain ⟨hc7, h⟩ := chk h
      refine st_make (E := Ek.c128) hf (by decide) elt36 Try.underlying24 (by decide) hp rfl rfl rfl hc7.1 hc7.2.1 hc7.2.2 ?_
      clear hf; intro a w v8 hf hp0; clear hp; have hp := hp0; clear hp0
      replace hp : Hp _ _ w (Res.sl Ek.c128 36 v8 (List.replicate (n1).toNat (Fl.bits 0, Fl.bits 0)) :: ow) := hp
      refine st_assign hf rfl rfl (by decide) ?_
      clear hf; intro a ha hf; clear ha
      refine st_nil hf ?_
      refine th_n ?_
      refine wp_seq ?_
      refine wp_seq ?_
      refine wp_reg ?_
      refine st_move hf rfl rfl (by decide) ?_
      clear hf; intro a ha hf; clear ha
      refine st_len (E := Ek.c128) hf (by decide) Try.underlying24 rfl rfl (hp.sl (i := 0) rfl) ?_
      clear hf; intro a ha hf; clear ha
      refine st_move hf rfl rfl (by decide) ?_
      clear hf; intro a ha hf; clear ha
      refine st_nil hf ?_
      refine th_n ?_
      refine wp_block ?_
      obtain ⟨q15, hl, h⟩ := bnd h
      refine wp_loop_pure (f := (f_mix_Carrier.s1 n1)) (s := ((List.replicate (n1).toNat (Fl.bits 0, Fl.bits 0)), (0 : Int))) (fun s a w => ∃ (v10 : Value), Fr 31 a [(0, .int .i64 quarters0), (6, v10), (18, .int .i64 ((List.replicate (n1).toNat (Fl.bits 0, Fl.bits 0)).length : Int)), (19, .int .i64 s.2)] ∧ Hp S w0 w (Res.sl Ek.c128 36 v10 s.1 :: ow)) (fun q e a w => e = .exit 0 ∧ ∃ (v12 : Value), Fr 31 a [(0, .int .i64 quarters0), (6, v12)] ∧ Hp S w0 w (Res.sl Ek.c128 36 v12 q :: ow)) ?_ hl ⟨_, hf.sub ⟨rfl, rfl, rfl, rfl, trivial⟩, hp⟩ ?_
      · clear hl hf hp
        intro s x a w h hI
        obtain ⟨l6, t19⟩ := s
        obtain ⟨v10, hf, hp⟩ : ∃ (v10 : Value), Fr 31 a [(0, .int .i64 quarters0), (6, v10), (18, .int .i64 ((List.replicate (n1).toNat (Fl.bits 0, Fl.bits 0)).length : Int)), (19, .int .i64 t19)] ∧ Hp S w0 w (Res.sl Ek.c128 36 v10 l6 :: ow) := hI
        replace h : f_mix_Carrier.s1c n1 l6 t19 = some x := h
        unfold f_mix_Carrier.s1c at h
        refine wp_seq ?_
        refine wp_reg ?_
        refine st_ilss hf (by decide) rfl rfl rfl ?_
        clear hf; intro a ha hf; clear ha
        refine st_nil hf ?_
        refine th_n ?_
        refine wp_seq ?_
        refine wp_if hf rfl (fun hb => ?_) (fun hb => ?_)
        · replace h := ifT h hb
          refine wp_skip ?_
          refine th_n ?_
          refine wp_seq ?_
          refine wp_block ?_
          refine wp_seq ?_
          refine wp_reg ?_
          refine st_move hf rfl rfl (by decide) ?_
          clear hf; intro a ha hf; clear ha
          refine st_assign hf rfl rfl (by decide) ?_
          clear hf; intro a ha hf; clear ha
          refine st_nil hf ?_
          refine th_n ?_
          refine wp_reg ?_
          refine st_move hf rfl rfl (by decide) ?_
          clear hf; intro a ha hf; clear ha
          refine st_move hf rfl rfl (by decide) ?_
          clear hf; intro a ha hf; clear ha
          obtain ⟨hc14, h⟩ := chk h
          refine st_index (E := Ek.c128) hf (by decide) Try.underlying24 elt36 rfl rfl rfl (hp.sl (i := 0) rfl) hc14.1 hc14.2 ?_
          clear hf; intro a ha hf; clear ha
          refine st_store (E := Ek.c128) hf elt36 hp (i := 0) rfl rfl rfl rfl (show Ek.c128.rep [.complex .f64 4607182418800017408 0] (Fl.bits 4607182418800017408, Fl.bits 0) from ⟨_, _, rfl, rfl, rfl⟩) hc14.1 hc14.2 ?_
          clear hf; intro a w hf hp0; clear hp; have hp := hp0; clear hp0
          replace hp : Hp _ _ w (Res.sl Ek.c128 36 v10 (l6.set (t19).toNat (Fl.bits 4607182418800017408, Fl.bits 0)) :: ow) := hp
          refine st_nil hf ?_
          refine ib_n ?_
          refine th_n ?_
          refine wp_reg ?_
          refine st_iadd hf (by decide) rfl rfl rfl ?_
          clear hf; intro a ha hf; clear ha
          refine st_move hf rfl rfl (by decide) ?_
          clear hf; intro a ha hf; clear ha
          refine st_nil hf ?_
          obtain rfl := Option.some.inj h
          exact rnd_l ⟨_, hf.sub ⟨rfl, rfl, rfl, rfl, trivial⟩, hp⟩
        · replace h := ifF h hb
          refine wp_exit ?_
          refine th_e ?_
          obtain rfl := Option.some.inj h
          exact rnd_r (by simp) ⟨rfl, _, hf.sub ⟨rfl, rfl, trivial⟩, hp⟩
      · clear hl hf hp
        intro e a w hne hO
        obtain ⟨rfl, v12, hf, hp⟩ := hO
        refine ib_same ?_
        refine th_n ?_
        refine wp_seq ?_
        refine wp_reg ?_
        refine st_move hf rfl rfl (by decide) ?_
        clear hf; intro a ha hf; clear ha
        refine st_move hf rfl rfl (by decide) ?_
        clear hf; intro a ha hf; clear ha
        obtain ⟨q16, hcall17, h⟩ := bnd h
        obtain ⟨S18, hp19, rd20, up21, bk22⟩ := Hp.lendS hp (i := 0) rfl
        refine st_call hf (by decide) Try.func17 rfl rfl rfl rfl rfl (f_mix_Up_c hp19 _ _ rd20 _ hcall17) ?_
        rintro _ w ⟨v23, rfl, hp0⟩
        have hp0 := bk22 _ _ hp0
        clear hp; have hp := hp0; clear hp0
        replace hp : Hp _ _ w (Res.sl Ek.c128 36 v12 q15 :: Res.sl Ek.c128 36 v23 q16.1 :: ow) := hp
        refine ⟨_, rfl, ?_⟩
        clear hf; intro a hf
        refine st_extract hf (by decide) rfl rfl rfl ?_
        clear hf; intro a ha hf; clear ha
        refine st_extract hf (by decide) rfl rfl rfl ?_
        clear hf; intro a ha hf; clear ha
        refine st_assign hf rfl rfl (by decide) ?_
        clear hf; intro a ha hf; clear ha
        refine st_assign hf rfl rfl (by decide) ?_
        clear hf; intro a ha hf; clear ha
        refine st_nil hf ?_
        refine th_n ?_
        refine wp_ret ?_
        obtain rfl := Option.some.inj h
        have hp : Hp _ _ w (Res.sl Ek.c128 36 v23 q16.1 :: ow) := Hp.sel (pre := [Res.sl Ek.c128 36 v12 q15, Res.sl Ek.c128 36 v23 q16.1]) (tail := ow) (rs' := [Res.sl Ek.c128 36 v23 q16.1]) hp [1] (by decide) (by simp) rfl
        exact ⟨rfl, ⟨_, hf.sub ⟨rfl, rfl, trivial⟩, hp⟩⟩

noncomputable def f_foghornlaw08_MixNames  : Option Bool := (if 0 ≤ (65536 : Int) ∧ (65536 : Int) ≤ (65536 : Int) ∧ (65536 : Int) * 16 ≤ 281474976710656 then ((f_mix_Up (mk0 (65536 : Int) (Fl.bits 0, Fl.bits 0)) (1 : Int)).bind fun q4 => (if 0 ≤ (65537 : Int) ∧ (65537 : Int) ≤ (65537 : Int) ∧ (65537 : Int) * 16 ≤ 281474976710656 then ((f_mix_Up (mk0 (65537 : Int) (Fl.bits 0, Fl.bits 0)) (1 : Int)).bind fun q16 => (if 0 ≤ (32768 : Int) ∧ (32768 : Int) ≤ (32768 : Int) ∧ (32768 : Int) * 16 ≤ 281474976710656 then ((f_mix_Line (mk0 (32768 : Int) (Fl.bits 0, Fl.bits 0))).bind fun q28 => (if 0 ≤ (32769 : Int) ∧ (32769 : Int) ≤ (32769 : Int) ∧ (32769 : Int) * 16 ≤ 281474976710656 then ((f_mix_Line (mk0 (32769 : Int) (Fl.bits 0, Fl.bits 0))).bind fun q40 => (if 0 ≤ (3 : Int) ∧ (3 : Int) ≤ (3 : Int) ∧ (3 : Int) * 8 ≤ 281474976710656 then ((f_mix_Unline (List.replicate ((3 : Int)).toNat (Fl.bits 0))).bind fun q52 => ((f_mix_Carrier (1 : Int) (-1 : Int)).bind fun q61 => ((f_mix_Carrier (1 : Int) (65537 : Int)).bind fun q65 => (if 0 ≤ (40000 : Int) ∧ (40000 : Int) ≤ (40000 : Int) ∧ (40000 : Int) * 16 ≤ 281474976710656 then (if 0 ≤ (40000 : Int) ∧ (40000 : Int) ≤ (40000 : Int) ∧ (40000 : Int) * 16 ≤ 281474976710656 then ((f_mix_Merge ([(mk0 (40000 : Int) (Fl.bits 0, Fl.bits 0)), (mk0 (40000 : Int) (Fl.bits 0, Fl.bits 0))])).bind fun q78 => ((f_mix_Merge ([])).bind fun q87 => (some (((((((((q4.2 == (0 : Int)) && (q16.2 == (1 : Int))) && (q28.2 == (0 : Int))) && (q40.2 == (1 : Int))) && (q52.2 == (1 : Int))) && (q61.2 == (1 : Int))) && (q65.2 == (1 : Int))) && (q78.2 == (1 : Int))) && (q87.2 == (0 : Int)))))) else none) else none)))) else none)) else none)) else none)) else none)) else none)
theorem f_foghornlaw08_MixNames_c {S : Nat → Prop} {w0 w : World} {ow : List Res} (hp : Hp S w0 w ow) {r : Bool} (h : f_foghornlaw08_MixNames = some r) :
    Calls Try.prog 7 #[] w (fun e w' => e = .returned (.bool r) ∧ Hp S w0 w' (ow)) := by
  unfold f_foghornlaw08_MixNames at h
  refine enter (n := 97) (args := []) Try.func7 rfl rfl (Nat.le_of_ble_eq_true rfl) fun a hf => ?_
  replace hf : Fr 97 a [] := hf
  refine wp_mono (Q := fun e a w => e = .ret ∧ Fr 97 a [(0, .bool r)] ∧ Hp S w0 w (ow)) ?_ ?_
  rotate_left
  · rintro e a w ⟨rfl, hf, hp⟩
    exact ret1 hf rfl rfl ⟨rfl, hp⟩
  refine wp_seq ?_
  refine wp_reg ?_
  refine st_assign hf rfl rfl (by decide) ?_
  clear hf; intro a ha hf; clear ha
  refine st_nil hf ?_
  refine th_n ?_
  refine wp_seq ?_
  refine wp_reg ?_
  obtain ⟨hc1, h⟩ := chk h
  refine st_make (E := Ek.c128) hf (by decide) elt36 Try.underlying24 (by decide) hp rfl rfl rfl hc1.1 hc1.2.1 hc1.2.2 ?_
  clear hf; intro a w v2 hf hp0; clear hp; have hp := hp0; clear hp0
  rw [← mk0_eq] at hp
  replace hp : Hp _ _ w (Res.sl Ek.c128 36 v2 (mk0 (65536 : Int) (Fl.bits 0, Fl.bits 0)) :: ow) := hp
  obtain ⟨q4, hcall5, h⟩ := bnd h
  obtain ⟨S6, hp7, rd8, up9, bk10⟩ := Hp.lendS hp (i := 0) rfl
  refine st_call hf (by decide) Try.func17 rfl rfl rfl rfl rfl (f_mix_Up_c hp7 _ _ rd8 _ hcall5) ?_
  rintro _ w ⟨v11, rfl, hp0⟩
  have hp0 := bk10 _ _ hp0
  clear hp; have hp := hp0; clear hp0
  replace hp : Hp _ _ w (Res.sl Ek.c128 36 v2 (mk0 (65536 : Int) (Fl.bits 0, Fl.bits 0)) :: Res.sl Ek.c128 36 v11 q4.1 :: ow) := hp
  refine ⟨_, rfl, ?_⟩
  clear hf; intro a hf
  refine st_move hf rfl rfl (by decide) ?_
  clear hf; intro a ha hf; clear ha
  refine st_extract hf (by decide) rfl rfl rfl ?_
  clear hf; intro a ha hf; clear ha
  refine st_extract hf (by decide) rfl rfl rfl ?_
  clear hf; intro a ha hf; clear ha
  refine st_assign hf rfl rfl (by decide) ?_
  clear hf; intro a ha hf; clear ha
  refine st_assign hf rfl rfl (by decide) ?_
  clear hf; intro a ha hf; clear ha
  refine st_nil hf ?_
  refine th_n ?_
  refine wp_seq ?_
  refine wp_reg ?_
  obtain ⟨hc13, h⟩ := chk h
  refine st_make (E := Ek.c128) hf (by decide) elt36 Try.underlying24 (by decide) hp rfl rfl rfl hc13.1 hc13.2.1 hc13.2.2 ?_
  clear hf; intro a w v14 hf hp0; clear hp; have hp := hp0; clear hp0
  rw [← mk0_eq] at hp
  replace hp : Hp _ _ w (Res.sl Ek.c128 36 v14 (mk0 (65537 : Int) (Fl.bits 0, Fl.bits 0)) :: Res.sl Ek.c128 36 v2 (mk0 (65536 : Int) (Fl.bits 0, Fl.bits 0)) :: Res.sl Ek.c128 36 v11 q4.1 :: ow) := hp
  obtain ⟨q16, hcall17, h⟩ := bnd h
  obtain ⟨S18, hp19, rd20, up21, bk22⟩ := Hp.lendS hp (i := 0) rfl
  refine st_call hf (by decide) Try.func17 rfl rfl rfl rfl rfl (f_mix_Up_c hp19 _ _ rd20 _ hcall17) ?_
  rintro _ w ⟨v23, rfl, hp0⟩
  have hp0 := bk22 _ _ hp0
  clear hp; have hp := hp0; clear hp0
  replace hp : Hp _ _ w (Res.sl Ek.c128 36 v14 (mk0 (65537 : Int) (Fl.bits 0, Fl.bits 0)) :: Res.sl Ek.c128 36 v23 q16.1 :: Res.sl Ek.c128 36 v2 (mk0 (65536 : Int) (Fl.bits 0, Fl.bits 0)) :: Res.sl Ek.c128 36 v11 q4.1 :: ow) := hp
  refine ⟨_, rfl, ?_⟩
  clear hf; intro a hf
  refine st_move hf rfl rfl (by decide) ?_
  clear hf; intro a ha hf; clear ha
  refine st_extract hf (by decide) rfl rfl rfl ?_
  clear hf; intro a ha hf; clear ha
  refine st_extract hf (by decide) rfl rfl rfl ?_
  clear hf; intro a ha hf; clear ha
  refine st_assign hf rfl rfl (by decide) ?_
  clear hf; intro a ha hf; clear ha
  refine st_assign hf rfl rfl (by decide) ?_
  clear hf; intro a ha hf; clear ha
  refine st_nil hf ?_
  refine th_n ?_
  refine wp_seq ?_
  refine wp_reg ?_
  obtain ⟨hc25, h⟩ := chk h
  refine st_make (E := Ek.c128) hf (by decide) elt36 Try.underlying24 (by decide) hp rfl rfl rfl hc25.1 hc25.2.1 hc25.2.2 ?_
  clear hf; intro a w v26 hf hp0; clear hp; have hp := hp0; clear hp0
  rw [← mk0_eq] at hp
  replace hp : Hp _ _ w (Res.sl Ek.c128 36 v26 (mk0 (32768 : Int) (Fl.bits 0, Fl.bits 0)) :: Res.sl Ek.c128 36 v14 (mk0 (65537 : Int) (Fl.bits 0, Fl.bits 0)) :: Res.sl Ek.c128 36 v23 q16.1 :: Res.sl Ek.c128 36 v2 (mk0 (65536 : Int) (Fl.bits 0, Fl.bits 0)) :: Res.sl Ek.c128 36 v11 q4.1 :: ow) := hp
  obtain ⟨q28, hcall29, h⟩ := bnd h
  obtain ⟨S30, hp31, rd32, up33, bk34⟩ := Hp.lendS hp (i := 0) rfl
  refine st_call hf (by decide) Try.func26 rfl rfl rfl rfl rfl (f_mix_Line_c hp31 _ _ rd32 hcall29) ?_
  rintro _ w ⟨v35, rfl, hp0⟩
  have hp0 := bk34 _ _ hp0
  clear hp; have hp := hp0; clear hp0
  replace hp : Hp _ _ w (Res.sl Ek.c128 36 v26 (mk0 (32768 : Int) (Fl.bits 0, Fl.bits 0)) :: Res.sl Ek.f64 37 v35 q28.1 :: Res.sl Ek.c128 36 v14 (mk0 (65537 : Int) (Fl.bits 0, Fl.bits 0)) :: Res.sl Ek.c128 36 v23 q16.1 :: Res.sl Ek.c128 36 v2 (mk0 (65536 : Int) (Fl.bits 0, Fl.bits 0)) :: Res.sl Ek.c128 36 v11 q4.1 :: ow) := hp
  refine ⟨_, rfl, ?_⟩
  clear hf; intro a hf
  refine st_move hf rfl rfl (by decide) ?_
  clear hf; intro a ha hf; clear ha
  refine st_extract hf (by decide) rfl rfl rfl ?_
  clear hf; intro a ha hf; clear ha
  refine st_extract hf (by decide) rfl rfl rfl ?_
  clear hf; intro a ha hf; clear ha
  refine st_assign hf rfl rfl (by decide) ?_
  clear hf; intro a ha hf; clear ha
  refine st_assign hf rfl rfl (by decide) ?_
  clear hf; intro a ha hf; clear ha
  refine st_nil hf ?_
  refine th_n ?_
  refine wp_seq ?_
  refine wp_reg ?_
  obtain ⟨hc37, h⟩ := chk h
  refine st_make (E := Ek.c128) hf (by decide) elt36 Try.underlying24 (by decide) hp rfl rfl rfl hc37.1 hc37.2.1 hc37.2.2 ?_
  clear hf; intro a w v38 hf hp0; clear hp; have hp := hp0; clear hp0
  rw [← mk0_eq] at hp
  replace hp : Hp _ _ w (Res.sl Ek.c128 36 v38 (mk0 (32769 : Int) (Fl.bits 0, Fl.bits 0)) :: Res.sl Ek.c128 36 v26 (mk0 (32768 : Int) (Fl.bits 0, Fl.bits 0)) :: Res.sl Ek.f64 37 v35 q28.1 :: Res.sl Ek.c128 36 v14 (mk0 (65537 : Int) (Fl.bits 0, Fl.bits 0)) :: Res.sl Ek.c128 36 v23 q16.1 :: Res.sl Ek.c128 36 v2 (mk0 (65536 : Int) (Fl.bits 0, Fl.bits 0)) :: Res.sl Ek.c128 36 v11 q4.1 :: ow) := hp
  obtain ⟨q40, hcall41, h⟩ := bnd h
  obtain ⟨S42, hp43, rd44, up45, bk46⟩ := Hp.lendS hp (i := 0) rfl
  refine st_call hf (by decide) Try.func26 rfl rfl rfl rfl rfl (f_mix_Line_c hp43 _ _ rd44 hcall41) ?_
  rintro _ w ⟨v47, rfl, hp0⟩
  have hp0 := bk46 _ _ hp0
  clear hp; have hp := hp0; clear hp0
  replace hp : Hp _ _ w (Res.sl Ek.c128 36 v38 (mk0 (32769 : Int) (Fl.bits 0, Fl.bits 0)) :: Res.sl Ek.f64 37 v47 q40.1 :: Res.sl Ek.c128 36 v26 (mk0 (32768 : Int) (Fl.bits 0, Fl.bits 0)) :: Res.sl Ek.f64 37 v35 q28.1 :: Res.sl Ek.c128 36 v14 (mk0 (65537 : Int) (Fl.bits 0, Fl.bits 0)) :: Res.sl Ek.c128 36 v23 q16.1 :: Res.sl Ek.c128 36 v2 (mk0 (65536 : Int) (Fl.bits 0, Fl.bits 0)) :: Res.sl Ek.c128 36 v11 q4.1 :: ow) := hp
  refine ⟨_, rfl, ?_⟩
  clear hf; intro a hf
  refine st_move hf rfl rfl (by decide) ?_
  clear hf; intro a ha hf; clear ha
  refine st_extract hf (by decide) rfl rfl rfl ?_
  clear hf; intro a ha hf; clear ha
  refine st_extract hf (by decide) rfl rfl rfl ?_
  clear hf; intro a ha hf; clear ha
  refine st_assign hf rfl rfl (by decide) ?_
  clear hf; intro a ha hf; clear ha
  refine st_assign hf rfl rfl (by decide) ?_
  clear hf; intro a ha hf; clear ha
  refine st_nil hf ?_
  refine th_n ?_
  refine wp_seq ?_
  refine wp_reg ?_
  obtain ⟨hc49, h⟩ := chk h
  refine st_make (E := Ek.f64) hf (by decide) elt37 Try.underlying40 (by decide) hp rfl rfl rfl hc49.1 hc49.2.1 hc49.2.2 ?_
  clear hf; intro a w v50 hf hp0; clear hp; have hp := hp0; clear hp0
  replace hp : Hp _ _ w (Res.sl Ek.f64 37 v50 (List.replicate ((3 : Int)).toNat (Fl.bits 0)) :: Res.sl Ek.c128 36 v38 (mk0 (32769 : Int) (Fl.bits 0, Fl.bits 0)) :: Res.sl Ek.f64 37 v47 q40.1 :: Res.sl Ek.c128 36 v26 (mk0 (32768 : Int) (Fl.bits 0, Fl.bits 0)) :: Res.sl Ek.f64 37 v35 q28.1 :: Res.sl Ek.c128 36 v14 (mk0 (65537 : Int) (Fl.bits 0, Fl.bits 0)) :: Res.sl Ek.c128 36 v23 q16.1 :: Res.sl Ek.c128 36 v2 (mk0 (65536 : Int) (Fl.bits 0, Fl.bits 0)) :: Res.sl Ek.c128 36 v11 q4.1 :: ow) := hp
  obtain ⟨q52, hcall53, h⟩ := bnd h
  obtain ⟨S54, hp55, rd56, up57, bk58⟩ := Hp.lendS hp (i := 0) rfl
  refine st_call hf (by decide) Try.func29 rfl rfl rfl rfl rfl (f_mix_Unline_c hp55 _ _ rd56 hcall53) ?_
  rintro _ w ⟨v59, rfl, hp0⟩
  have hp0 := bk58 _ _ hp0
  clear hp; have hp := hp0; clear hp0
  replace hp : Hp _ _ w (Res.sl Ek.f64 37 v50 (List.replicate ((3 : Int)).toNat (Fl.bits 0)) :: Res.sl Ek.c128 36 v59 q52.1 :: Res.sl Ek.c128 36 v38 (mk0 (32769 : Int) (Fl.bits 0, Fl.bits 0)) :: Res.sl Ek.f64 37 v47 q40.1 :: Res.sl Ek.c128 36 v26 (mk0 (32768 : Int) (Fl.bits 0, Fl.bits 0)) :: Res.sl Ek.f64 37 v35 q28.1 :: Res.sl Ek.c128 36 v14 (mk0 (65537 : Int) (Fl.bits 0, Fl.bits 0)) :: Res.sl Ek.c128 36 v23 q16.1 :: Res.sl Ek.c128 36 v2 (mk0 (65536 : Int) (Fl.bits 0, Fl.bits 0)) :: Res.sl Ek.c128 36 v11 q4.1 :: ow) := hp
  refine ⟨_, rfl, ?_⟩
  clear hf; intro a hf
  refine st_move hf rfl rfl (by decide) ?_
  clear hf; intro a ha hf; clear ha
  refine st_extract hf (by decide) rfl rfl rfl ?_
  clear hf; intro a ha hf; clear ha
  refine st_extract hf (by decide) rfl rfl rfl ?_
  clear hf; intro a ha hf; clear ha
  refine st_assign hf rfl rfl (by decide) ?_
  clear hf; intro a ha hf; clear ha
  refine st_assign hf rfl rfl (by decide) ?_
  clear hf; intro a ha hf; clear ha
  refine st_nil hf ?_
  refine th_n ?_
  refine wp_seq ?_
  refine wp_reg ?_
  obtain ⟨q61, hcall62, h⟩ := bnd h
  refine st_call hf (by decide) Try.func23 rfl rfl rfl rfl rfl (f_mix_Carrier_c hp _ _ hcall62) ?_
  rintro _ w ⟨v63, rfl, hp0⟩
  clear hp; have hp := hp0; clear hp0
  replace hp : Hp _ _ w (Res.sl Ek.c128 36 v63 q61.1 :: Res.sl Ek.f64 37 v50 (List.replicate ((3 : Int)).toNat (Fl.bits 0)) :: Res.sl Ek.c128 36 v59 q52.1 :: Res.sl Ek.c128 36 v38 (mk0 (32769 : Int) (Fl.bits 0, Fl.bits 0)) :: Res.sl Ek.f64 37 v47 q40.1 :: Res.sl Ek.c128 36 v26 (mk0 (32768 : Int) (Fl.bits 0, Fl.bits 0)) :: Res.sl Ek.f64 37 v35 q28.1 :: Res.sl Ek.c128 36 v14 (mk0 (65537 : Int) (Fl.bits 0, Fl.bits 0)) :: Res.sl Ek.c128 36 v23 q16.1 :: Res.sl Ek.c128 36 v2 (mk0 (65536 : Int) (Fl.bits 0, Fl.bits 0)) :: Res.sl Ek.c128 36 v11 q4.1 :: ow) := hp
  refine ⟨_, rfl, ?_⟩
  clear hf; intro a hf
  refine st_move hf rfl rfl (by decide) ?_
  clear hf; intro a ha hf; clear ha
  refine st_extract hf (by decide) rfl rfl rfl ?_
  clear hf; intro a ha hf; clear ha
  refine st_extract hf (by decide) rfl rfl rfl ?_
  clear hf; intro a ha hf; clear ha
  refine st_assign hf rfl rfl (by decide) ?_
  clear hf; intro a ha hf; clear ha
  refine st_assign hf rfl rfl (by decide) ?_
  clear hf; intro a ha hf; clear ha
  refine st_nil hf ?_
  refine th_n ?_
  refine wp_seq ?_
  refine wp_reg ?_
  obtain ⟨q65, hcall66, h⟩ := bnd h
  refine st_call hf (by decide) Try.func23 rfl rfl rfl rfl rfl (f_mix_Carrier_c hp _ _ hcall66) ?_
  rintro _ w ⟨v67, rfl, hp0⟩
  clear hp; have hp := hp0; clear hp0
  replace hp : Hp _ _ w (Res.sl Ek.c128 36 v67 q65.1 :: Res.sl Ek.c128 36 v63 q61.1 :: Res.sl Ek.f64 37 v50 (List.replicate ((3 : Int)).toNat (Fl.bits 0)) :: Res.sl Ek.c128 36 v59 q52.1 :: Res.sl Ek.c128 36 v38 (mk0 (32769 : Int) (Fl.bits 0, Fl.bits 0)) :: Res.sl Ek.f64 37 v47 q40.1 :: Res.sl Ek.c128 36 v26 (mk0 (32768 : Int) (Fl.bits 0, Fl.bits 0)) :: Res.sl Ek.f64 37 v35 q28.1 :: Res.sl Ek.c128 36 v14 (mk0 (65537 : Int) (Fl.bits 0, Fl.bits 0)) :: Res.sl Ek.c128 36 v23 q16.1 :: Res.sl Ek.c128 36 v2 (mk0 (65536 : Int) (Fl.bits 0, Fl.bits 0)) :: Res.sl Ek.c128 36 v11 q4.1 :: ow) := hp
  refine ⟨_, rfl, ?_⟩
  clear hf; intro a hf
  refine st_move hf rfl rfl (by decide) ?_
  clear hf; intro a ha hf; clear ha
  refine st_extract hf (by decide) rfl rfl rfl ?_
  clear hf; intro a ha hf; clear ha
  refine st_extract hf (by decide) rfl rfl rfl ?_
  clear hf; intro a ha hf; clear ha
  refine st_assign hf rfl rfl (by decide) ?_
  clear hf; intro a ha hf; clear ha
  refine st_assign hf rfl rfl (by decide) ?_
  clear hf; intro a ha hf; clear ha
  refine st_nil hf ?_
  refine th_n ?_
  refine wp_seq ?_
  obtain ⟨hc69, h⟩ := chk h
  obtain ⟨hc72, h⟩ := chk h
  obtain ⟨q78, hcall79, h⟩ := bnd h
  refine wp_cutN (fun a w => ∃ (v70 : Value) (v73 : Value) (v75 : Value) (v85 : Value), Fr 97 a [(2, .int .i64 q4.2), (4, .int .i64 q16.2), (6, .int .i64 q28.2), (8, .int .i64 q40.2), (10, .int .i64 q52.2), (12, .int .i64 q61.2), (14, .int .i64 q65.2), (16, .int .i64 q78.2)] ∧ Hp S w0 w (Res.rows (RowK.sl Ek.c128 36) 24 v75 ([v70, v73]) ([(mk0 (40000 : Int) (Fl.bits 0, Fl.bits 0)), (mk0 (40000 : Int) (Fl.bits 0, Fl.bits 0))]) :: Res.sl Ek.c128 36 v85 q78.1 :: Res.sl Ek.c128 36 v67 q65.1 :: Res.sl Ek.c128 36 v63 q61.1 :: Res.sl Ek.f64 37 v50 (List.replicate ((3 : Int)).toNat (Fl.bits 0)) :: Res.sl Ek.c128 36 v59 q52.1 :: Res.sl Ek.c128 36 v38 (mk0 (32769 : Int) (Fl.bits 0, Fl.bits 0)) :: Res.sl Ek.f64 37 v47 q40.1 :: Res.sl Ek.c128 36 v26 (mk0 (32768 : Int) (Fl.bits 0, Fl.bits 0)) :: Res.sl Ek.f64 37 v35 q28.1 :: Res.sl Ek.c128 36 v14 (mk0 (65537 : Int) (Fl.bits 0, Fl.bits 0)) :: Res.sl Ek.c128 36 v23 q16.1 :: Res.sl Ek.c128 36 v2 (mk0 (65536 : Int) (Fl.bits 0, Fl.bits 0)) :: Res.sl Ek.c128 36 v11 q4.1 :: ow)) ?_ ?_
  · have hp := hp.same (Same.drew w)
    refine dr_begin' (fun a w => ∃ (v70 : Value) (v73 : Value) (v75 : Value) (v85 : Value), Fr 97 a [(2, .int .i64 q4.2), (4, .int .i64 q16.2), (6, .int .i64 q28.2), (8, .int .i64 q40.2), (10, .int .i64 q52.2), (12, .int .i64 q61.2), (14, .int .i64 q65.2), (16, .int .i64 q78.2)] ∧ Hp S w0 w (Res.rows (RowK.sl Ek.c128 36) 24 v75 ([v70, v73]) ([(mk0 (40000 : Int) (Fl.bits 0, Fl.bits 0)), (mk0 (40000 : Int) (Fl.bits 0, Fl.bits 0))]) :: Res.sl Ek.c128 36 v85 q78.1 :: Res.sl Ek.c128 36 v67 q65.1 :: Res.sl Ek.c128 36 v63 q61.1 :: Res.sl Ek.f64 37 v50 (List.replicate ((3 : Int)).toNat (Fl.bits 0)) :: Res.sl Ek.c128 36 v59 q52.1 :: Res.sl Ek.c128 36 v38 (mk0 (32769 : Int) (Fl.bits 0, Fl.bits 0)) :: Res.sl Ek.f64 37 v47 q40.1 :: Res.sl Ek.c128 36 v26 (mk0 (32768 : Int) (Fl.bits 0, Fl.bits 0)) :: Res.sl Ek.f64 37 v35 q28.1 :: Res.sl Ek.c128 36 v14 (mk0 (65537 : Int) (Fl.bits 0, Fl.bits 0)) :: Res.sl Ek.c128 36 v23 q16.1 :: Res.sl Ek.c128 36 v2 (mk0 (65536 : Int) (Fl.bits 0, Fl.bits 0)) :: Res.sl Ek.c128 36 v11 q4.1 :: ow)) (fun w' => ∃ l, Hp S w0 w' l) [] (by kernel_rfl) ?_
    refine dr_two 0 1 rfl rfl (by kernel_rfl) ?_ ?_
    · skip
      refine st_make (E := Ek.c128) hf (by decide) elt36 Try.underlying24 (by decide) hp rfl rfl rfl hc69.1 hc69.2.1 hc69.2.2 ?_
      clear hf; intro a w v70 hf hp0; clear hp; have hp := hp0; clear hp0
      rw [← mk0_eq] at hp
      replace hp : Hp _ _ w (Res.sl Ek.c128 36 v70 (mk0 (40000 : Int) (Fl.bits 0, Fl.bits 0)) :: Res.sl Ek.c128 36 v67 q65.1 :: Res.sl Ek.c128 36 v63 q61.1 :: Res.sl Ek.f64 37 v50 (List.replicate ((3 : Int)).toNat (Fl.bits 0)) :: Res.sl Ek.c128 36 v59 q52.1 :: Res.sl Ek.c128 36 v38 (mk0 (32769 : Int) (Fl.bits 0, Fl.bits 0)) :: Res.sl Ek.f64 37 v47 q40.1 :: Res.sl Ek.c128 36 v26 (mk0 (32768 : Int) (Fl.bits 0, Fl.bits 0)) :: Res.sl Ek.f64 37 v35 q28.1 :: Res.sl Ek.c128 36 v14 (mk0 (65537 : Int) (Fl.bits 0, Fl.bits 0)) :: Res.sl Ek.c128 36 v23 q16.1 :: Res.sl Ek.c128 36 v2 (mk0 (65536 : Int) (Fl.bits 0, Fl.bits 0)) :: Res.sl Ek.c128 36 v11 q4.1 :: ow) := hp
      refine st_nil hf (th_n ⟨fun _ _ => ⟨_, hp⟩, ?_⟩)
      refine dr_one 1 rfl (by kernel_rfl) ?_
      refine st_make (E := Ek.c128) hf (by decide) elt36 Try.underlying24 (by decide) hp rfl rfl rfl hc72.1 hc72.2.1 hc72.2.2 ?_
      clear hf; intro a w v73 hf hp0; clear hp; have hp := hp0; clear hp0
      rw [← mk0_eq] at hp
      replace hp : Hp _ _ w (Res.sl Ek.c128 36 v73 (mk0 (40000 : Int) (Fl.bits 0, Fl.bits 0)) :: Res.sl Ek.c128 36 v70 (mk0 (40000 : Int) (Fl.bits 0, Fl.bits 0)) :: Res.sl Ek.c128 36 v67 q65.1 :: Res.sl Ek.c128 36 v63 q61.1 :: Res.sl Ek.f64 37 v50 (List.replicate ((3 : Int)).toNat (Fl.bits 0)) :: Res.sl Ek.c128 36 v59 q52.1 :: Res.sl Ek.c128 36 v38 (mk0 (32769 : Int) (Fl.bits 0, Fl.bits 0)) :: Res.sl Ek.f64 37 v47 q40.1 :: Res.sl Ek.c128 36 v26 (mk0 (32768 : Int) (Fl.bits 0, Fl.bits 0)) :: Res.sl Ek.f64 37 v35 q28.1 :: Res.sl Ek.c128 36 v14 (mk0 (65537 : Int) (Fl.bits 0, Fl.bits 0)) :: Res.sl Ek.c128 36 v23 q16.1 :: Res.sl Ek.c128 36 v2 (mk0 (65536 : Int) (Fl.bits 0, Fl.bits 0)) :: Res.sl Ek.c128 36 v11 q4.1 :: ow) := hp
      refine st_nil hf (th_n ⟨fun _ _ => ⟨_, hp⟩, ?_⟩)
      refine dr_one 2 rfl (by kernel_rfl) ?_
      refine st_build (E := Ek.val) (xs := [v70, v73]) hf (by decide) eltv24 Try.underlying31 hp (vals := #[(0, v70), (1, v73)]) (cells := #[v70, v73]) rfl (by simp [hf.ev (x := (Operand.tmp 53)) rfl, hf.ev (x := (Operand.tmp 54)) rfl]) (by decide) (by decide) (z := .slice none 0 0) (by kernel_rfl) (fillv2 (hp.sl (i := 1) rfl).shapeV (hp.sl (i := 0) rfl).shapeV) rfl (reps_cons (E := Ek.val) (cs := [v70]) ⟨rfl, (one_of (hp.sl (i := 1) rfl).shapeV)⟩ (reps_cons (E := Ek.val) (cs := [v73]) ⟨rfl, (one_of (hp.sl (i := 0) rfl).shapeV)⟩ (reps_nil _))) ?_
      clear hf; intro a w v75 hf hp0; clear hp; have hp := hp0; clear hp0
      replace hp : Hp _ _ w (Res.sl Ek.val 24 v75 [v70, v73] :: Res.sl Ek.c128 36 v73 (mk0 (40000 : Int) (Fl.bits 0, Fl.bits 0)) :: Res.sl Ek.c128 36 v70 (mk0 (40000 : Int) (Fl.bits 0, Fl.bits 0)) :: Res.sl Ek.c128 36 v67 q65.1 :: Res.sl Ek.c128 36 v63 q61.1 :: Res.sl Ek.f64 37 v50 (List.replicate ((3 : Int)).toNat (Fl.bits 0)) :: Res.sl Ek.c128 36 v59 q52.1 :: Res.sl Ek.c128 36 v38 (mk0 (32769 : Int) (Fl.bits 0, Fl.bits 0)) :: Res.sl Ek.f64 37 v47 q40.1 :: Res.sl Ek.c128 36 v26 (mk0 (32768 : Int) (Fl.bits 0, Fl.bits 0)) :: Res.sl Ek.f64 37 v35 q28.1 :: Res.sl Ek.c128 36 v14 (mk0 (65537 : Int) (Fl.bits 0, Fl.bits 0)) :: Res.sl Ek.c128 36 v23 q16.1 :: Res.sl Ek.c128 36 v2 (mk0 (65536 : Int) (Fl.bits 0, Fl.bits 0)) :: Res.sl Ek.c128 36 v11 q4.1 :: ow) := hp
      refine st_nil hf (th_n ⟨fun _ _ => ⟨_, hp⟩, ?_⟩)
      refine dr_one 3 rfl (by kernel_rfl) ?_
      have hp : Hp _ _ w (Res.sl Ek.val 24 v75 [v70, v73] :: Res.sl Ek.c128 36 v70 (mk0 (40000 : Int) (Fl.bits 0, Fl.bits 0)) :: Res.sl Ek.c128 36 v73 (mk0 (40000 : Int) (Fl.bits 0, Fl.bits 0)) :: Res.sl Ek.c128 36 v67 q65.1 :: Res.sl Ek.c128 36 v63 q61.1 :: Res.sl Ek.f64 37 v50 (List.replicate ((3 : Int)).toNat (Fl.bits 0)) :: Res.sl Ek.c128 36 v59 q52.1 :: Res.sl Ek.c128 36 v38 (mk0 (32769 : Int) (Fl.bits 0, Fl.bits 0)) :: Res.sl Ek.f64 37 v47 q40.1 :: Res.sl Ek.c128 36 v26 (mk0 (32768 : Int) (Fl.bits 0, Fl.bits 0)) :: Res.sl Ek.f64 37 v35 q28.1 :: Res.sl Ek.c128 36 v14 (mk0 (65537 : Int) (Fl.bits 0, Fl.bits 0)) :: Res.sl Ek.c128 36 v23 q16.1 :: Res.sl Ek.c128 36 v2 (mk0 (65536 : Int) (Fl.bits 0, Fl.bits 0)) :: Res.sl Ek.c128 36 v11 q4.1 :: ow) := Hp.sel (pre := [Res.sl Ek.val 24 v75 [v70, v73], Res.sl Ek.c128 36 v73 (mk0 (40000 : Int) (Fl.bits 0, Fl.bits 0)), Res.sl Ek.c128 36 v70 (mk0 (40000 : Int) (Fl.bits 0, Fl.bits 0)), Res.sl Ek.c128 36 v67 q65.1, Res.sl Ek.c128 36 v63 q61.1, Res.sl Ek.f64 37 v50 (List.replicate ((3 : Int)).toNat (Fl.bits 0)), Res.sl Ek.c128 36 v59 q52.1, Res.sl Ek.c128 36 v38 (mk0 (32769 : Int) (Fl.bits 0, Fl.bits 0)), Res.sl Ek.f64 37 v47 q40.1, Res.sl Ek.c128 36 v26 (mk0 (32768 : Int) (Fl.bits 0, Fl.bits 0)), Res.sl Ek.f64 37 v35 q28.1, Res.sl Ek.c128 36 v14 (mk0 (65537 : Int) (Fl.bits 0, Fl.bits 0)), Res.sl Ek.c128 36 v23 q16.1, Res.sl Ek.c128 36 v2 (mk0 (65536 : Int) (Fl.bits 0, Fl.bits 0)), Res.sl Ek.c128 36 v11 q4.1]) (tail := ow) (rs' := [Res.sl Ek.val 24 v75 [v70, v73], Res.sl Ek.c128 36 v70 (mk0 (40000 : Int) (Fl.bits 0, Fl.bits 0)), Res.sl Ek.c128 36 v73 (mk0 (40000 : Int) (Fl.bits 0, Fl.bits 0)), Res.sl Ek.c128 36 v67 q65.1, Res.sl Ek.c128 36 v63 q61.1, Res.sl Ek.f64 37 v50 (List.replicate ((3 : Int)).toNat (Fl.bits 0)), Res.sl Ek.c128 36 v59 q52.1, Res.sl Ek.c128 36 v38 (mk0 (32769 : Int) (Fl.bits 0, Fl.bits 0)), Res.sl Ek.f64 37 v47 q40.1, Res.sl Ek.c128 36 v26 (mk0 (32768 : Int) (Fl.bits 0, Fl.bits 0)), Res.sl Ek.f64 37 v35 q28.1, Res.sl Ek.c128 36 v14 (mk0 (65537 : Int) (Fl.bits 0, Fl.bits 0)), Res.sl Ek.c128 36 v23 q16.1, Res.sl Ek.c128 36 v2 (mk0 (65536 : Int) (Fl.bits 0, Fl.bits 0)), Res.sl Ek.c128 36 v11 q4.1]) hp [0, 2, 1, 3, 4, 5, 6, 7, 8, 9, 10, 11, 12, 13, 14] (by decide) (by simp) rfl
      replace hp : Hp _ _ w (Res.rows (RowK.sl Ek.c128 36) 24 v75 ([v70, v73]) ([(mk0 (40000 : Int) (Fl.bits 0, Fl.bits 0)), (mk0 (40000 : Int) (Fl.bits 0, Fl.bits 0))]) :: Res.sl Ek.c128 36 v67 q65.1 :: Res.sl Ek.c128 36 v63 q61.1 :: Res.sl Ek.f64 37 v50 (List.replicate ((3 : Int)).toNat (Fl.bits 0)) :: Res.sl Ek.c128 36 v59 q52.1 :: Res.sl Ek.c128 36 v38 (mk0 (32769 : Int) (Fl.bits 0, Fl.bits 0)) :: Res.sl Ek.f64 37 v47 q40.1 :: Res.sl Ek.c128 36 v26 (mk0 (32768 : Int) (Fl.bits 0, Fl.bits 0)) :: Res.sl Ek.f64 37 v35 q28.1 :: Res.sl Ek.c128 36 v14 (mk0 (65537 : Int) (Fl.bits 0, Fl.bits 0)) :: Res.sl Ek.c128 36 v23 q16.1 :: Res.sl Ek.c128 36 v2 (mk0 (65536 : Int) (Fl.bits 0, Fl.bits 0)) :: Res.sl Ek.c128 36 v11 q4.1 :: ow) := Hp.rowsClose (K := (RowK.sl Ek.c128 36)) rfl hp
      obtain ⟨S80, hp81, rd82, up83, bk84⟩ := Hp.lendR hp (i := 0) rfl
      refine st_call hf (by decide) Try.func15 rfl rfl rfl rfl rfl (f_mix_Merge_c hp81 _ _ _ rd82 hcall79) ?_
      rintro _ w ⟨v85, rfl, hp0⟩
      have hp0 := bk84 _ _ hp0
      clear hp; have hp := hp0; clear hp0
      replace hp : Hp _ _ w (Res.rows (RowK.sl Ek.c128 36) 24 v75 ([v70, v73]) ([(mk0 (40000 : Int) (Fl.bits 0, Fl.bits 0)), (mk0 (40000 : Int) (Fl.bits 0, Fl.bits 0))]) :: Res.sl Ek.c128 36 v85 q78.1 :: Res.sl Ek.c128 36 v67 q65.1 :: Res.sl Ek.c128 36 v63 q61.1 :: Res.sl Ek.f64 37 v50 (List.replicate ((3 : Int)).toNat (Fl.bits 0)) :: Res.sl Ek.c128 36 v59 q52.1 :: Res.sl Ek.c128 36 v38 (mk0 (32769 : Int) (Fl.bits 0, Fl.bits 0)) :: Res.sl Ek.f64 37 v47 q40.1 :: Res.sl Ek.c128 36 v26 (mk0 (32768 : Int) (Fl.bits 0, Fl.bits 0)) :: Res.sl Ek.f64 37 v35 q28.1 :: Res.sl Ek.c128 36 v14 (mk0 (65537 : Int) (Fl.bits 0, Fl.bits 0)) :: Res.sl Ek.c128 36 v23 q16.1 :: Res.sl Ek.c128 36 v2 (mk0 (65536 : Int) (Fl.bits 0, Fl.bits 0)) :: Res.sl Ek.c128 36 v11 q4.1 :: ow) := hp
      refine ⟨_, rfl, ?_⟩
      clear hf; intro a hf
      refine st_nil hf (th_n ⟨fun _ _ => ⟨_, hp⟩, ?_⟩)
      refine dr_take 4 (.tuple #[v85, .int .i64 q78.2]) rfl (by kernel_rfl) (by kernel_rfl) (by kernel_rfl) (by kernel_rfl) rfl rfl hf (by decide) rfl (fun w hp => ?_) ⟨_, hp⟩ ?_
      · obtain ⟨_, hp⟩ := hp
        refine st_move hf rfl rfl (by decide) ?_
        clear hf; intro a ha hf
        exact st_nil hf (th_n ⟨ha, rfl⟩)
      clear hf; intro a hf
      refine dr_take 5 (v85) rfl (by kernel_rfl) (by kernel_rfl) (by kernel_rfl) (by kernel_rfl) rfl rfl hf (by decide) rfl (fun w hp => ?_) ⟨_, hp⟩ ?_
      · obtain ⟨_, hp⟩ := hp
        refine st_extract hf (by decide) rfl rfl rfl ?_
        clear hf; intro a ha hf
        exact st_nil hf (th_n ⟨ha, rfl⟩)
      clear hf; intro a hf
      refine dr_take 6 (.int .i64 q78.2) rfl (by kernel_rfl) (by kernel_rfl) (by kernel_rfl) (by kernel_rfl) rfl rfl hf (by decide) rfl (fun w hp => ?_) ⟨_, hp⟩ ?_
      · obtain ⟨_, hp⟩ := hp
        refine st_extract hf (by decide) rfl rfl rfl ?_
        clear hf; intro a ha hf
        exact st_nil hf (th_n ⟨ha, rfl⟩)
      clear hf; intro a hf
      refine dr_take 7 (v85) rfl (by kernel_rfl) (by kernel_rfl) (by kernel_rfl) (by kernel_rfl) rfl rfl hf (by decide) rfl (fun w hp => ?_) ⟨_, hp⟩ ?_
      · obtain ⟨_, hp⟩ := hp
        refine st_assign hf rfl rfl (by decide) ?_
        clear hf; intro a ha hf
        exact st_nil hf (th_n ⟨ha, rfl⟩)
      clear hf; intro a hf
      refine dr_take 8 (.int .i64 q78.2) rfl (by kernel_rfl) (by kernel_rfl) (by kernel_rfl) (by kernel_rfl) rfl rfl hf (by decide) rfl (fun w hp => ?_) ⟨_, hp⟩ ?_
      · obtain ⟨_, hp⟩ := hp
        refine st_assign hf rfl rfl (by decide) ?_
        clear hf; intro a ha hf
        exact st_nil hf (th_n ⟨ha, rfl⟩)
      clear hf; intro a hf
      refine dr_end (by kernel_rfl) ?_ _
      exact ⟨v70, v73, v75, v85, hf.sub ⟨rfl, rfl, rfl, rfl, rfl, rfl, rfl, rfl, trivial⟩, hp⟩
    · skip
      refine st_make (E := Ek.c128) hf (by decide) elt36 Try.underlying24 (by decide) hp rfl rfl rfl hc72.1 hc72.2.1 hc72.2.2 ?_
      clear hf; intro a w v73 hf hp0; clear hp; have hp := hp0; clear hp0
      rw [← mk0_eq] at hp
      replace hp : Hp _ _ w (Res.sl Ek.c128 36 v73 (mk0 (40000 : Int) (Fl.bits 0, Fl.bits 0)) :: Res.sl Ek.c128 36 v67 q65.1 :: Res.sl Ek.c128 36 v63 q61.1 :: Res.sl Ek.f64 37 v50 (List.replicate ((3 : Int)).toNat (Fl.bits 0)) :: Res.sl Ek.c128 36 v59 q52.1 :: Res.sl Ek.c128 36 v38 (mk0 (32769 : Int) (Fl.bits 0, Fl.bits 0)) :: Res.sl Ek.f64 37 v47 q40.1 :: Res.sl Ek.c128 36 v26 (mk0 (32768 : Int) (Fl.bits 0, Fl.bits 0)) :: Res.sl Ek.f64 37 v35 q28.1 :: Res.sl Ek.c128 36 v14 (mk0 (65537 : Int) (Fl.bits 0, Fl.bits 0)) :: Res.sl Ek.c128 36 v23 q16.1 :: Res.sl Ek.c128 36 v2 (mk0 (65536 : Int) (Fl.bits 0, Fl.bits 0)) :: Res.sl Ek.c128 36 v11 q4.1 :: ow) := hp
      refine st_nil hf (th_n ⟨fun _ _ => ⟨_, hp⟩, ?_⟩)
      refine dr_one 0 rfl (by kernel_rfl) ?_
      refine st_make (E := Ek.c128) hf (by decide) elt36 Try.underlying24 (by decide) hp rfl rfl rfl hc69.1 hc69.2.1 hc69.2.2 ?_
      clear hf; intro a w v70 hf hp0; clear hp; have hp := hp0; clear hp0
      rw [← mk0_eq] at hp
      replace hp : Hp _ _ w (Res.sl Ek.c128 36 v70 (mk0 (40000 : Int) (Fl.bits 0, Fl.bits 0)) :: Res.sl Ek.c128 36 v73 (mk0 (40000 : Int) (Fl.bits 0, Fl.bits 0)) :: Res.sl Ek.c128 36 v67 q65.1 :: Res.sl Ek.c128 36 v63 q61.1 :: Res.sl Ek.f64 37 v50 (List.replicate ((3 : Int)).toNat (Fl.bits 0)) :: Res.sl Ek.c128 36 v59 q52.1 :: Res.sl Ek.c128 36 v38 (mk0 (32769 : Int) (Fl.bits 0, Fl.bits 0)) :: Res.sl Ek.f64 37 v47 q40.1 :: Res.sl Ek.c128 36 v26 (mk0 (32768 : Int) (Fl.bits 0, Fl.bits 0)) :: Res.sl Ek.f64 37 v35 q28.1 :: Res.sl Ek.c128 36 v14 (mk0 (65537 : Int) (Fl.bits 0, Fl.bits 0)) :: Res.sl Ek.c128 36 v23 q16.1 :: Res.sl Ek.c128 36 v2 (mk0 (65536 : Int) (Fl.bits 0, Fl.bits 0)) :: Res.sl Ek.c128 36 v11 q4.1 :: ow) := hp
      refine st_nil hf (th_n ⟨fun _ _ => ⟨_, hp⟩, ?_⟩)
      refine dr_one 2 rfl (by kernel_rfl) ?_
      refine st_build (E := Ek.val) (xs := [v70, v73]) hf (by decide) eltv24 Try.underlying31 hp (vals := #[(0, v70), (1, v73)]) (cells := #[v70, v73]) rfl (by simp [hf.ev (x := (Operand.tmp 53)) rfl, hf.ev (x := (Operand.tmp 54)) rfl]) (by decide) (by decide) (z := .slice none 0 0) (by kernel_rfl) (fillv2 (hp.sl (i := 0) rfl).shapeV (hp.sl (i := 1) rfl).shapeV) rfl (reps_cons (E := Ek.val) (cs := [v70]) ⟨rfl, (one_of (hp.sl (i := 0) rfl).shapeV)⟩ (reps_cons (E := Ek.val) (cs := [v73]) ⟨rfl, (one_of (hp.sl (i := 1) rfl).shapeV)⟩ (reps_nil _))) ?_
      clear hf; intro a w v75 hf hp0; clear hp; have hp := hp0; clear hp0
      replace hp : Hp _ _ w (Res.sl Ek.val 24 v75 [v70, v73] :: Res.sl Ek.c128 36 v70 (mk0 (40000 : Int) (Fl.bits 0, Fl.bits 0)) :: Res.sl Ek.c128 36 v73 (mk0 (40000 : Int) (Fl.bits 0, Fl.bits 0)) :: Res.sl Ek.c128 36 v67 q65.1 :: Res.sl Ek.c128 36 v63 q61.1 :: Res.sl Ek.f64 37 v50 (List.replicate ((3 : Int)).toNat (Fl.bits 0)) :: Res.sl Ek.c128 36 v59 q52.1 :: Res.sl Ek.c128 36 v38 (mk0 (32769 : Int) (Fl.bits 0, Fl.bits 0)) :: Res.sl Ek.f64 37 v47 q40.1 :: Res.sl Ek.c128 36 v26 (mk0 (32768 : Int) (Fl.bits 0, Fl.bits 0)) :: Res.sl Ek.f64 37 v35 q28.1 :: Res.sl Ek.c128 36 v14 (mk0 (65537 : Int) (Fl.bits 0, Fl.bits 0)) :: Res.sl Ek.c128 36 v23 q16.1 :: Res.sl Ek.c128 36 v2 (mk0 (65536 : Int) (Fl.bits 0, Fl.bits 0)) :: Res.sl Ek.c128 36 v11 q4.1 :: ow) := hp
      refine st_nil hf (th_n ⟨fun _ _ => ⟨_, hp⟩, ?_⟩)
      refine dr_one 3 rfl (by kernel_rfl) ?_
      replace hp : Hp _ _ w (Res.rows (RowK.sl Ek.c128 36) 24 v75 ([v70, v73]) ([(mk0 (40000 : Int) (Fl.bits 0, Fl.bits 0)), (mk0 (40000 : Int) (Fl.bits 0, Fl.bits 0))]) :: Res.sl Ek.c128 36 v67 q65.1 :: Res.sl Ek.c128 36 v63 q61.1 :: Res.sl Ek.f64 37 v50 (List.replicate ((3 : Int)).toNat (Fl.bits 0)) :: Res.sl Ek.c128 36 v59 q52.1 :: Res.sl Ek.c128 36 v38 (mk0 (32769 : Int) (Fl.bits 0, Fl.bits 0)) :: Res.sl Ek.f64 37 v47 q40.1 :: Res.sl Ek.c128 36 v26 (mk0 (32768 : Int) (Fl.bits 0, Fl.bits 0)) :: Res.sl Ek.f64 37 v35 q28.1 :: Res.sl Ek.c128 36 v14 (mk0 (65537 : Int) (Fl.bits 0, Fl.bits 0)) :: Res.sl Ek.c128 36 v23 q16.1 :: Res.sl Ek.c128 36 v2 (mk0 (65536 : Int) (Fl.bits 0, Fl.bits 0)) :: Res.sl Ek.c128 36 v11 q4.1 :: ow) := Hp.rowsClose (K := (RowK.sl Ek.c128 36)) rfl hp
      obtain ⟨S80, hp81, rd82, up83, bk84⟩ := Hp.lendR hp (i := 0) rfl
      refine st_call hf (by decide) Try.func15 rfl rfl rfl rfl rfl (f_mix_Merge_c hp81 _ _ _ rd82 hcall79) ?_
      rintro _ w ⟨v85, rfl, hp0⟩
      have hp0 := bk84 _ _ hp0
      clear hp; have hp := hp0; clear hp0
      replace hp : Hp _ _ w (Res.rows (RowK.sl Ek.c128 36) 24 v75 ([v70, v73]) ([(mk0 (40000 : Int) (Fl.bits 0, Fl.bits 0)), (mk0 (40000 : Int) (Fl.bits 0, Fl.bits 0))]) :: Res.sl Ek.c128 36 v85 q78.1 :: Res.sl Ek.c128 36 v67 q65.1 :: Res.sl Ek.c128 36 v63 q61.1 :: Res.sl Ek.f64 37 v50 (List.replicate ((3 : Int)).toNat (Fl.bits 0)) :: Res.sl Ek.c128 36 v59 q52.1 :: Res.sl Ek.c128 36 v38 (mk0 (32769 : Int) (Fl.bits 0, Fl.bits 0)) :: Res.sl Ek.f64 37 v47 q40.1 :: Res.sl Ek.c128 36 v26 (mk0 (32768 : Int) (Fl.bits 0, Fl.bits 0)) :: Res.sl Ek.f64 37 v35 q28.1 :: Res.sl Ek.c128 36 v14 (mk0 (65537 : Int) (Fl.bits 0, Fl.bits 0)) :: Res.sl Ek.c128 36 v23 q16.1 :: Res.sl Ek.c128 36 v2 (mk0 (65536 : Int) (Fl.bits 0, Fl.bits 0)) :: Res.sl Ek.c128 36 v11 q4.1 :: ow) := hp
      refine ⟨_, rfl, ?_⟩
      clear hf; intro a hf
      refine st_nil hf (th_n ⟨fun _ _ => ⟨_, hp⟩, ?_⟩)
      refine dr_take 4 (.tuple #[v85, .int .i64 q78.2]) rfl (by kernel_rfl) (by kernel_rfl) (by kernel_rfl) (by kernel_rfl) rfl rfl hf (by decide) rfl (fun w hp => ?_) ⟨_, hp⟩ ?_
      · obtain ⟨_, hp⟩ := hp
        refine st_move hf rfl rfl (by decide) ?_
        clear hf; intro a ha hf
        exact st_nil hf (th_n ⟨ha, rfl⟩)
      clear hf; intro a hf
      refine dr_take 5 (v85) rfl (by kernel_rfl) (by kernel_rfl) (by kernel_rfl) (by kernel_rfl) rfl rfl hf (by decide) rfl (fun w hp => ?_) ⟨_, hp⟩ ?_
      · obtain ⟨_, hp⟩ := hp
        refine st_extract hf (by decide) rfl rfl rfl ?_
        clear hf; intro a ha hf
        exact st_nil hf (th_n ⟨ha, rfl⟩)
      clear hf; intro a hf
      refine dr_take 6 (.int .i64 q78.2) rfl (by kernel_rfl) (by kernel_rfl) (by kernel_rfl) (by kernel_rfl) rfl rfl hf (by decide) rfl (fun w hp => ?_) ⟨_, hp⟩ ?_
      · obtain ⟨_, hp⟩ := hp
        refine st_extract hf (by decide) rfl rfl rfl ?_
        clear hf; intro a ha hf
        exact st_nil hf (th_n ⟨ha, rfl⟩)
      clear hf; intro a hf
      refine dr_take 7 (v85) rfl (by kernel_rfl) (by kernel_rfl) (by kernel_rfl) (by kernel_rfl) rfl rfl hf (by decide) rfl (fun w hp => ?_) ⟨_, hp⟩ ?_
      · obtain ⟨_, hp⟩ := hp
        refine st_assign hf rfl rfl (by decide) ?_
        clear hf; intro a ha hf
        exact st_nil hf (th_n ⟨ha, rfl⟩)
      clear hf; intro a hf
      refine dr_take 8 (.int .i64 q78.2) rfl (by kernel_rfl) (by kernel_rfl) (by kernel_rfl) (by kernel_rfl) rfl rfl hf (by decide) rfl (fun w hp => ?_) ⟨_, hp⟩ ?_
      · obtain ⟨_, hp⟩ := hp
        refine st_assign hf rfl rfl (by decide) ?_
        clear hf; intro a ha hf
        exact st_nil hf (th_n ⟨ha, rfl⟩)
      clear hf; intro a hf
      refine dr_end (by kernel_rfl) ?_ _
      exact ⟨v70, v73, v75, v85, hf.sub ⟨rfl, rfl, rfl, rfl, rfl, rfl, rfl, rfl, trivial⟩, hp⟩
  · rintro a w ⟨v70, v73, v75, v85, hf, hp⟩
    refine th_n ?_
    refine wp_seq ?_
    refine wp_reg ?_
    obtain ⟨q87, hcall88, h⟩ := bnd h
    refine st_call hf (by decide) Try.func15 rfl rfl rfl rfl rfl (f_mix_Merge_c hp _ _ _ (RdR.nil (RowK.sl Ek.c128 36) _ _) hcall88) ?_
    rintro _ w ⟨v89, rfl, hp0⟩
    clear hp; have hp := hp0; clear hp0
    replace hp : Hp _ _ w (Res.sl Ek.c128 36 v89 q87.1 :: Res.rows (RowK.sl Ek.c128 36) 24 v75 ([v70, v73]) ([(mk0 (40000 : Int) (Fl.bits 0, Fl.bits 0)), (mk0 (40000 : Int) (Fl.bits 0, Fl.bits 0))]) :: Res.sl Ek.c128 36 v85 q78.1 :: Res.sl Ek.c128 36 v67 q65.1 :: Res.sl Ek.c128 36 v63 q61.1 :: Res.sl Ek.f64 37 v50 (List.replicate ((3 : Int)).toNat (Fl.bits 0)) :: Res.sl Ek.c128 36 v59 q52.1 :: Res.sl Ek.c128 36 v38 (mk0 (32769 : Int) (Fl.bits 0, Fl.bits 0)) :: Res.sl Ek.f64 37 v47 q40.1 :: Res.sl Ek.c128 36 v26 (mk0 (32768 : Int) (Fl.bits 0, Fl.bits 0)) :: Res.sl Ek.f64 37 v35 q28.1 :: Res.sl Ek.c128 36 v14 (mk0 (65537 : Int) (Fl.bits 0, Fl.bits 0)) :: Res.sl Ek.c128 36 v23 q16.1 :: Res.sl Ek.c128 36 v2 (mk0 (65536 : Int) (Fl.bits 0, Fl.bits 0)) :: Res.sl Ek.c128 36 v11 q4.1 :: ow) := hp
    refine ⟨_, rfl, ?_⟩
    clear hf; intro a hf
    refine st_move hf rfl rfl (by decide) ?_
    clear hf; intro a ha hf; clear ha
    refine st_extract hf (by decide) rfl rfl rfl ?_
    clear hf; intro a ha hf; clear ha
    refine st_extract hf (by decide) rfl rfl rfl ?_
    clear hf; intro a ha hf; clear ha
    refine st_assign hf rfl rfl (by decide) ?_
    clear hf; intro a ha hf; clear ha
    refine st_assign hf rfl rfl (by decide) ?_
    clear hf; intro a ha hf; clear ha
    refine st_nil hf ?_
    refine th_n ?_
    refine wp_seq ?_
    refine wp_reg ?_
    refine st_move hf rfl rfl (by decide) ?_
    clear hf; intro a ha hf; clear ha
    refine st_ieql hf (by decide) rfl rfl rfl ?_
    clear hf; intro a ha hf; clear ha
    refine st_move hf rfl rfl (by decide) ?_
    clear hf; intro a ha hf; clear ha
    refine wpList_cut 3 (fun a w => Fr 97 a [(6, .int .i64 q28.2), (8, .int .i64 q40.2), (10, .int .i64 q52.2), (12, .int .i64 q61.2), (14, .int .i64 q65.2), (16, .int .i64 q78.2), (18, .int .i64 q87.2), (68, .bool ((q4.2 == (0 : Int)) && (q16.2 == (1 : Int))))] ∧ Hp S w0 w (Res.sl Ek.c128 36 v89 q87.1 :: Res.rows (RowK.sl Ek.c128 36) 24 v75 ([v70, v73]) ([(mk0 (40000 : Int) (Fl.bits 0, Fl.bits 0)), (mk0 (40000 : Int) (Fl.bits 0, Fl.bits 0))]) :: Res.sl Ek.c128 36 v85 q78.1 :: Res.sl Ek.c128 36 v67 q65.1 :: Res.sl Ek.c128 36 v63 q61.1 :: Res.sl Ek.f64 37 v50 (List.replicate ((3 : Int)).toNat (Fl.bits 0)) :: Res.sl Ek.c128 36 v59 q52.1 :: Res.sl Ek.c128 36 v38 (mk0 (32769 : Int) (Fl.bits 0, Fl.bits 0)) :: Res.sl Ek.f64 37 v47 q40.1 :: Res.sl Ek.c128 36 v26 (mk0 (32768 : Int) (Fl.bits 0, Fl.bits 0)) :: Res.sl Ek.f64 37 v35 q28.1 :: Res.sl Ek.c128 36 v14 (mk0 (65537 : Int) (Fl.bits 0, Fl.bits 0)) :: Res.sl Ek.c128 36 v23 q16.1 :: Res.sl Ek.c128 36 v2 (mk0 (65536 : Int) (Fl.bits 0, Fl.bits 0)) :: Res.sl Ek.c128 36 v11 q4.1 :: ow)) ?_ ?_
    · rcases Bool.eq_false_or_eq_true (q4.2 == (0 : Int)) with hb92 | hb92
      · skip
        refine st_move hf (wantY hf rfl rfl hb92) rfl (by decide) ?_
        clear hf; intro a ha hf; clear ha
        refine st_ieql hf (by decide) (wantY hf rfl rfl hb92) rfl rfl ?_
        clear hf; intro a ha hf; clear ha
        refine st_pick (v := .bool (q16.2 == (1 : Int))) hf rfl rfl (fun hb' => ?_) (fun hb' => ?_) (by decide) ?_
        · rfl
        · exact absurd (hb92.symm.trans hb') (by decide)
        clear hf; intro a ha hf; clear ha
        refine st_nil hf (th_n ?_)
        exact ⟨hf.sub ⟨rfl, rfl, rfl, rfl, rfl, rfl, rfl, (by rw [hb92]; rfl), trivial⟩, hp⟩
      · skip
        refine st_skip hf (wantN hf rfl rfl hb92) rfl (by decide) ?_ rfl
        clear hf; intro a hf
        refine st_skip hf (wantN hf rfl rfl hb92) rfl (by decide) ?_ rfl
        clear hf; intro a hf
        refine st_pick (v := .bool false) hf rfl rfl (fun hb' => ?_) (fun hb' => ?_) (by decide) ?_
        · exact absurd (hb92.symm.trans hb') (by decide)
        · rfl
        clear hf; intro a ha hf; clear ha
        refine st_nil hf (th_n ?_)
        exact ⟨hf.sub ⟨rfl, rfl, rfl, rfl, rfl, rfl, rfl, (by rw [hb92]; rfl), trivial⟩, hp⟩
    · rintro a w ⟨hf, hp⟩
      refine st_move hf rfl rfl (by decide) ?_
      clear hf; intro a ha hf; clear ha
      refine wpList_cut 3 (fun a w => Fr 97 a [(8, .int .i64 q40.2), (10, .int .i64 q52.2), (12, .int .i64 q61.2), (14, .int .i64 q65.2), (16, .int .i64 q78.2), (18, .int .i64 q87.2), (72, .bool (((q4.2 == (0 : Int)) && (q16.2 == (1 : Int))) && (q28.2 == (0 : Int))))] ∧ Hp S w0 w (Res.sl Ek.c128 36 v89 q87.1 :: Res.rows (RowK.sl Ek.c128 36) 24 v75 ([v70, v73]) ([(mk0 (40000 : Int) (Fl.bits 0, Fl.bits 0)), (mk0 (40000 : Int) (Fl.bits 0, Fl.bits 0))]) :: Res.sl Ek.c128 36 v85 q78.1 :: Res.sl Ek.c128 36 v67 q65.1 :: Res.sl Ek.c128 36 v63 q61.1 :: Res.sl Ek.f64 37 v50 (List.replicate ((3 : Int)).toNat (Fl.bits 0)) :: Res.sl Ek.c128 36 v59 q52.1 :: Res.sl Ek.c128 36 v38 (mk0 (32769 : Int) (Fl.bits 0, Fl.bits 0)) :: Res.sl Ek.f64 37 v47 q40.1 :: Res.sl Ek.c128 36 v26 (mk0 (32768 : Int) (Fl.bits 0, Fl.bits 0)) :: Res.sl Ek.f64 37 v35 q28.1 :: Res.sl Ek.c128 36 v14 (mk0 (65537 : Int) (Fl.bits 0, Fl.bits 0)) :: Res.sl Ek.c128 36 v23 q16.1 :: Res.sl Ek.c128 36 v2 (mk0 (65536 : Int) (Fl.bits 0, Fl.bits 0)) :: Res.sl Ek.c128 36 v11 q4.1 :: ow)) ?_ ?_
      · rcases Bool.eq_false_or_eq_true ((q4.2 == (0 : Int)) && (q16.2 == (1 : Int))) with hb94 | hb94
        · skip
          refine st_move hf (wantY hf rfl rfl hb94) rfl (by decide) ?_
          clear hf; intro a ha hf; clear ha
          refine st_ieql hf (by decide) (wantY hf rfl rfl hb94) rfl rfl ?_
          clear hf; intro a ha hf; clear ha
          refine st_pick (v := .bool (q28.2 == (0 : Int))) hf rfl rfl (fun hb' => ?_) (fun hb' => ?_) (by decide) ?_
          · rfl
          · exact absurd (hb94.symm.trans hb') (by decide)
          clear hf; intro a ha hf; clear ha
          refine st_nil hf (th_n ?_)
          exact ⟨hf.sub ⟨rfl, rfl, rfl, rfl, rfl, rfl, (by rw [hb94]; rfl), trivial⟩, hp⟩
        · skip
          refine st_skip hf (wantN hf rfl rfl hb94) rfl (by decide) ?_ rfl
          clear hf; intro a hf
          refine st_skip hf (wantN hf rfl rfl hb94) rfl (by decide) ?_ rfl
          clear hf; intro a hf
          refine st_pick (v := .bool false) hf rfl rfl (fun hb' => ?_) (fun hb' => ?_) (by decide) ?_
          · exact absurd (hb94.symm.trans hb') (by decide)
          · rfl
          clear hf; intro a ha hf; clear ha
          refine st_nil hf (th_n ?_)
          exact ⟨hf.sub ⟨rfl, rfl, rfl, rfl, rfl, rfl, (by rw [hb94]; rfl), trivial⟩, hp⟩
      · rintro a w ⟨hf, hp⟩
        refine st_move hf rfl rfl (by decide) ?_
        clear hf; intro a ha hf; clear ha
        refine wpList_cut 3 (fun a w => Fr 97 a [(10, .int .i64 q52.2), (12, .int .i64 q61.2), (14, .int .i64 q65.2), (16, .int .i64 q78.2), (18, .int .i64 q87.2), (76, .bool ((((q4.2 == (0 : Int)) && (q16.2 == (1 : Int))) && (q28.2 == (0 : Int))) && (q40.2 == (1 : Int))))] ∧ Hp S w0 w (Res.sl Ek.c128 36 v89 q87.1 :: Res.rows (RowK.sl Ek.c128 36) 24 v75 ([v70, v73]) ([(mk0 (40000 : Int) (Fl.bits 0, Fl.bits 0)), (mk0 (40000 : Int) (Fl.bits 0, Fl.bits 0))]) :: Res.sl Ek.c128 36 v85 q78.1 :: Res.sl Ek.c128 36 v67 q65.1 :: Res.sl Ek.c128 36 v63 q61.1 :: Res.sl Ek.f64 37 v50 (List.replicate ((3 : Int)).toNat (Fl.bits 0)) :: Res.sl Ek.c128 36 v59 q52.1 :: Res.sl Ek.c128 36 v38 (mk0 (32769 : Int) (Fl.bits 0, Fl.bits 0)) :: Res.sl Ek.f64 37 v47 q40.1 :: Res.sl Ek.c128 36 v26 (mk0 (32768 : Int) (Fl.bits 0, Fl.bits 0)) :: Res.sl Ek.f64 37 v35 q28.1 :: Res.sl Ek.c128 36 v14 (mk0 (65537 : Int) (Fl.bits 0, Fl.bits 0)) :: Res.sl Ek.c128 36 v23 q16.1 :: Res.sl Ek.c128 36 v2 (mk0 (65536 : Int) (Fl.bits 0, Fl.bits 0)) :: Res.sl Ek.c128 36 v11 q4.1 :: ow)) ?_ ?_
        · rcases Bool.eq_false_or_eq_true (((q4.2 == (0 : Int)) && (q16.2 == (1 : Int))) && (q28.2 == (0 : Int))) with hb96 | hb96
          · skip
            refine st_move hf (wantY hf rfl rfl hb96) rfl (by decide) ?_
            clear hf; intro a ha hf; clear ha
            refine st_ieql hf (by decide) (wantY hf rfl rfl hb96) rfl rfl ?_
            clear hf; intro a ha hf; clear ha
            refine st_pick (v := .bool (q40.2 == (1 : Int))) hf rfl rfl (fun hb' => ?_) (fun hb' => ?_) (by decide) ?_
            · rfl
            · exact absurd (hb96.symm.trans hb') (by decide)
            clear hf; intro a ha hf; clear ha
            refine st_nil hf (th_n ?_)
            exact ⟨hf.sub ⟨rfl, rfl, rfl, rfl, rfl, (by rw [hb96]; rfl), trivial⟩, hp⟩
          · skip
            refine st_skip hf (wantN hf rfl rfl hb96) rfl (by decide) ?_ rfl
            clear hf; intro a hf
            refine st_skip hf (wantN hf rfl rfl hb96) rfl (by decide) ?_ rfl
            clear hf; intro a hf
            refine st_pick (v := .bool false) hf rfl rfl (fun hb' => ?_) (fun hb' => ?_) (by decide) ?_
            · exact absurd (hb96.symm.trans hb') (by decide)
            · rfl
            clear hf; intro a ha hf; clear ha
            refine st_nil hf (th_n ?_)
            exact ⟨hf.sub ⟨rfl, rfl, rfl, rfl, rfl, (by rw [hb96]; rfl), trivial⟩, hp⟩
        · rintro a w ⟨hf, hp⟩
          refine st_move hf rfl rfl (by decide) ?_
          clear hf; intro a ha hf; clear ha
          refine wpList_cut 3 (fun a w => Fr 97 a [(12, .int .i64 q61.2), (14, .int .i64 q65.2), (16, .int .i64 q78.2), (18, .int .i64 q87.2), (80, .bool (((((q4.2 == (0 : Int)) && (q16.2 == (1 : Int))) && (q28.2 == (0 : Int))) && (q40.2 == (1 : Int))) && (q52.2 == (1 : Int))))] ∧ Hp S w0 w (Res.sl Ek.c128 36 v89 q87.1 :: Res.rows (RowK.sl Ek.c128 36) 24 v75 ([v70, v73]) ([(mk0 (40000 : Int) (Fl.bits 0, Fl.bits 0)), (mk0 (40000 : Int) (Fl.bits 0, Fl.bits 0))]) :: Res.sl Ek.c128 36 v85 q78.1 :: Res.sl Ek.c128 36 v67 q65.1 :: Res.sl Ek.c128 36 v63 q61.1 :: Res.sl Ek.f64 37 v50 (List.replicate ((3 : Int)).toNat (Fl.bits 0)) :: Res.sl Ek.c128 36 v59 q52.1 :: Res.sl Ek.c128 36 v38 (mk0 (32769 : Int) (Fl.bits 0, Fl.bits 0)) :: Res.sl Ek.f64 37 v47 q40.1 :: Res.sl Ek.c128 36 v26 (mk0 (32768 : Int) (Fl.bits 0, Fl.bits 0)) :: Res.sl Ek.f64 37 v35 q28.1 :: Res.sl Ek.c128 36 v14 (mk0 (65537 : Int) (Fl.bits 0, Fl.bits 0)) :: Res.sl Ek.c128 36 v23 q16.1 :: Res.sl Ek.c128 36 v2 (mk0 (65536 : Int) (Fl.bits 0, Fl.bits 0)) :: Res.sl Ek.c128 36 v11 q4.1 :: ow)) ?_ ?_
          · rcases Bool.eq_false_or_eq_true ((((q4.2 == (0 : Int)) && (q16.2 == (1 : Int))) && (q28.2 == (0 : Int))) && (q40.2 == (1 : Int))) with hb98 | hb98
            · skip
              refine st_move hf (wantY hf rfl rfl hb98) rfl (by decide) ?_
              clear hf; intro a ha hf; clear ha
              refine st_ieql hf (by decide) (wantY hf rfl rfl hb98) rfl rfl ?_
              clear hf; intro a ha hf; clear ha
              refine st_pick (v := .bool (q52.2 == (1 : Int))) hf rfl rfl (fun hb' => ?_) (fun hb' => ?_) (by decide) ?_
              · rfl
              · exact absurd (hb98.symm.trans hb') (by decide)
              clear hf; intro a ha hf; clear ha
              refine st_nil hf (th_n ?_)
              exact ⟨hf.sub ⟨rfl, rfl, rfl, rfl, (by rw [hb98]; rfl), trivial⟩, hp⟩
            · skip
              refine st_skip hf (wantN hf rfl rfl hb98) rfl (by decide) ?_ rfl
              clear hf; intro a hf
              refine st_skip hf (wantN hf rfl rfl hb98) rfl (by decide) ?_ rfl
              clear hf; intro a hf
              refine st_pick (v := .bool false) hf rfl rfl (fun hb' => ?_) (fun hb' => ?_) (by decide) ?_
              · exact absurd (hb98.symm.trans hb') (by decide)
              · rfl
              clear hf; intro a ha hf; clear ha
              refine st_nil hf (th_n ?_)
              exact ⟨hf.sub ⟨rfl, rfl, rfl, rfl, (by rw [hb98]; rfl), trivial⟩, hp⟩
          · rintro a w ⟨hf, hp⟩
            refine st_move hf rfl rfl (by decide) ?_
            clear hf; intro a ha hf; clear ha
            refine wpList_cut 3 (fun a w => Fr 97 a [(14, .int .i64 q65.2), (16, .int .i64 q78.2), (18, .int .i64 q87.2), (84, .bool ((((((q4.2 == (0 : Int)) && (q16.2 == (1 : Int))) && (q28.2 == (0 : Int))) && (q40.2 == (1 : Int))) && (q52.2 == (1 : Int))) && (q61.2 == (1 : Int))))] ∧ Hp S w0 w (Res.sl Ek.c128 36 v89 q87.1 :: Res.rows (RowK.sl Ek.c128 36) 24 v75 ([v70, v73]) ([(mk0 (40000 : Int) (Fl.bits 0, Fl.bits 0)), (mk0 (40000 : Int) (Fl.bits 0, Fl.bits 0))]) :: Res.sl Ek.c128 36 v85 q78.1 :: Res.sl Ek.c128 36 v67 q65.1 :: Res.sl Ek.c128 36 v63 q61.1 :: Res.sl Ek.f64 37 v50 (List.replicate ((3 : Int)).toNat (Fl.bits 0)) :: Res.sl Ek.c128 36 v59 q52.1 :: Res.sl Ek.c128 36 v38 (mk0 (32769 : Int) (Fl.bits 0, Fl.bits 0)) :: Res.sl Ek.f64 37 v47 q40.1 :: Res.sl Ek.c128 36 v26 (mk0 (32768 : Int) (Fl.bits 0, Fl.bits 0)) :: Res.sl Ek.f64 37 v35 q28.1 :: Res.sl Ek.c128 36 v14 (mk0 (65537 : Int) (Fl.bits 0, Fl.bits 0)) :: Res.sl Ek.c128 36 v23 q16.1 :: Res.sl Ek.c128 36 v2 (mk0 (65536 : Int) (Fl.bits 0, Fl.bits 0)) :: Res.sl Ek.c128 36 v11 q4.1 :: ow)) ?_ ?_
            · rcases Bool.eq_false_or_eq_true (((((q4.2 == (0 : Int)) && (q16.2 == (1 : Int))) && (q28.2 == (0 : Int))) && (q40.2 == (1 : Int))) && (q52.2 == (1 : Int))) with hb100 | hb100
              · skip
                refine st_move hf (wantY hf rfl rfl hb100) rfl (by decide) ?_
                clear hf; intro a ha hf; clear ha
                refine st_ieql hf (by decide) (wantY hf rfl rfl hb100) rfl rfl ?_
                clear hf; intro a ha hf; clear ha
                refine st_pick (v := .bool (q61.2 == (1 : Int))) hf rfl rfl (fun hb' => ?_) (fun hb' => ?_) (by decide) ?_
                · rfl
                · exact absurd (hb100.symm.trans hb') (by decide)
                clear hf; intro a ha hf; clear ha
                refine st_nil hf (th_n ?_)
                exact ⟨hf.sub ⟨rfl, rfl, rfl, (by rw [hb100]; rfl), trivial⟩, hp⟩
              · skip
                refine st_skip hf (wantN hf rfl rfl hb100) rfl (by decide) ?_ rfl
                clear hf; intro a hf
                refine st_skip hf (wantN hf rfl rfl hb100) rfl (by decide) ?_ rfl
                clear hf; intro a hf
                refine st_pick (v := .bool false) hf rfl rfl (fun hb' => ?_) (fun hb' => ?_) (by decide) ?_
                · exact absurd (hb100.symm.trans hb') (by decide)
                · rfl
                clear hf; intro a ha hf; clear ha
                refine st_nil hf (th_n ?_)
                exact ⟨hf.sub ⟨rfl, rfl, rfl, (by rw [hb100]; rfl), trivial⟩, hp⟩
            · rintro a w ⟨hf, hp⟩
              refine st_move hf rfl rfl (by decide) ?_
              clear hf; intro a ha hf; clear ha
              refine wpList_cut 3 (fun a w => Fr 97 a [(16, .int .i64 q78.2), (18, .int .i64 q87.2), (88, .bool (((((((q4.2 == (0 : Int)) && (q16.2 == (1 : Int))) && (q28.2 == (0 : Int))) && (q40.2 == (1 : Int))) && (q52.2 == (1 : Int))) && (q61.2 == (1 : Int))) && (q65.2 == (1 : Int))))] ∧ Hp S w0 w (Res.sl Ek.c128 36 v89 q87.1 :: Res.rows (RowK.sl Ek.c128 36) 24 v75 ([v70, v73]) ([(mk0 (40000 : Int) (Fl.bits 0, Fl.bits 0)), (mk0 (40000 : Int) (Fl.bits 0, Fl.bits 0))]) :: Res.sl Ek.c128 36 v85 q78.1 :: Res.sl Ek.c128 36 v67 q65.1 :: Res.sl Ek.c128 36 v63 q61.1 :: Res.sl Ek.f64 37 v50 (List.replicate ((3 : Int)).toNat (Fl.bits 0)) :: Res.sl Ek.c128 36 v59 q52.1 :: Res.sl Ek.c128 36 v38 (mk0 (32769 : Int) (Fl.bits 0, Fl.bits 0)) :: Res.sl Ek.f64 37 v47 q40.1 :: Res.sl Ek.c128 36 v26 (mk0 (32768 : Int) (Fl.bits 0, Fl.bits 0)) :: Res.sl Ek.f64 37 v35 q28.1 :: Res.sl Ek.c128 36 v14 (mk0 (65537 : Int) (Fl.bits 0, Fl.bits 0)) :: Res.sl Ek.c128 36 v23 q16.1 :: Res.sl Ek.c128 36 v2 (mk0 (65536 : Int) (Fl.bits 0, Fl.bits 0)) :: Res.sl Ek.c128 36 v11 q4.1 :: ow)) ?_ ?_
              · rcases Bool.eq_false_or_eq_true ((((((q4.2 == (0 : Int)) && (q16.2 == (1 : Int))) && (q28.2 == (0 : Int))) && (q40.2 == (1 : Int))) && (q52.2 == (1 : Int))) && (q61.2 == (1 : Int))) with hb102 | hb102
                · skip
                  refine st_move hf (wantY hf rfl rfl hb102) rfl (by decide) ?_
                  clear hf; intro a ha hf; clear ha
                  refine st_ieql hf (by decide) (wantY hf rfl rfl hb102) rfl rfl ?_
                  clear hf; intro a ha hf; clear ha
                  refine st_pick (v := .bool (q65.2 == (1 : Int))) hf rfl rfl (fun hb' => ?_) (fun hb' => ?_) (by decide) ?_
                  · rfl
                  · exact absurd (hb102.symm.trans hb') (by decide)
                  clear hf; intro a ha hf; clear ha
                  refine st_nil hf (th_n ?_)
                  exact ⟨hf.sub ⟨rfl, rfl, (by rw [hb102]; rfl), trivial⟩, hp⟩
                · skip
                  refine st_skip hf (wantN hf rfl rfl hb102) rfl (by decide) ?_ rfl
                  clear hf; intro a hf
                  refine st_skip hf (wantN hf rfl rfl hb102) rfl (by decide) ?_ rfl
                  clear hf; intro a hf
                  refine st_pick (v := .bool false) hf rfl rfl (fun hb' => ?_) (fun hb' => ?_) (by decide) ?_
                  · exact absurd (hb102.symm.trans hb') (by decide)
                  · rfl
                  clear hf; intro a ha hf; clear ha
                  refine st_nil hf (th_n ?_)
                  exact ⟨hf.sub ⟨rfl, rfl, (by rw [hb102]; rfl), trivial⟩, hp⟩
              · rintro a w ⟨hf, hp⟩
                refine st_move hf rfl rfl (by decide) ?_
                clear hf; intro a ha hf; clear ha
                refine wpList_cut 3 (fun a w => Fr 97 a [(18, .int .i64 q87.2), (92, .bool ((((((((q4.2 == (0 : Int)) && (q16.2 == (1 : Int))) && (q28.2 == (0 : Int))) && (q40.2 == (1 : Int))) && (q52.2 == (1 : Int))) && (q61.2 == (1 : Int))) && (q65.2 == (1 : Int))) && (q78.2 == (1 : Int))))] ∧ Hp S w0 w (Res.sl Ek.c128 36 v89 q87.1 :: Res.rows (RowK.sl Ek.c128 36) 24 v75 ([v70, v73]) ([(mk0 (40000 : Int) (Fl.bits 0, Fl.bits 0)), (mk0 (40000 : Int) (Fl.bits 0, Fl.bits 0))]) :: Res.sl Ek.c128 36 v85 q78.1 :: Res.sl Ek.c128 36 v67 q65.1 :: Res.sl Ek.c128 36 v63 q61.1 :: Res.sl Ek.f64 37 v50 (List.replicate ((3 : Int)).toNat (Fl.bits 0)) :: Res.sl Ek.c128 36 v59 q52.1 :: Res.sl Ek.c128 36 v38 (mk0 (32769 : Int) (Fl.bits 0, Fl.bits 0)) :: Res.sl Ek.f64 37 v47 q40.1 :: Res.sl Ek.c128 36 v26 (mk0 (32768 : Int) (Fl.bits 0, Fl.bits 0)) :: Res.sl Ek.f64 37 v35 q28.1 :: Res.sl Ek.c128 36 v14 (mk0 (65537 : Int) (Fl.bits 0, Fl.bits 0)) :: Res.sl Ek.c128 36 v23 q16.1 :: Res.sl Ek.c128 36 v2 (mk0 (65536 : Int) (Fl.bits 0, Fl.bits 0)) :: Res.sl Ek.c128 36 v11 q4.1 :: ow)) ?_ ?_
                · rcases Bool.eq_false_or_eq_true (((((((q4.2 == (0 : Int)) && (q16.2 == (1 : Int))) && (q28.2 == (0 : Int))) && (q40.2 == (1 : Int))) && (q52.2 == (1 : Int))) && (q61.2 == (1 : Int))) && (q65.2 == (1 : Int))) with hb104 | hb104
                  · skip
                    refine st_move hf (wantY hf rfl rfl hb104) rfl (by decide) ?_
                    clear hf; intro a ha hf; clear ha
                    refine st_ieql hf (by decide) (wantY hf rfl rfl hb104) rfl rfl ?_
                    clear hf; intro a ha hf; clear ha
                    refine st_pick (v := .bool (q78.2 == (1 : Int))) hf rfl rfl (fun hb' => ?_) (fun hb' => ?_) (by decide) ?_
                    · rfl
                    · exact absurd (hb104.symm.trans hb') (by decide)
                    clear hf; intro a ha hf; clear ha
                    refine st_nil hf (th_n ?_)
                    exact ⟨hf.sub ⟨rfl, (by rw [hb104]; rfl), trivial⟩, hp⟩
                  · skip
                    refine st_skip hf (wantN hf rfl rfl hb104) rfl (by decide) ?_ rfl
                    clear hf; intro a hf
                    refine st_skip hf (wantN hf rfl rfl hb104) rfl (by decide) ?_ rfl
                    clear hf; intro a hf
                    refine st_pick (v := .bool false) hf rfl rfl (fun hb' => ?_) (fun hb' => ?_) (by decide) ?_
                    · exact absurd (hb104.symm.trans hb') (by decide)
                    · rfl
                    clear hf; intro a ha hf; clear ha
                    refine st_nil hf (th_n ?_)
                    exact ⟨hf.sub ⟨rfl, (by rw [hb104]; rfl), trivial⟩, hp⟩
                · rintro a w ⟨hf, hp⟩
                  refine st_move hf rfl rfl (by decide) ?_
                  clear hf; intro a ha hf; clear ha
                  refine wpList_cut 3 (fun a w => Fr 97 a [(96, .bool (((((((((q4.2 == (0 : Int)) && (q16.2 == (1 : Int))) && (q28.2 == (0 : Int))) && (q40.2 == (1 : Int))) && (q52.2 == (1 : Int))) && (q61.2 == (1 : Int))) && (q65.2 == (1 : Int))) && (q78.2 == (1 : Int))) && (q87.2 == (0 : Int))))] ∧ Hp S w0 w (Res.sl Ek.c128 36 v89 q87.1 :: Res.rows (RowK.sl Ek.c128 36) 24 v75 ([v70, v73]) ([(mk0 (40000 : Int) (Fl.bits 0, Fl.bits 0)), (mk0 (40000 : Int) (Fl.bits 0, Fl.bits 0))]) :: Res.sl Ek.c128 36 v85 q78.1 :: Res.sl Ek.c128 36 v67 q65.1 :: Res.sl Ek.c128 36 v63 q61.1 :: Res.sl Ek.f64 37 v50 (List.replicate ((3 : Int)).toNat (Fl.bits 0)) :: Res.sl Ek.c128 36 v59 q52.1 :: Res.sl Ek.c128 36 v38 (mk0 (32769 : Int) (Fl.bits 0, Fl.bits 0)) :: Res.sl Ek.f64 37 v47 q40.1 :: Res.sl Ek.c128 36 v26 (mk0 (32768 : Int) (Fl.bits 0, Fl.bits 0)) :: Res.sl Ek.f64 37 v35 q28.1 :: Res.sl Ek.c128 36 v14 (mk0 (65537 : Int) (Fl.bits 0, Fl.bits 0)) :: Res.sl Ek.c128 36 v23 q16.1 :: Res.sl Ek.c128 36 v2 (mk0 (65536 : Int) (Fl.bits 0, Fl.bits 0)) :: Res.sl Ek.c128 36 v11 q4.1 :: ow)) ?_ ?_
                  · rcases Bool.eq_false_or_eq_true ((((((((q4.2 == (0 : Int)) && (q16.2 == (1 : Int))) && (q28.2 == (0 : Int))) && (q40.2 == (1 : Int))) && (q52.2 == (1 : Int))) && (q61.2 == (1 : Int))) && (q65.2 == (1 : Int))) && (q78.2 == (1 : Int))) with hb106 | hb106
                    · skip
                      refine st_move hf (wantY hf rfl rfl hb106) rfl (by decide) ?_
                      clear hf; intro a ha hf; clear ha
                      refine st_ieql hf (by decide) (wantY hf rfl rfl hb106) rfl rfl ?_
                      clear hf; intro a ha hf; clear ha
                      refine st_pick (v := .bool (q87.2 == (0 : Int))) hf rfl rfl (fun hb' => ?_) (fun hb' => ?_) (by decide) ?_
                      · rfl
                      · exact absurd (hb106.symm.trans hb') (by decide)
                      clear hf; intro a ha hf; clear ha
                      refine st_nil hf (th_n ?_)
                      exact ⟨hf.sub ⟨(by rw [hb106]; rfl), trivial⟩, hp⟩
                    · skip
                      refine st_skip hf (wantN hf rfl rfl hb106) rfl (by decide) ?_ rfl
                      clear hf; intro a hf
                      refine st_skip hf (wantN hf rfl rfl hb106) rfl (by decide) ?_ rfl
                      clear hf; intro a hf
                      refine st_pick (v := .bool false) hf rfl rfl (fun hb' => ?_) (fun hb' => ?_) (by decide) ?_
                      · exact absurd (hb106.symm.trans hb') (by decide)
                      · rfl
                      clear hf; intro a ha hf; clear ha
                      refine st_nil hf (th_n ?_)
                      exact ⟨hf.sub ⟨(by rw [hb106]; rfl), trivial⟩, hp⟩
                  · rintro a w ⟨hf, hp⟩
                    refine st_assign hf rfl rfl (by decide) ?_
                    clear hf; intro a ha hf; clear ha
                    refine st_nil hf ?_
                    refine th_n ?_
                    refine wp_ret ?_
                    obtain rfl := Option.some.inj h
                    have hp : Hp _ _ w (ow) := Hp.sel (pre := [Res.sl Ek.c128 36 v89 q87.1, Res.rows (RowK.sl Ek.c128 36) 24 v75 ([v70, v73]) ([(mk0 (40000 : Int) (Fl.bits 0, Fl.bits 0)), (mk0 (40000 : Int) (Fl.bits 0, Fl.bits 0))]), Res.sl Ek.c128 36 v85 q78.1, Res.sl Ek.c128 36 v67 q65.1, Res.sl Ek.c128 36 v63 q61.1, Res.sl Ek.f64 37 v50 (List.replicate ((3 : Int)).toNat (Fl.bits 0)), Res.sl Ek.c128 36 v59 q52.1, Res.sl Ek.c128 36 v38 (mk0 (32769 : Int) (Fl.bits 0, Fl.bits 0)), Res.sl Ek.f64 37 v47 q40.1, Res.sl Ek.c128 36 v26 (mk0 (32768 : Int) (Fl.bits 0, Fl.bits 0)), Res.sl Ek.f64 37 v35 q28.1, Res.sl Ek.c128 36 v14 (mk0 (65537 : Int) (Fl.bits 0, Fl.bits 0)), Res.sl Ek.c128 36 v23 q16.1, Res.sl Ek.c128 36 v2 (mk0 (65536 : Int) (Fl.bits 0, Fl.bits 0)), Res.sl Ek.c128 36 v11 q4.1]) (tail := ow) (rs' := []) hp [] (by decide) (by simp) rfl
                    exact ⟨rfl, ⟨hf.sub ⟨rfl, trivial⟩, hp⟩⟩

noncomputable def f_foghornref08_Share.s1c (l0 : (List (Fl × Fl))) (from1 : Int) (step2 : Int) (out8 : (List (Fl × Fl))) (i9 : Int) : Option (((List (Fl × Fl)) × Int) ⊕ (List (Fl × Fl))) := (if (decide (i9 < (l0.length : Int))) = true then (if step2 ≠ 0 then (if (((i9).tmod step2) == from1) = true then (if 0 ≤ i9 ∧ i9 < (l0.length : Int) then (if (out8.length + ([(gt l0 i9)]).length) * 16 ≤ 140737488355328 then (some (Sum.inl ((out8 ++ [(gt l0 i9)]), (IntKind.i64.wrap (i9 + (1 : Int)))))) else none) else none) else (some (Sum.inl (out8, (IntKind.i64.wrap (i9 + (1 : Int))))))) else none) else (some (Sum.inr out8)))
noncomputable def f_foghornref08_Share.s1 (l0 : (List (Fl × Fl))) (from1 : Int) (step2 : Int) (s : ((List (Fl × Fl)) × Int)) : Option (((List (Fl × Fl)) × Int) ⊕ (List (Fl × Fl))) := f_foghornref08_Share.s1c l0 from1 step2 s.1 s.2
noncomputable def f_foghornref08_Share (l0 : (List (Fl × Fl))) (from1 : Int) (step2 : Int) : Option ((List (Fl × Fl)) × Int) := (if (((((decide ((65536 : Int) < (l0.length : Int))) || (decide (step2 < (1 : Int)))) || (decide ((65536 : Int) < step2))) || (decide (from1 < (0 : Int)))) || (decide (step2 ≤ from1))) = true then (some ([], (1 : Int))) else ((loop (f_foghornref08_Share.s1 l0 from1 step2) ([], (0 : Int))).bind (fun q24 => (some (q24, (0 : Int))))))
theorem f_foghornref08_Share_c {S : Nat → Prop} {w0 w : World} {ow : List Res} (hp : Hp S w0 w ow) (vl0 : Value) (l0 : (List (Fl × Fl))) (hl0 : RdS Ek.c128 S w0 vl0 l0) (from1 : Int) (step2 : Int) {r : ((List (Fl × Fl)) × Int)} (h : f_foghornref08_Share l0 from1 step2 = some r) :
    Calls Try.prog 10 #[vl0, .int .i64 from1, .int .i64 step2] w (fun e w' => ∃ (u0 : Value), e = .returned (.tuple #[u0, .int .i64 r.2]) ∧ Hp S w0 w' (Res.sl Ek.c128 36 u0 r.1 :: ow)) := by
  unfold f_foghornref08_Share at h
  refine enter (n := 49) (args := [vl0, .int .i64 from1, .int .i64 step2]) Try.func10 rfl rfl (Nat.le_of_ble_eq_true rfl) fun a hf => ?_
  replace hf : Fr 49 a [(0, vl0), (1, .int .i64 from1), (2, .int .i64 step2)] := hf
  refine wp_mono (Q := fun e a w => e = .ret ∧ ∃ (u0 : Value), Fr 49 a [(6, u0), (7, .int .i64 r.2)] ∧ Hp S w0 w (Res.sl Ek.c128 36 u0 r.1 :: ow)) ?_ ?_
  rotate_left
  · rintro e a w ⟨rfl, x0, hf, hp⟩
    exact ret2 hf rfl rfl rfl ⟨x0, rfl, hp⟩
  refine wp_seq ?_
  refine wp_reg ?_
  refine st_assign hf rfl rfl (by decide) ?_
  clear hf; intro a ha hf; clear ha
  refine st_assign hf rfl rfl (by decide) ?_
  clear hf; intro a ha hf; clear ha
  refine st_nil hf ?_
  refine th_n ?_
  refine wp_seq ?_
  refine wp_seq ?_
  refine wp_reg ?_
  refine st_move hf rfl rfl (by decide) ?_
  clear hf; intro a ha hf; clear ha
  refine st_len (E := Ek.c128) hf (by decide) Try.underlying24 rfl rfl (hl0.sl hp) ?_
  clear hf; intro a ha hf; clear ha
  refine st_igtr hf (by decide) rfl rfl rfl ?_
  clear hf; intro a ha hf; clear ha
  refine st_move hf rfl rfl (by decide) ?_
  clear hf; intro a ha hf; clear ha
  refine wpList_cut 3 (fun a w => Fr 49 a [(0, vl0), (1, .int .i64 from1), (2, .int .i64 step2), (16, .bool ((decide ((65536 : Int) < (l0.length : Int))) || (decide (step2 < (1 : Int)))))] ∧ Hp S w0 w (ow)) ?_ ?_
  · rcases Bool.eq_false_or_eq_true (decide ((65536 : Int) < (l0.length : Int))) with hb2 | hb2
    · skip
      refine st_skip hf (wantN hf rfl rfl hb2) rfl (by decide) ?_ rfl
      clear hf; intro a hf
      refine st_skip hf (wantN hf rfl rfl hb2) rfl (by decide) ?_ rfl
      clear hf; intro a hf
      refine st_pick (v := .bool true) hf rfl rfl (fun hb' => ?_) (fun hb' => ?_) (by decide) ?_
      · rfl
      · exact absurd (hb2.symm.trans hb') (by decide)
      clear hf; intro a ha hf; clear ha
      refine st_nil hf (th_n ?_)
      exact ⟨hf.sub ⟨rfl, rfl, rfl, (by rw [hb2]; rfl), trivial⟩, hp⟩
    · skip
      refine st_move hf (wantY hf rfl rfl hb2) rfl (by decide) ?_
      clear hf; intro a ha hf; clear ha
      refine st_ilss hf (by decide) (wantY hf rfl rfl hb2) rfl rfl ?_
      clear hf; intro a ha hf; clear ha
      refine st_pick (v := .bool (decide (step2 < (1 : Int)))) hf rfl rfl (fun hb' => ?_) (fun hb' => ?_) (by decide) ?_
      · exact absurd (hb2.symm.trans hb') (by decide)
      · rfl
      clear hf; intro a ha hf; clear ha
      refine st_nil hf (th_n ?_)
      exact ⟨hf.sub ⟨rfl, rfl, rfl, (by rw [hb2]; rfl), trivial⟩, hp⟩
  · rintro a w ⟨hf, hp⟩
    refine st_move hf rfl rfl (by decide) ?_
    clear hf; intro a ha hf; clear ha
    refine wpList_cut 3 (fun a w => Fr 49 a [(0, vl0), (1, .int .i64 from1), (2, .int .i64 step2), (20, .bool (((decide ((65536 : Int) < (l0.length : Int))) || (decide (step2 < (1 : Int)))) || (decide ((65536 : Int) < step2))))] ∧ Hp S w0 w (ow)) ?_ ?_
    · rcases Bool.eq_false_or_eq_true ((decide ((65536 : Int) < (l0.length : Int))) || (decide (step2 < (1 : Int)))) with hb4 | hb4
      · skip
        refine st_skip hf (wantN hf rfl rfl hb4) rfl (by decide) ?_ rfl
        clear hf; intro a hf
        refine st_skip hf (wantN hf rfl rfl hb4) rfl (by decide) ?_ rfl
        clear hf; intro a hf
        refine st_pick (v := .bool true) hf rfl rfl (fun hb' => ?_) (fun hb' => ?_) (by decide) ?_
        · rfl
        · exact absurd (hb4.symm.trans hb') (by decide)
        clear hf; intro a ha hf; clear ha
        refine st_nil hf (th_n ?_)
        exact ⟨hf.sub ⟨rfl, rfl, rfl, (by rw [hb4]; rfl), trivial⟩, hp⟩
      · skip
        refine st_move hf (wantY hf rfl rfl hb4) rfl (by decide) ?_
        clear hf; intro a ha hf; clear ha
        refine st_igtr hf (by decide) (wantY hf rfl rfl hb4) rfl rfl ?_
        clear hf; intro a ha hf; clear ha
        refine st_pick (v := .bool (decide ((65536 : Int) < step2))) hf rfl rfl (fun hb' => ?_) (fun hb' => ?_) (by decide) ?_
        · exact absurd (hb4.symm.trans hb') (by decide)
        · rfl
        clear hf; intro a ha hf; clear ha
        refine st_nil hf (th_n ?_)
        exact ⟨hf.sub ⟨rfl, rfl, rfl, (by rw [hb4]; rfl), trivial⟩, hp⟩
    · rintro a w ⟨hf, hp⟩
      refine st_move hf rfl rfl (by decide) ?_
      clear hf; intro a ha hf; clear ha
      refine wpList_cut 3 (fun a w => Fr 49 a [(0, vl0), (1, .int .i64 from1), (2, .int .i64 step2), (24, .bool ((((decide ((65536 : Int) < (l0.length : Int))) || (decide (step2 < (1 : Int)))) || (decide ((65536 : Int) < step2))) || (decide (from1 < (0 : Int)))))] ∧ Hp S w0 w (ow)) ?_ ?_
      · rcases Bool.eq_false_or_eq_true (((decide ((65536 : Int) < (l0.length : Int))) || (decide (step2 < (1 : Int)))) || (decide ((65536 : Int) < step2))) with hb6 | hb6
        · skip
          refine st_skip hf (wantN hf rfl rfl hb6) rfl (by decide) ?_ rfl
          clear hf; intro a hf
          refine st_skip hf (wantN hf rfl rfl hb6) rfl (by decide) ?_ rfl
          clear hf; intro a hf
          refine st_pick (v := .bool true) hf rfl rfl (fun hb' => ?_) (fun hb' => ?_) (by decide) ?_
          · rfl
          · exact absurd (hb6.symm.trans hb') (by decide)
          clear hf; intro a ha hf; clear ha
          refine st_nil hf (th_n ?_)
          exact ⟨hf.sub ⟨rfl, rfl, rfl, (by rw [hb6]; rfl), trivial⟩, hp⟩
        · skip
          refine st_move hf (wantY hf rfl rfl hb6) rfl (by decide) ?_
          clear hf; intro a ha hf; clear ha
          refine st_ilss hf (by decide) (wantY hf rfl rfl hb6) rfl rfl ?_
          clear hf; intro a ha hf; clear ha
          refine st_pick (v := .bool (decide (from1 < (0 : Int)))) hf rfl rfl (fun hb' => ?_) (fun hb' => ?_) (by decide) ?_
          · exact absurd (hb6.symm.trans hb') (by decide)
          · rfl
          clear hf; intro a ha hf; clear ha
          refine st_nil hf (th_n ?_)
          exact ⟨hf.sub ⟨rfl, rfl, rfl, (by rw [hb6]; rfl), trivial⟩, hp⟩
      · rintro a w ⟨hf, hp⟩
        refine st_move hf rfl rfl (by decide) ?_
        clear hf; intro a ha hf; clear ha
        refine wpList_cut 4 (fun a w => Fr 49 a [(0, vl0), (1, .int .i64 from1), (2, .int .i64 step2), (29, .bool (((((decide ((65536 : Int) < (l0.length : Int))) || (decide (step2 < (1 : Int)))) || (decide ((65536 : Int) < step2))) || (decide (from1 < (0 : Int)))) || (decide (step2 ≤ from1))))] ∧ Hp S w0 w (ow)) ?_ ?_
        · rcases Bool.eq_false_or_eq_true ((((decide ((65536 : Int) < (l0.length : Int))) || (decide (step2 < (1 : Int)))) || (decide ((65536 : Int) < step2))) || (decide (from1 < (0 : Int)))) with hb8 | hb8
          · skip
            refine st_skip hf (wantN hf rfl rfl hb8) rfl (by decide) ?_ rfl
            clear hf; intro a hf
            refine st_skip hf (wantN hf rfl rfl hb8) rfl (by decide) ?_ rfl
            clear hf; intro a hf
            refine st_skip hf (wantN hf rfl rfl hb8) rfl (by decide) ?_ rfl
            clear hf; intro a hf
            refine st_pick (v := .bool true) hf rfl rfl (fun hb' => ?_) (fun hb' => ?_) (by decide) ?_
            · rfl
            · exact absurd (hb8.symm.trans hb') (by decide)
            clear hf; intro a ha hf; clear ha
            refine st_nil hf (th_n ?_)
            exact ⟨hf.sub ⟨rfl, rfl, rfl, (by rw [hb8]; rfl), trivial⟩, hp⟩
          · skip
            refine st_move hf (wantY hf rfl rfl hb8) rfl (by decide) ?_
            clear hf; intro a ha hf; clear ha
            refine st_move hf (wantY hf rfl rfl hb8) rfl (by decide) ?_
            clear hf; intro a ha hf; clear ha
            refine st_igeq hf (by decide) (wantY hf rfl rfl hb8) rfl rfl ?_
            clear hf; intro a ha hf; clear ha
            refine st_pick (v := .bool (decide (step2 ≤ from1))) hf rfl rfl (fun hb' => ?_) (fun hb' => ?_) (by decide) ?_
            · exact absurd (hb8.symm.trans hb') (by decide)
            · rfl
            clear hf; intro a ha hf; clear ha
            refine st_nil hf (th_n ?_)
            exact ⟨hf.sub ⟨rfl, rfl, rfl, (by rw [hb8]; rfl), trivial⟩, hp⟩
        · rintro a w ⟨hf, hp⟩
          refine st_nil hf ?_
          refine th_n ?_
          refine wp_if hf rfl (fun hb => ?_) (fun hb => ?_)
          · replace h := ifT h hb
            refine wp_seq ?_
            refine wp_reg ?_
            refine st_assign hf rfl rfl (by decide) ?_
            clear hf; intro a ha hf; clear ha
            refine st_assign hf rfl rfl (by decide) ?_
            clear hf; intro a ha hf; clear ha
            refine st_nil hf ?_
            refine th_n ?_
            refine wp_ret ?_
            refine th_r ?_
            obtain rfl := Option.some.inj h
            have hp := hp.nil Ek.c128 36
            exact ⟨rfl, ⟨_, hf.sub ⟨rfl, rfl, trivial⟩, hp⟩⟩
          · replace h := ifF h hb
            refine wp_skip ?_
            refine th_n ?_
            refine wp_seq ?_
            refine wp_reg ?_
            refine st_assign hf rfl rfl (by decide) ?_
            clear hf; intro a ha hf; clear ha
            refine st_nil hf ?_
            refine th_n ?_
            refine wp_seq ?_
            refine wp_seq ?_
            refine wp_reg ?_
            refine st_assign hf rfl rfl (by decide) ?_
            clear hf; intro a ha hf; clear ha
            refine st_nil hf ?_
            refine th_n ?_
            refine wp_block ?_
            obtain ⟨q24, hl, h⟩ := bnd h
            have hp := hp.nil Ek.c128 36
            refine wp_loop_pure (f := (f_foghornref08_Share.s1 l0 from1 step2)) (s := ([], (0 : Int))) (fun s a w => ∃ (v10 : Value), Fr 49 a [(0, vl0), (1, .int .i64 from1), (2, .int .i64 step2), (8, v10), (9, .int .i64 s.2)] ∧ Hp S w0 w (Res.sl Ek.c128 36 v10 s.1 :: ow)) (fun q e a w => e = .exit 0 ∧ ∃ (v12 : Value), Fr 49 a [(8, v12)] ∧ Hp S w0 w (Res.sl Ek.c128 36 v12 q :: ow)) ?_ hl ⟨_, hf.sub ⟨rfl, rfl, rfl, rfl, rfl, trivial⟩, hp⟩ ?_
            · clear hl hf hp
              intro s x a w h hI
              obtain ⟨out8, i9⟩ := s
              obtain ⟨v10, hf, hp⟩ : ∃ (v10 : Value), Fr 49 a [(0, vl0), (1, .int .i64 from1), (2, .int .i64 step2), (8, v10), (9, .int .i64 i9)] ∧ Hp S w0 w (Res.sl Ek.c128 36 v10 out8 :: ow) := hI
              replace h : f_foghornref08_Share.s1c l0 from1 step2 out8 i9 = some x := h
              unfold f_foghornref08_Share.s1c at h
              refine wp_seq ?_
              refine wp_seq ?_
              refine wp_reg ?_
              refine st_move hf rfl rfl (by decide) ?_
              clear hf; intro a ha hf; clear ha
              refine st_move hf rfl rfl (by decide) ?_
              clear hf; intro a ha hf; clear ha
              refine st_len (E := Ek.c128) hf (by decide) Try.underlying24 rfl rfl (hl0.sl hp) ?_
              clear hf; intro a ha hf; clear ha
              refine st_ilss hf (by decide) rfl rfl rfl ?_
              clear hf; intro a ha hf; clear ha
              refine st_nil hf ?_
              refine th_n ?_
              refine wp_if hf rfl (fun hb => ?_) (fun hb => ?_)
              · replace h := ifT h hb
                refine wp_skip ?_
                refine th_n ?_
                refine wp_seq ?_
                refine wp_block ?_
                refine wp_seq ?_
                refine wp_reg ?_
                refine st_move hf rfl rfl (by decide) ?_
                clear hf; intro a ha hf; clear ha
                refine st_move hf rfl rfl (by decide) ?_
                clear hf; intro a ha hf; clear ha
                obtain ⟨hc14, h⟩ := chk h
                refine st_irem hf (by decide) rfl rfl rfl hc14 ?_
                clear hf; intro a ha hf; clear ha
                refine st_move hf rfl rfl (by decide) ?_
                clear hf; intro a ha hf; clear ha
                refine st_ieql hf (by decide) rfl rfl rfl ?_
                clear hf; intro a ha hf; clear ha
                refine st_nil hf ?_
                refine th_n ?_
                refine wp_if hf rfl (fun hb => ?_) (fun hb => ?_)
                · replace h := ifT h hb
                  refine wp_reg ?_
                  refine st_move hf rfl rfl (by decide) ?_
                  clear hf; intro a ha hf; clear ha
                  refine st_move hf rfl rfl (by decide) ?_
                  clear hf; intro a ha hf; clear ha
                  refine st_move hf rfl rfl (by decide) ?_
                  clear hf; intro a ha hf; clear ha
                  obtain ⟨hc15, h⟩ := chk h
                  refine st_index (E := Ek.c128) hf (by decide) Try.underlying24 elt36 rfl rfl rfl (hl0.sl hp) hc15.1 hc15.2 ?_
                  clear hf; intro a ha hf; clear ha
                  refine st_ldC hf (by decide) pl36 rfl rfl (hl0.sl hp) hc15.1 hc15.2 ?_
                  clear hf; intro a b16 b17 y18 y19 ha hf; clear ha
                  refine st_build (E := Ek.c128) (xs := [(gt l0 i9)]) hf (by decide) elt36 Try.underlying24 hp (vals := #[(0, .complex .f64 b16 b17)]) (cells := #[.complex .f64 b16 b17]) rfl (by simp [hf.ev (x := (Operand.tmp 45)) rfl]) (by decide) (by decide) (z := .complex .f64 0 0) (by kernel_rfl) (by kernel_rfl) rfl (reps_cons (cs := [.complex .f64 b16 b17]) (show Ek.c128.rep [.complex .f64 b16 b17] (gt l0 i9) from ⟨_, _, rfl, y18, y19⟩) (reps_nil _)) ?_
                  clear hf; intro a w v20 hf hp0; clear hp; have hp := hp0; clear hp0
                  replace hp : Hp _ _ w (Res.sl Ek.c128 36 v20 ([(gt l0 i9)]) :: Res.sl Ek.c128 36 v10 out8 :: ow) := hp
                  obtain ⟨hc22, h⟩ := chk h
                  refine st_append (E := Ek.c128) hf (by decide) elt36 Try.underlying24 (by decide) hp (i := 1) rfl rfl rfl rfl (hp.sl (i := 0) rfl) hc22 ?_
                  clear hf; intro a w v23 hf hp0; clear hp; have hp := hp0; clear hp0
                  replace hp : Hp _ _ w (Res.sl Ek.c128 36 v20 ([(gt l0 i9)]) :: Res.sl Ek.c128 36 v23 (out8 ++ [(gt l0 i9)]) :: ow) := hp
                  refine st_assign hf rfl rfl (by decide) ?_
                  clear hf; intro a ha hf; clear ha
                  refine st_nil hf ?_
                  refine ib_n ?_
                  refine th_n ?_
                  refine wp_reg ?_
                  refine st_move hf rfl rfl (by decide) ?_
                  clear hf; intro a ha hf; clear ha
                  refine st_iadd hf (by decide) rfl rfl rfl ?_
                  clear hf; intro a ha hf; clear ha
                  refine st_assign hf rfl rfl (by decide) ?_
                  clear hf; intro a ha hf; clear ha
                  refine st_nil hf ?_
                  obtain rfl := Option.some.inj h
                  have hp : Hp _ _ w (Res.sl Ek.c128 36 v23 (out8 ++ [(gt l0 i9)]) :: ow) := Hp.sel (pre := [Res.sl Ek.c128 36 v20 ([(gt l0 i9)]), Res.sl Ek.c128 36 v23 (out8 ++ [(gt l0 i9)])]) (tail := ow) (rs' := [Res.sl Ek.c128 36 v23 (out8 ++ [(gt l0 i9)])]) hp [1] (by decide) (by simp) rfl
                  exact rnd_l ⟨_, hf.sub ⟨rfl, rfl, rfl, rfl, rfl, trivial⟩, hp⟩
                · replace h := ifF h hb
                  refine wp_skip ?_
                  refine ib_n ?_
                  refine th_n ?_
                  refine wp_reg ?_
                  refine st_move hf rfl rfl (by decide) ?_
                  clear hf; intro a ha hf; clear ha
                  refine st_iadd hf (by decide) rfl rfl rfl ?_
                  clear hf; intro a ha hf; clear ha
                  refine st_assign hf rfl rfl (by decide) ?_
                  clear hf; intro a ha hf; clear ha
                  refine st_nil hf ?_
                  obtain rfl := Option.some.inj h
                  exact rnd_l ⟨_, hf.sub ⟨rfl, rfl, rfl, rfl, rfl, trivial⟩, hp⟩
              · replace h := ifF h hb
                refine wp_exit ?_
                refine th_e ?_
                obtain rfl := Option.some.inj h
                exact rnd_r (by simp) ⟨rfl, _, hf.sub ⟨rfl, trivial⟩, hp⟩
            · clear hl hf hp
              intro e a w hne hO
              obtain ⟨rfl, v12, hf, hp⟩ := hO
              refine ib_same ?_
              refine th_n ?_
              refine wp_seq ?_
              refine wp_reg ?_
              refine st_move hf rfl rfl (by decide) ?_
              clear hf; intro a ha hf; clear ha
              refine st_assign hf rfl rfl (by decide) ?_
              clear hf; intro a ha hf; clear ha
              refine st_assign hf rfl rfl (by decide) ?_
              clear hf; intro a ha hf; clear ha
              refine st_nil hf ?_
              refine th_n ?_
              refine wp_ret ?_
              obtain rfl := Option.some.inj h
              exact ⟨rfl, ⟨_, hf.sub ⟨rfl, rfl, trivial⟩, hp⟩⟩

noncomputable def f_foghornlaw08_fresh.s1c (one0 : (List (Fl × Fl))) (i7 : Int) : Option (((List (Fl × Fl)) × Int) ⊕ (List (Fl × Fl))) := (if (decide (i7 < (one0.length : Int))) = true then (if 0 ≤ i7 ∧ i7 < (one0.length : Int) then (some (Sum.inl ((one0.set (i7).toNat (Fl.bits 4617315517961601024, Fl.bits 0)), (IntKind.i64.wrap (i7 + (1 : Int)))))) else none) else (some (Sum.inr one0)))
noncomputable def f_foghornlaw08_fresh.s1  (s : ((List (Fl × Fl)) × Int)) : Option (((List (Fl × Fl)) × Int) ⊕ (List (Fl × Fl))) := f_foghornlaw08_fresh.s1c s.1 s.2
noncomputable def f_foghornlaw08_fresh.s2c (one0 : (List (Fl × Fl))) (k8 : Int) : Option (((List (Fl × Fl)) × Int) ⊕ (List (Fl × Fl))) := (if (decide (k8 < (20 : Int))) = true then (if (one0.length + ([(Fl.bits 4618441417868443648, Fl.bits 0)]).length) * 16 ≤ 140737488355328 then (some (Sum.inl ((one0 ++ [(Fl.bits 4618441417868443648, Fl.bits 0)]), (IntKind.i64.wrap (k8 + (1 : Int)))))) else none) else (some (Sum.inr one0)))
noncomputable def f_foghornlaw08_fresh.s2  (s : ((List (Fl × Fl)) × Int)) : Option (((List (Fl × Fl)) × Int) ⊕ (List (Fl × Fl))) := f_foghornlaw08_fresh.s2c s.1 s.2
noncomputable def f_foghornlaw08_fresh (one0 : (List (Fl × Fl))) (two1 : (List (Fl × Fl))) (want2 : (List (Fl × Fl))) : Option Bool := ((f_foghornref08_Same one0 want2).bind fun q2 => ((if (!q2) = true then (some true) else ((f_foghornref08_Same two1 want2).bind fun q12 => (some (!q12)))).bind fun z11 => (if z11 = true then (some false) else ((loop f_foghornlaw08_fresh.s1 (one0, (0 : Int))).bind (fun q19 => ((loop f_foghornlaw08_fresh.s2 (q19, (0 : Int))).bind (fun q28 => ((f_foghornref08_Same two1 want2).bind fun q29 => (some (q29 && ((q28.length : Int) == (IntKind.i64.wrap ((want2.length : Int) + (20 : Int))))))))))))))
theorem f_foghornlaw08_fresh_c {S : Nat → Prop} {w0 w : World} {ow : List Res} (vone0 : Value) (one0 : (List (Fl × Fl))) (vtwo1 : Value) (two1 : (List (Fl × Fl))) (htwo1 : RdS Ek.c128 S w0 vtwo1 two1) (vwant2 : Value) (want2 : (List (Fl × Fl))) (hwant2 : RdS Ek.c128 S w0 vwant2 want2) (hp : Hp S w0 w (Res.sl Ek.c128 36 vone0 one0 :: ow)) {r : Bool} (h : f_foghornlaw08_fresh one0 two1 want2 = some r) :
    Calls Try.prog 12 #[vone0, vtwo1, vwant2] w (fun e w' => e = .returned (.bool r) ∧ Hp S w0 w' (ow)) := by
  unfold f_foghornlaw08_fresh at h
  refine enter (n := 46) (args := [vone0, vtwo1, vwant2]) Try.func12 rfl rfl (Nat.le_of_ble_eq_true rfl) fun a hf => ?_
  replace hf : Fr 46 a [(0, vone0), (1, vtwo1), (2, vwant2)] := hf
  refine wp_mono (Q := fun e a w => e = .ret ∧ Fr 46 a [(6, .bool r)] ∧ Hp S w0 w (ow)) ?_ ?_
  rotate_left
  · rintro e a w ⟨rfl, hf, hp⟩
    exact ret1 hf rfl rfl ⟨rfl, hp⟩
  refine wp_seq ?_
  refine wp_reg ?_
  refine st_assign hf rfl rfl (by decide) ?_
  clear hf; intro a ha hf; clear ha
  refine st_nil hf ?_
  refine th_n ?_
  refine wp_seq ?_
  refine wp_seq ?_
  refine wp_reg ?_
  refine st_move hf rfl rfl (by decide) ?_
  clear hf; intro a ha hf; clear ha
  refine st_move hf rfl rfl (by decide) ?_
  clear hf; intro a ha hf; clear ha
  obtain ⟨q2, hcall3, h⟩ := bnd h
  obtain ⟨S4, hp5, rd6, up7, bk8⟩ := Hp.lendS hp (i := 0) rfl
  refine st_call hf (by decide) Try.func33 rfl rfl rfl rfl rfl (f_foghornref08_Same_c hp5 _ _ rd6 _ _ ((hwant2.now hp).mono up7) hcall3) ?_
  rintro _ w ⟨rfl, hp0⟩
  have hp0 := bk8 _ _ hp0
  clear hp; have hp := hp0; clear hp0
  replace hp : Hp _ _ w (Res.sl Ek.c128 36 vone0 one0 :: ow) := hp
  refine ⟨_, rfl, ?_⟩
  clear hf; intro a hf
  refine st_not hf (by decide) rfl rfl ?_
  clear hf; intro a ha hf; clear ha
  refine st_move hf rfl rfl (by decide) ?_
  clear hf; intro a ha hf; clear ha
  obtain ⟨z11, hz9, h⟩ := bnd h
  refine wpList_cut 5 (fun a w => Fr 46 a [(0, vone0), (1, vtwo1), (2, vwant2), (18, .bool z11)] ∧ Hp S w0 w (Res.sl Ek.c128 36 vone0 one0 :: ow)) ?_ ?_
  · rcases Bool.eq_false_or_eq_true (!q2) with hb10 | hb10
    · skip
      replace hz9 := ifT hz9 hb10
      refine st_skip hf (wantN hf rfl rfl hb10) rfl (by decide) ?_ rfl
      clear hf; intro a hf
      refine st_skip hf (wantN hf rfl rfl hb10) rfl (by decide) ?_ rfl
      clear hf; intro a hf
      refine st_skip hf (wantN hf rfl rfl hb10) rfl (by decide) ?_ rfl
      clear hf; intro a hf
      refine st_skip hf (wantN hf rfl rfl hb10) rfl (by decide) ?_ rfl
      clear hf; intro a hf
      obtain rfl := Option.some.inj hz9
      refine st_pick (v := .bool true) hf rfl rfl (fun hb' => ?_) (fun hb' => ?_) (by decide) ?_
      · rfl
      · exact absurd (hb10.symm.trans hb') (by decide)
      clear hf; intro a ha hf; clear ha
      refine st_nil hf (th_n ?_)
      exact ⟨hf.sub ⟨rfl, rfl, rfl, rfl, trivial⟩, hp⟩
    · skip
      replace hz9 := ifF hz9 hb10
      refine st_move hf (wantY hf rfl rfl hb10) rfl (by decide) ?_
      clear hf; intro a ha hf; clear ha
      refine st_move hf (wantY hf rfl rfl hb10) rfl (by decide) ?_
      clear hf; intro a ha hf; clear ha
      obtain ⟨q12, hcall13, hz9⟩ := bnd hz9
      refine st_call hf (by decide) Try.func33 rfl rfl (wantY hf rfl rfl hb10) rfl rfl (f_foghornref08_Same_c hp _ _ htwo1 _ _ hwant2 hcall13) ?_
      rintro _ w ⟨rfl, hp0⟩
      clear hp; have hp := hp0; clear hp0
      replace hp : Hp _ _ w (Res.sl Ek.c128 36 vone0 one0 :: ow) := hp
      refine ⟨_, rfl, ?_⟩
      clear hf; intro a hf
      refine st_not hf (by decide) (wantY hf rfl rfl hb10) rfl ?_
      clear hf; intro a ha hf; clear ha
      obtain rfl := Option.some.inj hz9
      refine st_pick (v := .bool (!q12)) hf rfl rfl (fun hb' => ?_) (fun hb' => ?_) (by decide) ?_
      · exact absurd (hb10.symm.trans hb') (by decide)
      · rfl
      clear hf; intro a ha hf; clear ha
      refine st_nil hf (th_n ?_)
      exact ⟨hf.sub ⟨rfl, rfl, rfl, rfl, trivial⟩, hp⟩
  · rintro a w ⟨hf, hp⟩
    refine st_nil hf ?_
    refine th_n ?_
    refine wp_if hf rfl (fun hb => ?_) (fun hb => ?_)
    · replace h := ifT h hb
      refine wp_seq ?_
      refine wp_reg ?_
      refine st_assign hf rfl rfl (by decide) ?_
      clear hf; intro a ha hf; clear ha
      refine st_nil hf ?_
      refine th_n ?_
      refine wp_ret ?_
      refine th_r ?_
      obtain rfl := Option.some.inj h
      have hp : Hp _ _ w (ow) := Hp.sel (pre := [Res.sl Ek.c128 36 vone0 one0]) (tail := ow) (rs' := []) hp [] (by decide) (by simp) rfl
      exact ⟨rfl, ⟨hf.sub ⟨rfl, trivial⟩, hp⟩⟩
    · replace h := ifF h hb
      refine wp_skip ?_
      refine th_n ?_
      refine wp_seq ?_
      refine wp_seq ?_
      refine wp_reg ?_
      refine st_assign hf rfl rfl (by decide) ?_
      clear hf; intro a ha hf; clear ha
      refine st_nil hf ?_
      refine th_n ?_
      refine wp_block ?_
      obtain ⟨q19, hl, h⟩ := bnd h
      refine wp_loop_pure (f := f_foghornlaw08_fresh.s1) (s := (one0, (0 : Int))) (fun s a w => ∃ (v14 : Value), Fr 46 a [(0, v14), (1, vtwo1), (2, vwant2), (7, .int .i64 s.2)] ∧ Hp S w0 w (Res.sl Ek.c128 36 v14 s.1 :: ow)) (fun q e a w => e = .exit 0 ∧ ∃ (v16 : Value), Fr 46 a [(0, v16), (1, vtwo1), (2, vwant2)] ∧ Hp S w0 w (Res.sl Ek.c128 36 v16 q :: ow)) ?_ hl ⟨_, hf.sub ⟨rfl, rfl, rfl, rfl, trivial⟩, hp⟩ ?_
      · clear hl hf hp
        intro s x a w h hI
        obtain ⟨one0, i7⟩ := s
        obtain ⟨v14, hf, hp⟩ : ∃ (v14 : Value), Fr 46 a [(0, v14), (1, vtwo1), (2, vwant2), (7, .int .i64 i7)] ∧ Hp S w0 w (Res.sl Ek.c128 36 v14 one0 :: ow) := hI
        replace h : f_foghornlaw08_fresh.s1c one0 i7 = some x := h
        unfold f_foghornlaw08_fresh.s1c at h
        refine wp_seq ?_
        refine wp_seq ?_
        refine wp_reg ?_
        refine st_move hf rfl rfl (by decide) ?_
        clear hf; intro a ha hf; clear ha
        refine st_move hf rfl rfl (by decide) ?_
        clear hf; intro a ha hf; clear ha
        refine st_len (E := Ek.c128) hf (by decide) Try.underlying24 rfl rfl (hp.sl (i := 0) rfl) ?_
        clear hf; intro a ha hf; clear ha
        refine st_ilss hf (by decide) rfl rfl rfl ?_
        clear hf; intro a ha hf; clear ha
        refine st_nil hf ?_
        refine th_n ?_
        refine wp_if hf rfl (fun hb => ?_) (fun hb => ?_)
        · replace h := ifT h hb
          refine wp_skip ?_
          refine th_n ?_
          refine wp_seq ?_
          refine wp_block ?_
          refine wp_reg ?_
          refine st_move hf rfl rfl (by decide) ?_
          clear hf; intro a ha hf; clear ha
          refine st_move hf rfl rfl (by decide) ?_
          clear hf; intro a ha hf; clear ha
          obtain ⟨hc18, h⟩ := chk h
          refine st_index (E := Ek.c128) hf (by decide) Try.underlying24 elt36 rfl rfl rfl (hp.sl (i := 0) rfl) hc18.1 hc18.2 ?_
          clear hf; intro a ha hf; clear ha
          refine st_store (E := Ek.c128) hf elt36 hp (i := 0) rfl rfl rfl rfl (show Ek.c128.rep [.complex .f64 4617315517961601024 0] (Fl.bits 4617315517961601024, Fl.bits 0) from ⟨_, _, rfl, rfl, rfl⟩) hc18.1 hc18.2 ?_
          clear hf; intro a w hf hp0; clear hp; have hp := hp0; clear hp0
          replace hp : Hp _ _ w (Res.sl Ek.c128 36 v14 (one0.set (i7).toNat (Fl.bits 4617315517961601024, Fl.bits 0)) :: ow) := hp
          refine st_nil hf ?_
          refine ib_n ?_
          refine th_n ?_
          refine wp_reg ?_
          refine st_move hf rfl rfl (by decide) ?_
          clear hf; intro a ha hf; clear ha
          refine st_iadd hf (by decide) rfl rfl rfl ?_
          clear hf; intro a ha hf; clear ha
          refine st_assign hf rfl rfl (by decide) ?_
          clear hf; intro a ha hf; clear ha
          refine st_nil hf ?_
          obtain rfl := Option.some.inj h
          exact rnd_l ⟨_, hf.sub ⟨rfl, rfl, rfl, rfl, trivial⟩, hp⟩
        · replace h := ifF h hb
          refine wp_exit ?_
          refine th_e ?_
          obtain rfl := Option.some.inj h
          exact rnd_r (by simp) ⟨rfl, _, hf.sub ⟨rfl, rfl, rfl, trivial⟩, hp⟩
      · clear hl hf hp
        intro e a w hne hO
        obtain ⟨rfl, v16, hf, hp⟩ := hO
        refine ib_same ?_
        refine th_n ?_
        refine wp_seq ?_
        refine wp_seq ?_
        refine wp_reg ?_
        refine st_assign hf rfl rfl (by decide) ?_
        clear hf; intro a ha hf; clear ha
        refine st_nil hf ?_
        refine th_n ?_
        refine wp_block ?_
        obtain ⟨q28, hl, h⟩ := bnd h
        refine wp_loop_pure (f := f_foghornlaw08_fresh.s2) (s := (q19, (0 : Int))) (fun s a w => ∃ (v20 : Value), Fr 46 a [(0, v20), (1, vtwo1), (2, vwant2), (8, .int .i64 s.2)] ∧ Hp S w0 w (Res.sl Ek.c128 36 v20 s.1 :: ow)) (fun q e a w => e = .exit 2 ∧ ∃ (v22 : Value), Fr 46 a [(0, v22), (1, vtwo1), (2, vwant2)] ∧ Hp S w0 w (Res.sl Ek.c128 36 v22 q :: ow)) ?_ hl ⟨_, hf.sub ⟨rfl, rfl, rfl, rfl, trivial⟩, hp⟩ ?_
        · clear hl hf hp
          intro s x a w h hI
          obtain ⟨one0, k8⟩ := s
          obtain ⟨v20, hf, hp⟩ : ∃ (v20 : Value), Fr 46 a [(0, v20), (1, vtwo1), (2, vwant2), (8, .int .i64 k8)] ∧ Hp S w0 w (Res.sl Ek.c128 36 v20 one0 :: ow) := hI
          replace h : f_foghornlaw08_fresh.s2c one0 k8 = some x := h
          unfold f_foghornlaw08_fresh.s2c at h
          refine wp_seq ?_
          refine wp_seq ?_
          refine wp_reg ?_
          refine st_move hf rfl rfl (by decide) ?_
          clear hf; intro a ha hf; clear ha
          refine st_ilss hf (by decide) rfl rfl rfl ?_
          clear hf; intro a ha hf; clear ha
          refine st_nil hf ?_
          refine th_n ?_
          refine wp_if hf rfl (fun hb => ?_) (fun hb => ?_)
          · replace h := ifT h hb
            refine wp_skip ?_
            refine th_n ?_
            refine wp_seq ?_
            refine wp_block ?_
            refine wp_reg ?_
            refine st_move hf rfl rfl (by decide) ?_
            clear hf; intro a ha hf; clear ha
            refine st_build (E := Ek.c128) (xs := [(Fl.bits 4618441417868443648, Fl.bits 0)]) hf (by decide) elt36 Try.underlying24 hp (vals := #[(0, .complex .f64 4618441417868443648 0)]) (cells := #[.complex .f64 4618441417868443648 0]) rfl (by simp [hf.ev (x := (Operand.const (.complex .f64 4618441417868443648 0))) rfl]) (by decide) (by decide) (z := .complex .f64 0 0) (by kernel_rfl) (by kernel_rfl) rfl (reps_cons (cs := [.complex .f64 4618441417868443648 0]) (show Ek.c128.rep [.complex .f64 4618441417868443648 0] (Fl.bits 4618441417868443648, Fl.bits 0) from ⟨_, _, rfl, rfl, rfl⟩) (reps_nil _)) ?_
            clear hf; intro a w v24 hf hp0; clear hp; have hp := hp0; clear hp0
            replace hp : Hp _ _ w (Res.sl Ek.c128 36 v24 ([(Fl.bits 4618441417868443648, Fl.bits 0)]) :: Res.sl Ek.c128 36 v20 one0 :: ow) := hp
            obtain ⟨hc26, h⟩ := chk h
            refine st_append (E := Ek.c128) hf (by decide) elt36 Try.underlying24 (by decide) hp (i := 1) rfl rfl rfl rfl (hp.sl (i := 0) rfl) hc26 ?_
            clear hf; intro a w v27 hf hp0; clear hp; have hp := hp0; clear hp0
            replace hp : Hp _ _ w (Res.sl Ek.c128 36 v24 ([(Fl.bits 4618441417868443648, Fl.bits 0)]) :: Res.sl Ek.c128 36 v27 (one0 ++ [(Fl.bits 4618441417868443648, Fl.bits 0)]) :: ow) := hp
            refine st_assign hf rfl rfl (by decide) ?_
            clear hf; intro a ha hf; clear ha
            refine st_nil hf ?_
            refine ib_n ?_
            refine th_n ?_
            refine wp_reg ?_
            refine st_move hf rfl rfl (by decide) ?_
            clear hf; intro a ha hf; clear ha
            refine st_iadd hf (by decide) rfl rfl rfl ?_
            clear hf; intro a ha hf; clear ha
            refine st_assign hf rfl rfl (by decide) ?_
            clear hf; intro a ha hf; clear ha
            refine st_nil hf ?_
            obtain rfl := Option.some.inj h
            have hp : Hp _ _ w (Res.sl Ek.c128 36 v27 (one0 ++ [(Fl.bits 4618441417868443648, Fl.bits 0)]) :: ow) := Hp.sel (pre := [Res.sl Ek.c128 36 v24 ([(Fl.bits 4618441417868443648, Fl.bits 0)]), Res.sl Ek.c128 36 v27 (one0 ++ [(Fl.bits 4618441417868443648, Fl.bits 0)])]) (tail := ow) (rs' := [Res.sl Ek.c128 36 v27 (one0 ++ [(Fl.bits 4618441417868443648, Fl.bits 0)])]) hp [1] (by decide) (by simp) rfl
            exact rnd_l ⟨_, hf.sub ⟨rfl, rfl, rfl, rfl, trivial⟩, hp⟩
          · replace h := ifF h hb
            refine wp_exit ?_
            refine th_e ?_
            obtain rfl := Option.some.inj h
            exact rnd_r (by simp) ⟨rfl, _, hf.sub ⟨rfl, rfl, rfl, trivial⟩, hp⟩
        · clear hl hf hp
          intro e a w hne hO
          obtain ⟨rfl, v22, hf, hp⟩ := hO
          refine ib_same ?_
          refine th_n ?_
          refine wp_seq ?_
          refine wp_reg ?_
          refine st_move hf rfl rfl (by decide) ?_
          clear hf; intro a ha hf; clear ha
          refine st_move hf rfl rfl (by decide) ?_
          clear hf; intro a ha hf; clear ha
          obtain ⟨q29, hcall30, h⟩ := bnd h
          refine st_call hf (by decide) Try.func33 rfl rfl rfl rfl rfl (f_foghornref08_Same_c hp _ _ htwo1 _ _ hwant2 hcall30) ?_
          rintro _ w ⟨rfl, hp0⟩
          clear hp; have hp := hp0; clear hp0
          replace hp : Hp _ _ w (Res.sl Ek.c128 36 v22 q28 :: ow) := hp
          refine ⟨_, rfl, ?_⟩
          clear hf; intro a hf
          refine st_move hf rfl rfl (by decide) ?_
          clear hf; intro a ha hf; clear ha
          refine wpList_cut 7 (fun a w => Fr 46 a [(45, .bool (q29 && ((q28.length : Int) == (IntKind.i64.wrap ((want2.length : Int) + (20 : Int))))))] ∧ Hp S w0 w (Res.sl Ek.c128 36 v22 q28 :: ow)) ?_ ?_
          · rcases Bool.eq_false_or_eq_true q29 with hb32 | hb32
            · skip
              refine st_move hf (wantY hf rfl rfl hb32) rfl (by decide) ?_
              clear hf; intro a ha hf; clear ha
              refine st_len (E := Ek.c128) hf (by decide) Try.underlying24 (wantY hf rfl rfl hb32) rfl (hp.sl (i := 0) rfl) ?_
              clear hf; intro a ha hf; clear ha
              refine st_move hf (wantY hf rfl rfl hb32) rfl (by decide) ?_
              clear hf; intro a ha hf; clear ha
              refine st_len (E := Ek.c128) hf (by decide) Try.underlying24 (wantY hf rfl rfl hb32) rfl (hwant2.sl hp) ?_
              clear hf; intro a ha hf; clear ha
              refine st_iadd hf (by decide) (wantY hf rfl rfl hb32) rfl rfl ?_
              clear hf; intro a ha hf; clear ha
              refine st_ieql hf (by decide) (wantY hf rfl rfl hb32) rfl rfl ?_
              clear hf; intro a ha hf; clear ha
              refine st_pick (v := .bool ((q28.length : Int) == (IntKind.i64.wrap ((want2.length : Int) + (20 : Int))))) hf rfl rfl (fun hb' => ?_) (fun hb' => ?_) (by decide) ?_
              · rfl
              · exact absurd (hb32.symm.trans hb') (by decide)
              clear hf; intro a ha hf; clear ha
              refine st_nil hf (th_n ?_)
              exact ⟨hf.sub ⟨(by rw [hb32]; rfl), trivial⟩, hp⟩
            · skip
              refine st_skip hf (wantN hf rfl rfl hb32) rfl (by decide) ?_ rfl
              clear hf; intro a hf
              refine st_skip hf (wantN hf rfl rfl hb32) rfl (by decide) ?_ rfl
              clear hf; intro a hf
              refine st_skip hf (wantN hf rfl rfl hb32) rfl (by decide) ?_ rfl
              clear hf; intro a hf
              refine st_skip hf (wantN hf rfl rfl hb32) rfl (by decide) ?_ rfl
              clear hf; intro a hf
              refine st_skip hf (wantN hf rfl rfl hb32) rfl (by decide) ?_ rfl
              clear hf; intro a hf
              refine st_skip hf (wantN hf rfl rfl hb32) rfl (by decide) ?_ rfl
              clear hf; intro a hf
              refine st_pick (v := .bool false) hf rfl rfl (fun hb' => ?_) (fun hb' => ?_) (by decide) ?_
              · exact absurd (hb32.symm.trans hb') (by decide)
              · rfl
              clear hf; intro a ha hf; clear ha
              refine st_nil hf (th_n ?_)
              exact ⟨hf.sub ⟨(by rw [hb32]; rfl), trivial⟩, hp⟩
          · rintro a w ⟨hf, hp⟩
            refine st_assign hf rfl rfl (by decide) ?_
            clear hf; intro a ha hf; clear ha
            refine st_nil hf ?_
            refine th_n ?_
            refine wp_ret ?_
            obtain rfl := Option.some.inj h
            have hp : Hp _ _ w (ow) := Hp.sel (pre := [Res.sl Ek.c128 36 v22 q28]) (tail := ow) (rs' := []) hp [] (by decide) (by simp) rfl
            exact ⟨rfl, ⟨hf.sub ⟨rfl, trivial⟩, hp⟩⟩

end Go.Proofs.Ytfppofbdmhihpaa
