/- The functions foghorn foghornlaw21.TrellisWalks: what each answers, as a plain function, and that its call answers it; printed by gen.py. -/
import Derived.Test.YtilodendgbjelaaProg
import Derived.Test.YtilodendgbjelaaGlT
import Derived.KernelRfl
import Derived.Test.YtilodendgbjelaaG4p2
set_option linter.unusedVariables false
set_option linter.unusedSimpArgs false
set_option maxRecDepth 100000
set_option maxHeartbeats 4000000
namespace Go.Proofs.Ytilodendgbjelaa
open GL
noncomputable def f_foghornlaw21_TrellisWalks.s2c (q18 : (Int × Int)) (c3c_0 : Int) (c3c_1 : Int) (c3c_2 : Int) (w7 : (List Int)) (i11 : Int) (q73 : ((Int × Int) × Int)) (k18 : Int) : Option (Int ⊕ (Unit ⊕ Bool)) := (if (decide (k18 < (2 : Int))) = true then (if 0 ≤ k18 ∧ k18 < (2 : Int) then ((f_trellis_Code_Step c3c_0 c3c_1 c3c_2 (gt [q73.1.1, q73.1.2] k18) false).bind fun q134 => (if 0 ≤ k18 ∧ k18 < (2 : Int) then ((f_trellis_Code_Step c3c_0 c3c_1 c3c_2 (gt [q73.1.1, q73.1.2] k18) true).bind fun q150 => ((if ((q134.2.2.2 != (0 : Int)) || (q150.2.2.2 != (0 : Int))) = true then (some true) else (if 0 ≤ (IntKind.i64.wrap (i11 + (1 : Int))) ∧ (IntKind.i64.wrap (i11 + (1 : Int))) < (w7.length : Int) then ((if (q134.1 != (gt w7 (IntKind.i64.wrap (i11 + (1 : Int))))) = true then (if 0 ≤ (IntKind.i64.wrap (i11 + (1 : Int))) ∧ (IntKind.i64.wrap (i11 + (1 : Int))) < (w7.length : Int) then (some (q150.1 != (gt w7 (IntKind.i64.wrap (i11 + (1 : Int)))))) else none) else (some false)).bind fun z160 => (some z160)) else none)).bind fun z156 => (if (((((z156 || (q134.1 == q150.1)) || (decide (q134.1 < (0 : Int)))) || (decide (q18.1 ≤ q134.1))) || (decide (q150.1 < (0 : Int)))) || (decide (q18.1 ≤ q150.1))) = true then (some (Sum.inr (Sum.inr false))) else (some (Sum.inl (IntKind.i64.wrap (k18 + (1 : Int)))))))) else none)) else none) else (some (Sum.inr (Sum.inl ()))))
noncomputable def f_foghornlaw21_TrellisWalks.s2 (q18 : (Int × Int)) (c3c_0 : Int) (c3c_1 : Int) (c3c_2 : Int) (w7 : (List Int)) (i11 : Int) (q73 : ((Int × Int) × Int)) (s : Int) : Option (Int ⊕ (Unit ⊕ Bool)) := f_foghornlaw21_TrellisWalks.s2c q18 c3c_0 c3c_1 c3c_2 w7 i11 q73 s
noncomputable def f_foghornlaw21_TrellisWalks.s1c (x0_A : (List Bool)) (q18 : (Int × Int)) (c3c_0 : Int) (c3c_1 : Int) (c3c_2 : Int) (u5 : (List Bool)) (w7 : (List Int)) (i11 : Int) : Option ((Int × Int × Int × (List Bool) × (List Int) × Int) ⊕ (Unit ⊕ Bool)) := (if (decide ((IntKind.i64.wrap (i11 + (1 : Int))) < (w7.length : Int))) = true then (if 0 ≤ i11 ∧ i11 < (w7.length : Int) then ((if (decide (i11 < (((x0_A.drop 0).take (((imin (x0_A.length : Int) (60 : Int))).toNat - 0)).length : Int))) = true then (if 0 ≤ i11 ∧ i11 < (((x0_A.drop 0).take (((imin (x0_A.length : Int) (60 : Int))).toNat - 0)).length : Int) then (some (gt ((x0_A.drop 0).take (((imin (x0_A.length : Int) (60 : Int))).toNat - 0)) i11)) else none) else (some false)).bind fun z56 => ((f_trellis_Code_Step c3c_0 c3c_1 c3c_2 (gt w7 i11) z56).bind fun q57 => (if 0 ≤ (IntKind.i64.wrap (i11 + (1 : Int))) ∧ (IntKind.i64.wrap (i11 + (1 : Int))) < (w7.length : Int) then ((f_trellis_Code_From c3c_0 c3c_1 c3c_2 (gt w7 (IntKind.i64.wrap (i11 + (1 : Int))))).bind fun q73 => ((if ((q57.2.2.2 != (0 : Int)) || (q73.2 != (0 : Int))) = true then (some true) else (if 0 ≤ (IntKind.i64.wrap (i11 + (1 : Int))) ∧ (IntKind.i64.wrap (i11 + (1 : Int))) < (w7.length : Int) then (some (q57.1 != (gt w7 (IntKind.i64.wrap (i11 + (1 : Int)))))) else none)).bind fun z101 => ((if z101 = true then (some true) else (if 0 ≤ (IntKind.i64.wrap ((2 : Int) * i11)) ∧ (IntKind.i64.wrap ((2 : Int) * i11)) < (u5.length : Int) then (some (q57.2.1 != (gt u5 (IntKind.i64.wrap ((2 : Int) * i11))))) else none)).bind fun z105 => ((if z105 = true then (some true) else (if 0 ≤ (IntKind.i64.wrap ((IntKind.i64.wrap ((2 : Int) * i11)) + (1 : Int))) ∧ (IntKind.i64.wrap ((IntKind.i64.wrap ((2 : Int) * i11)) + (1 : Int))) < (u5.length : Int) then (some (q57.2.2.1 != (gt u5 (IntKind.i64.wrap ((IntKind.i64.wrap ((2 : Int) * i11)) + (1 : Int)))))) else none)).bind fun z109 => ((if (z109 || (decide (q73.1.2 ≤ q73.1.1))) = true then (some true) else (if 0 ≤ i11 ∧ i11 < (w7.length : Int) then ((if (q73.1.1 != (gt w7 i11)) = true then (if 0 ≤ i11 ∧ i11 < (w7.length : Int) then (some (q73.1.2 != (gt w7 i11))) else none) else (some false)).bind fun z118 => (some z118)) else none)).bind fun z119 => (if z119 = true then (some (Sum.inr (Sum.inr false))) else ((loop (f_foghornlaw21_TrellisWalks.s2 q18 c3c_0 c3c_1 c3c_2 w7 i11 q73) (0 : Int)).bind (fun q172 => sm q172 (fun q173 => (some (Sum.inl (c3c_0, c3c_1, c3c_2, u5, w7, (IntKind.i64.wrap (i11 + (1 : Int))))))) (fun q174 => (some (Sum.inr (Sum.inr q174)))))))))))) else none))) else none) else (some (Sum.inr (Sum.inl ()))))
noncomputable def f_foghornlaw21_TrellisWalks.s1 (x0_A : (List Bool)) (q18 : (Int × Int)) (s : (Int × Int × Int × (List Bool) × (List Int) × Int)) : Option ((Int × Int × Int × (List Bool) × (List Int) × Int) ⊕ (Unit ⊕ Bool)) := f_foghornlaw21_TrellisWalks.s1c x0_A q18 s.1 s.2.1 s.2.2.1 s.2.2.2.1 s.2.2.2.2.1 s.2.2.2.2.2
noncomputable def f_foghornlaw21_TrellisWalks (x0_Length : Int) (x0_One : Int) (x0_Two : Int) (x0_Second : Bool) (x0_A : (List Bool)) (x0_B : (List Bool)) (x0_At : Int) : Option Bool := ((f_foghornlaw21_code x0_Length x0_One x0_Two x0_Second).bind fun q3 => (if 0 ≤ (imin (x0_A.length : Int) (60 : Int)) ∧ (imin (x0_A.length : Int) (60 : Int)) ≤ (x0_A.length : Int) then ((f_trellis_Code_Encode q3.1 q3.2.1 q3.2.2 ((x0_A.drop 0).take (((imin (x0_A.length : Int) (60 : Int))).toNat - 0))).bind fun q10 => ((f_trellis_Code_Walk q3.1 q3.2.1 q3.2.2 ((x0_A.drop 0).take (((imin (x0_A.length : Int) (60 : Int))).toNat - 0))).bind fun q14 => ((f_trellis_Code_States q3.1 q3.2.1 q3.2.2).bind fun q18 => ((if ((((q10.2 != (0 : Int)) || (q14.2 != (0 : Int))) || (q18.2 != (0 : Int))) || ((q14.1.length : Int) != (IntKind.i64.wrap ((IntKind.i64.wrap (((q10.1.length : Int)).tdiv (2 : Int))) + (1 : Int))))) = true then (some true) else (if 0 ≤ (0 : Int) ∧ (0 : Int) < (q14.1.length : Int) then (some ((gt q14.1 (0 : Int)) != (0 : Int))) else none)).bind fun z28 => ((if z28 = true then (some true) else (if 0 ≤ (IntKind.i64.wrap ((q14.1.length : Int) - (1 : Int))) ∧ (IntKind.i64.wrap ((q14.1.length : Int) - (1 : Int))) < (q14.1.length : Int) then (some ((gt q14.1 (IntKind.i64.wrap ((q14.1.length : Int) - (1 : Int)))) != (0 : Int))) else none)).bind fun z32 => (if z32 = true then (some false) else ((loop (f_foghornlaw21_TrellisWalks.s1 x0_A q18) (q3.1, q3.2.1, q3.2.2, q10.1, q14.1, (0 : Int))).bind (fun q175 => sm q175 (fun q176 => ((f_foghornlaw21_awake).bind fun q178 => (some q178))) (fun q177 => (some q177)))))))))) else none))
theorem f_foghornlaw21_TrellisWalks_c {S : Nat → Prop} {w0 w : World} {ow : List Res} (hp : Hp S w0 w ow) (x0_Length : Int) (x0_One : Int) (x0_Two : Int) (x0_Second : Bool) (vx0_A : Value) (x0_A : (List Bool)) (hx0_A : RdS Ek.bool S w0 vx0_A x0_A) (vx0_B : Value) (x0_B : (List Bool)) (hx0_B : RdS Ek.bool S w0 vx0_B x0_B) (x0_At : Int) {r : Bool} (h : f_foghornlaw21_TrellisWalks x0_Length x0_One x0_Two x0_Second x0_A x0_B x0_At = some r) :
    Calls Try.prog 4 #[.agg #[.int .u8 x0_Length, .int .u32 x0_One, .int .u32 x0_Two, .bool x0_Second, vx0_A, vx0_B, .int .u16 x0_At]] w (fun e w' => e = .returned (.bool r) ∧ Hp S w0 w' (ow)) := by
  unfold f_foghornlaw21_TrellisWalks at h
  refine enter (n := 263) (args := [.agg #[.int .u8 x0_Length, .int .u32 x0_One, .int .u32 x0_Two, .bool x0_Second, vx0_A, vx0_B, .int .u16 x0_At]]) Try.func4 rfl rfl (Nat.le_of_ble_eq_true rfl) fun a hf => ?_
  replace hf : Fr 263 a [(0, .agg #[.int .u8 x0_Length, .int .u32 x0_One, .int .u32 x0_Two, .bool x0_Second, vx0_A, vx0_B, .int .u16 x0_At])] := hf
  refine wp_mono (Q := fun e a w => e = .ret ∧ Fr 263 a [(2, .bool r)] ∧ Hp S w0 w (ow)) ?_ ?_
  rotate_left
  · rintro e a w ⟨rfl, hf, hp⟩
    exact ret1 hf rfl rfl ⟨rfl, hp⟩
  refine wp_seq ?_
  refine wp_reg ?_
  refine st_boxO (cs := [.int .u8 x0_Length, .int .u32 x0_One, .int .u32 x0_Two, .bool x0_Second, vx0_A, vx0_B, .int .u16 x0_At]) hf (by decide) hp rfl rfl rfl ?_
  clear hf; intro a w v1 hf hp0; clear hp; have hp := hp0; clear hp0
  replace hp : Hp _ _ _ (Res.obj 33 v1 [.int .u8 x0_Length, .int .u32 x0_One, .int .u32 x0_Two, .bool x0_Second, vx0_A, vx0_B, .int .u16 x0_At] :: ow) := hp
  refine st_assign hf rfl rfl (by decide) ?_
  clear hf; intro a ha hf; clear ha
  refine st_nil hf ?_
  refine th_n ?_
  refine wp_seq ?_
  refine wp_reg ?_
  refine st_fa (o' := 0) hf (by decide) (off := 0) (sz := 1) (by kernel_rfl) (by decide) rfl rfl (hp.ob (i := 0) rfl) rfl ?_
  clear hf; intro a ha hf; clear ha
  refine st_ldO (u := .int .u8 x0_Length) hf (by decide) pl5 rfl rfl (hp.ob (i := 0) rfl) rfl ?_
  clear hf; intro a ha hf; clear ha
  refine st_fa (o' := 1) hf (by decide) (off := 1) (sz := 1) (by kernel_rfl) (by decide) rfl rfl (hp.ob (i := 0) rfl) rfl ?_
  clear hf; intro a ha hf; clear ha
  refine st_ldO (u := .int .u32 x0_One) hf (by decide) pl22 rfl rfl (hp.ob (i := 0) rfl) rfl ?_
  clear hf; intro a ha hf; clear ha
  refine st_fa (o' := 2) hf (by decide) (off := 2) (sz := 1) (by kernel_rfl) (by decide) rfl rfl (hp.ob (i := 0) rfl) rfl ?_
  clear hf; intro a ha hf; clear ha
  refine st_ldO (u := .int .u32 x0_Two) hf (by decide) pl22 rfl rfl (hp.ob (i := 0) rfl) rfl ?_
  clear hf; intro a ha hf; clear ha
  refine st_fa (o' := 3) hf (by decide) (off := 3) (sz := 1) (by kernel_rfl) (by decide) rfl rfl (hp.ob (i := 0) rfl) rfl ?_
  clear hf; intro a ha hf; clear ha
  refine st_ldO (u := .bool x0_Second) hf (by decide) pl4 rfl rfl (hp.ob (i := 0) rfl) rfl ?_
  clear hf; intro a ha hf; clear ha
  obtain ⟨q3, hcall4, h⟩ := bnd h
  refine st_call hf (by decide) Try.func12 rfl rfl rfl rfl rfl (f_foghornlaw21_code_c hp _ _ _ _ hcall4) ?_
  rintro _ w ⟨rfl, hp0⟩
  clear hp; have hp := hp0; clear hp0
  replace hp : Hp _ _ _ (Res.obj 33 v1 [.int .u8 x0_Length, .int .u32 x0_One, .int .u32 x0_Two, .bool x0_Second, vx0_A, vx0_B, .int .u16 x0_At] :: ow) := hp
  refine ⟨_, rfl, ?_⟩
  clear hf; intro a hf
  refine st_alloc (cs := [.int .i64 (0 : Int), .int .u32 (0 : Int), .int .u32 (0 : Int)]) (zv := .agg #[.int .i64 (0 : Int), .int .u32 (0 : Int), .int .u32 (0 : Int)]) hf (by decide) (by kernel_rfl) rfl hp rfl ?_
  clear hf; intro a w v5 hf hp0; clear hp; have hp := hp0; clear hp0
  replace hp : Hp _ _ _ (Res.obj 34 v5 [.int .i64 (0 : Int), .int .u32 (0 : Int), .int .u32 (0 : Int)] :: Res.obj 33 v1 [.int .u8 x0_Length, .int .u32 x0_One, .int .u32 x0_Two, .bool x0_Second, vx0_A, vx0_B, .int .u16 x0_At] :: ow) := hp
  refine st_stO (us := [.int .i64 q3.1, .int .u32 q3.2.1, .int .u32 q3.2.2]) hf hp (i := 0) rfl rfl rfl rfl rfl (by rfl) (by kernel_rfl) (Nat.le_of_ble_eq_true rfl) ?_
  clear hf; intro a w hf hp0; clear hp; have hp := hp0; clear hp0
  replace hp : Hp _ _ _ (Res.obj 34 v5 [.int .i64 q3.1, .int .u32 q3.2.1, .int .u32 q3.2.2] :: Res.obj 33 v1 [.int .u8 x0_Length, .int .u32 x0_One, .int .u32 x0_Two, .bool x0_Second, vx0_A, vx0_B, .int .u16 x0_At] :: ow) := hp
  refine st_nil hf ?_
  refine th_n ?_
  refine wp_seq ?_
  refine wp_reg ?_
  refine st_fa (o' := 4) hf (by decide) (off := 4) (sz := 1) (by kernel_rfl) (by decide) rfl rfl (hp.ob (i := 1) rfl) rfl ?_
  clear hf; intro a ha hf; clear ha
  refine st_ldO (u := vx0_A) hf (by decide) pl25 rfl rfl (hp.ob (i := 1) rfl) rfl ?_
  clear hf; intro a ha hf; clear ha
  refine st_fa (o' := 4) hf (by decide) (off := 4) (sz := 1) (by kernel_rfl) (by decide) rfl rfl (hp.ob (i := 1) rfl) rfl ?_
  clear hf; intro a ha hf; clear ha
  refine st_ldO (u := vx0_A) hf (by decide) pl25 rfl rfl (hp.ob (i := 1) rfl) rfl ?_
  clear hf; intro a ha hf; clear ha
  refine st_len (E := Ek.bool) hf (by decide) Try.underlying25 rfl rfl (hx0_A.sl hp) ?_
  clear hf; intro a ha hf; clear ha
  refine st_imin hf (by decide) rfl rfl rfl ?_
  clear hf; intro a ha hf; clear ha
  obtain ⟨hc7, h⟩ := chk h
  have hc8 : 0 ≤ ((imin (x0_A.length : Int) (60 : Int))).toNat := by omega
  have hc9 : ((imin (x0_A.length : Int) (60 : Int))).toNat ≤ x0_A.length := by omega
  refine st_cutS (E := Ek.bool) hf (by decide) Try.underlying25 elt4 rfl rfl (hx0_A.sl hp) (.inl ⟨rfl, rfl⟩) (.inr ⟨_, _, rfl, evI rfl (by omega)⟩) hc8 hc9 ?_
  clear hf; intro a ha hf; clear ha
  refine st_assign hf rfl rfl (by decide) ?_
  clear hf; intro a ha hf; clear ha
  refine st_nil hf ?_
  refine th_n ?_
  refine wp_seq ?_
  refine wp_reg ?_
  refine st_ldOA (m := 3) (us := [.int .i64 q3.1, .int .u32 q3.2.1, .int .u32 q3.2.2]) hf (by decide) (by kernel_rfl) rfl rfl (hp.ob (i := 0) rfl) rfl rfl ?_
  clear hf; intro a ha hf; clear ha
  refine st_move hf rfl rfl (by decide) ?_
  clear hf; intro a ha hf; clear ha
  obtain ⟨q10, hcall11, h⟩ := bnd h
  refine st_call hf (by decide) Try.func13 rfl rfl rfl rfl rfl (f_trellis_Code_Encode_c hp _ _ _ _ _ (RdS.cut hx0_A hc8 hc9) hcall11) ?_
  rintro _ w ⟨v12, rfl, hp0⟩
  clear hp; have hp := hp0; clear hp0
  replace hp : Hp _ _ _ (Res.sl Ek.bool 4 v12 q10.1 :: Res.obj 34 v5 [.int .i64 q3.1, .int .u32 q3.2.1, .int .u32 q3.2.2] :: Res.obj 33 v1 [.int .u8 x0_Length, .int .u32 x0_One, .int .u32 x0_Two, .bool x0_Second, vx0_A, vx0_B, .int .u16 x0_At] :: ow) := hp
  refine ⟨_, rfl, ?_⟩
  clear hf; intro a hf
  refine st_move hf rfl rfl (by decide) ?_
  clear hf; intro a ha hf; clear ha
  refine st_extract hf (by decide) rfl rfl rfl ?_
  clear hf; intro a ha hf; clear ha
  refine st_extract hf (by decide) rfl rfl rfl ?_
  clear hf; intro a ha hf; clear ha
  refine st_assign hf rfl rfl (by decide) ?_
  clear hf; intro a ha hf; clear ha
  refine st_assign hf rfl rfl (by decide) ?_
  clear hf; intro a ha hf; clear ha
  refine st_nil hf ?_
  refine th_n ?_
  refine wp_seq ?_
  refine wp_reg ?_
  refine st_ldOA (m := 3) (us := [.int .i64 q3.1, .int .u32 q3.2.1, .int .u32 q3.2.2]) hf (by decide) (by kernel_rfl) rfl rfl (hp.ob (i := 1) rfl) rfl rfl ?_
  clear hf; intro a ha hf; clear ha
  refine st_move hf rfl rfl (by decide) ?_
  clear hf; intro a ha hf; clear ha
  obtain ⟨q14, hcall15, h⟩ := bnd h
  refine st_call hf (by decide) Try.func14 rfl rfl rfl rfl rfl (f_trellis_Code_Walk_c hp _ _ _ _ _ (RdS.cut hx0_A hc8 hc9) hcall15) ?_
  rintro _ w ⟨v16, rfl, hp0⟩
  clear hp; have hp := hp0; clear hp0
  replace hp : Hp _ _ _ (Res.sl (Ek.int .i64) 3 v16 q14.1 :: Res.sl Ek.bool 4 v12 q10.1 :: Res.obj 34 v5 [.int .i64 q3.1, .int .u32 q3.2.1, .int .u32 q3.2.2] :: Res.obj 33 v1 [.int .u8 x0_Length, .int .u32 x0_One, .int .u32 x0_Two, .bool x0_Second, vx0_A, vx0_B, .int .u16 x0_At] :: ow) := hp
  refine ⟨_, rfl, ?_⟩
  clear hf; intro a hf
  refine st_move hf rfl rfl (by decide) ?_
  clear hf; intro a ha hf; clear ha
  refine st_extract hf (by decide) rfl rfl rfl ?_
  clear hf; intro a ha hf; clear ha
  refine st_extract hf (by decide) rfl rfl rfl ?_
  clear hf; intro a ha hf; clear ha
  refine st_assign hf rfl rfl (by decide) ?_
  clear hf; intro a ha hf; clear ha
  refine st_assign hf rfl rfl (by decide) ?_
  clear hf; intro a ha hf; clear ha
  refine st_nil hf ?_
  refine th_n ?_
  refine wp_seq ?_
  refine wp_reg ?_
  refine st_ldOA (m := 3) (us := [.int .i64 q3.1, .int .u32 q3.2.1, .int .u32 q3.2.2]) hf (by decide) (by kernel_rfl) rfl rfl (hp.ob (i := 2) rfl) rfl rfl ?_
  clear hf; intro a ha hf; clear ha
  obtain ⟨q18, hcall19, h⟩ := bnd h
  refine st_call hf (by decide) Try.func15 rfl rfl rfl rfl rfl (f_trellis_Code_States_c hp _ _ _ hcall19) ?_
  rintro _ w ⟨rfl, hp0⟩
  clear hp; have hp := hp0; clear hp0
  replace hp : Hp _ _ _ (Res.sl (Ek.int .i64) 3 v16 q14.1 :: Res.sl Ek.bool 4 v12 q10.1 :: Res.obj 34 v5 [.int .i64 q3.1, .int .u32 q3.2.1, .int .u32 q3.2.2] :: Res.obj 33 v1 [.int .u8 x0_Length, .int .u32 x0_One, .int .u32 x0_Two, .bool x0_Second, vx0_A, vx0_B, .int .u16 x0_At] :: ow) := hp
  refine ⟨_, rfl, ?_⟩
  clear hf; intro a hf
  refine st_move hf rfl rfl (by decide) ?_
  clear hf; intro a ha hf; clear ha
  refine st_extract hf (by decide) rfl rfl rfl ?_
  clear hf; intro a ha hf; clear ha
  refine st_extract hf (by decide) rfl rfl rfl ?_
  clear hf; intro a ha hf; clear ha
  refine st_assign hf rfl rfl (by decide) ?_
  clear hf; intro a ha hf; clear ha
  refine st_assign hf rfl rfl (by decide) ?_
  clear hf; intro a ha hf; clear ha
  refine st_nil hf ?_
  refine th_n ?_
  refine wp_seq ?_
  refine wp_seq ?_
  refine wp_reg ?_
  refine st_move hf rfl rfl (by decide) ?_
  clear hf; intro a ha hf; clear ha
  refine st_ineq hf (by decide) rfl rfl rfl ?_
  clear hf; intro a ha hf; clear ha
  refine st_move hf rfl rfl (by decide) ?_
  clear hf; intro a ha hf; clear ha
  refine wpList_cut 3 (fun a w => Fr 263 a [(3, optr v5 0), (4, (GL.cut vx0_A 0 (((imin (x0_A.length : Int) (60 : Int))).toNat) 1)), (5, v12), (7, v16), (9, .int .i64 q18.1), (10, .int .i64 q18.2), (65, .bool ((q10.2 != (0 : Int)) || (q14.2 != (0 : Int))))] ∧ Hp S w0 w (Res.sl (Ek.int .i64) 3 v16 q14.1 :: Res.sl Ek.bool 4 v12 q10.1 :: Res.obj 34 v5 [.int .i64 q3.1, .int .u32 q3.2.1, .int .u32 q3.2.2] :: Res.obj 33 v1 [.int .u8 x0_Length, .int .u32 x0_One, .int .u32 x0_Two, .bool x0_Second, vx0_A, vx0_B, .int .u16 x0_At] :: ow)) ?_ ?_
  · rcases Bool.eq_false_or_eq_true (q10.2 != (0 : Int)) with hb21 | hb21
    · skip
      refine st_skip hf (wantN hf rfl rfl hb21) rfl (by decide) ?_ rfl
      clear hf; intro a hf
      refine st_skip hf (wantN hf rfl rfl hb21) rfl (by decide) ?_ rfl
      clear hf; intro a hf
      refine st_pick (v := .bool true) hf rfl rfl (fun hb' => ?_) (fun hb' => ?_) (by decide) ?_
      · rfl
      · exact absurd (hb21.symm.trans hb') (by decide)
      clear hf; intro a ha hf; clear ha
      refine st_nil hf (th_n ?_)
      exact ⟨hf.sub ⟨rfl, rfl, rfl, rfl, rfl, rfl, (by rw [hb21]; rfl), trivial⟩, hp⟩
    refine st_move hf (wantY hf rfl rfl hb21) rfl (by decide) ?_
    clear hf; intro a ha hf; clear ha
    refine st_ineq hf (by decide) (wantY hf rfl rfl hb21) rfl rfl ?_
    clear hf; intro a ha hf; clear ha
    refine st_pick (v := .bool (q14.2 != (0 : Int))) hf rfl rfl (fun hb' => ?_) (fun hb' => ?_) (by decide) ?_
    · exact absurd (hb21.symm.trans hb') (by decide)
    · rfl
    clear hf; intro a ha hf; clear ha
    refine st_nil hf (th_n ?_)
    exact ⟨hf.sub ⟨rfl, rfl, rfl, rfl, rfl, rfl, (by rw [hb21]; rfl), trivial⟩, hp⟩
  rintro a w ⟨hf, hp⟩
  refine st_move hf rfl rfl (by decide) ?_
  clear hf; intro a ha hf; clear ha
  refine wpList_cut 3 (fun a w => Fr 263 a [(3, optr v5 0), (4, (GL.cut vx0_A 0 (((imin (x0_A.length : Int) (60 : Int))).toNat) 1)), (5, v12), (7, v16), (9, .int .i64 q18.1), (69, .bool (((q10.2 != (0 : Int)) || (q14.2 != (0 : Int))) || (q18.2 != (0 : Int))))] ∧ Hp S w0 w (Res.sl (Ek.int .i64) 3 v16 q14.1 :: Res.sl Ek.bool 4 v12 q10.1 :: Res.obj 34 v5 [.int .i64 q3.1, .int .u32 q3.2.1, .int .u32 q3.2.2] :: Res.obj 33 v1 [.int .u8 x0_Length, .int .u32 x0_One, .int .u32 x0_Two, .bool x0_Second, vx0_A, vx0_B, .int .u16 x0_At] :: ow)) ?_ ?_
  · rcases Bool.eq_false_or_eq_true ((q10.2 != (0 : Int)) || (q14.2 != (0 : Int))) with hb23 | hb23
    · skip
      refine st_skip hf (wantN hf rfl rfl hb23) rfl (by decide) ?_ rfl
      clear hf; intro a hf
      refine st_skip hf (wantN hf rfl rfl hb23) rfl (by decide) ?_ rfl
      clear hf; intro a hf
      refine st_pick (v := .bool true) hf rfl rfl (fun hb' => ?_) (fun hb' => ?_) (by decide) ?_
      · rfl
      · exact absurd (hb23.symm.trans hb') (by decide)
      clear hf; intro a ha hf; clear ha
      refine st_nil hf (th_n ?_)
      exact ⟨hf.sub ⟨rfl, rfl, rfl, rfl, rfl, (by rw [hb23]; rfl), trivial⟩, hp⟩
    refine st_move hf (wantY hf rfl rfl hb23) rfl (by decide) ?_
    clear hf; intro a ha hf; clear ha
    refine st_ineq hf (by decide) (wantY hf rfl rfl hb23) rfl rfl ?_
    clear hf; intro a ha hf; clear ha
    refine st_pick (v := .bool (q18.2 != (0 : Int))) hf rfl rfl (fun hb' => ?_) (fun hb' => ?_) (by decide) ?_
    · exact absurd (hb23.symm.trans hb') (by decide)
    · rfl
    clear hf; intro a ha hf; clear ha
    refine st_nil hf (th_n ?_)
    exact ⟨hf.sub ⟨rfl, rfl, rfl, rfl, rfl, (by rw [hb23]; rfl), trivial⟩, hp⟩
  rintro a w ⟨hf, hp⟩
  refine st_move hf rfl rfl (by decide) ?_
  clear hf; intro a ha hf; clear ha
  refine wpList_cut 8 (fun a w => Fr 263 a [(3, optr v5 0), (4, (GL.cut vx0_A 0 (((imin (x0_A.length : Int) (60 : Int))).toNat) 1)), (5, v12), (7, v16), (9, .int .i64 q18.1), (78, .bool ((((q10.2 != (0 : Int)) || (q14.2 != (0 : Int))) || (q18.2 != (0 : Int))) || ((q14.1.length : Int) != (IntKind.i64.wrap ((IntKind.i64.wrap (((q10.1.length : Int)).tdiv (2 : Int))) + (1 : Int))))))] ∧ Hp S w0 w (Res.sl (Ek.int .i64) 3 v16 q14.1 :: Res.sl Ek.bool 4 v12 q10.1 :: Res.obj 34 v5 [.int .i64 q3.1, .int .u32 q3.2.1, .int .u32 q3.2.2] :: Res.obj 33 v1 [.int .u8 x0_Length, .int .u32 x0_One, .int .u32 x0_Two, .bool x0_Second, vx0_A, vx0_B, .int .u16 x0_At] :: ow)) ?_ ?_
  · rcases Bool.eq_false_or_eq_true (((q10.2 != (0 : Int)) || (q14.2 != (0 : Int))) || (q18.2 != (0 : Int))) with hb25 | hb25
    · skip
      refine st_skip hf (wantN hf rfl rfl hb25) rfl (by decide) ?_ rfl
      clear hf; intro a hf
      refine st_skip hf (wantN hf rfl rfl hb25) rfl (by decide) ?_ rfl
      clear hf; intro a hf
      refine st_skip hf (wantN hf rfl rfl hb25) rfl (by decide) ?_ rfl
      clear hf; intro a hf
      refine st_skip hf (wantN hf rfl rfl hb25) rfl (by decide) ?_ rfl
      clear hf; intro a hf
      refine st_skip hf (wantN hf rfl rfl hb25) rfl (by decide) ?_ rfl
      clear hf; intro a hf
      refine st_skip hf (wantN hf rfl rfl hb25) rfl (by decide) ?_ rfl
      clear hf; intro a hf
      refine st_skip hf (wantN hf rfl rfl hb25) rfl (by decide) ?_ rfl
      clear hf; intro a hf
      refine st_pick (v := .bool true) hf rfl rfl (fun hb' => ?_) (fun hb' => ?_) (by decide) ?_
      · rfl
      · exact absurd (hb25.symm.trans hb') (by decide)
      clear hf; intro a ha hf; clear ha
      refine st_nil hf (th_n ?_)
      exact ⟨hf.sub ⟨rfl, rfl, rfl, rfl, rfl, (by rw [hb25]; rfl), trivial⟩, hp⟩
    refine st_move hf (wantY hf rfl rfl hb25) rfl (by decide) ?_
    clear hf; intro a ha hf; clear ha
    refine st_len (E := (Ek.int .i64)) hf (by decide) Try.underlying39 (wantY hf rfl rfl hb25) rfl (hp.sl (i := 0) rfl) ?_
    clear hf; intro a ha hf; clear ha
    refine st_move hf (wantY hf rfl rfl hb25) rfl (by decide) ?_
    clear hf; intro a ha hf; clear ha
    refine st_len (E := Ek.bool) hf (by decide) Try.underlying25 (wantY hf rfl rfl hb25) rfl (hp.sl (i := 1) rfl) ?_
    clear hf; intro a ha hf; clear ha
    refine st_iquo hf (by decide) (wantY hf rfl rfl hb25) rfl rfl (by decide) ?_
    clear hf; intro a ha hf; clear ha
    refine st_iadd hf (by decide) (wantY hf rfl rfl hb25) rfl rfl ?_
    clear hf; intro a ha hf; clear ha
    refine st_ineq hf (by decide) (wantY hf rfl rfl hb25) rfl rfl ?_
    clear hf; intro a ha hf; clear ha
    refine st_pick (v := .bool ((q14.1.length : Int) != (IntKind.i64.wrap ((IntKind.i64.wrap (((q10.1.length : Int)).tdiv (2 : Int))) + (1 : Int))))) hf rfl rfl (fun hb' => ?_) (fun hb' => ?_) (by decide) ?_
    · exact absurd (hb25.symm.trans hb') (by decide)
    · rfl
    clear hf; intro a ha hf; clear ha
    refine st_nil hf (th_n ?_)
    exact ⟨hf.sub ⟨rfl, rfl, rfl, rfl, rfl, (by rw [hb25]; rfl), trivial⟩, hp⟩
  rintro a w ⟨hf, hp⟩
  refine st_move hf rfl rfl (by decide) ?_
  clear hf; intro a ha hf; clear ha
  obtain ⟨z28, hz26, h⟩ := bnd h
  refine wpList_cut 5 (fun a w => Fr 263 a [(3, optr v5 0), (4, (GL.cut vx0_A 0 (((imin (x0_A.length : Int) (60 : Int))).toNat) 1)), (5, v12), (7, v16), (9, .int .i64 q18.1), (84, .bool z28)] ∧ Hp S w0 w (Res.sl (Ek.int .i64) 3 v16 q14.1 :: Res.sl Ek.bool 4 v12 q10.1 :: Res.obj 34 v5 [.int .i64 q3.1, .int .u32 q3.2.1, .int .u32 q3.2.2] :: Res.obj 33 v1 [.int .u8 x0_Length, .int .u32 x0_One, .int .u32 x0_Two, .bool x0_Second, vx0_A, vx0_B, .int .u16 x0_At] :: ow)) ?_ ?_
  · rcases Bool.eq_false_or_eq_true ((((q10.2 != (0 : Int)) || (q14.2 != (0 : Int))) || (q18.2 != (0 : Int))) || ((q14.1.length : Int) != (IntKind.i64.wrap ((IntKind.i64.wrap (((q10.1.length : Int)).tdiv (2 : Int))) + (1 : Int))))) with hb27 | hb27
    · skip
      replace hz26 := ifT hz26 hb27
      refine st_skip hf (wantN hf rfl rfl hb27) rfl (by decide) ?_ rfl
      clear hf; intro a hf
      refine st_skip hf (wantN hf rfl rfl hb27) rfl (by decide) ?_ rfl
      clear hf; intro a hf
      refine st_skip hf (wantN hf rfl rfl hb27) rfl (by decide) ?_ rfl
      clear hf; intro a hf
      refine st_skip hf (wantN hf rfl rfl hb27) rfl (by decide) ?_ rfl
      clear hf; intro a hf
      obtain rfl := Option.some.inj hz26
      refine st_pick (v := .bool true) hf rfl rfl (fun hb' => ?_) (fun hb' => ?_) (by decide) ?_
      · rfl
      · exact absurd (hb27.symm.trans hb') (by decide)
      clear hf; intro a ha hf; clear ha
      refine st_nil hf (th_n ?_)
      exact ⟨hf.sub ⟨rfl, rfl, rfl, rfl, rfl, rfl, trivial⟩, hp⟩
    replace hz26 := ifF hz26 hb27
    refine st_move hf (wantY hf rfl rfl hb27) rfl (by decide) ?_
    clear hf; intro a ha hf; clear ha
    obtain ⟨hc29, hz26⟩ := chk hz26
    refine st_index (E := (Ek.int .i64)) hf (by decide) Try.underlying39 elt3 (wantY hf rfl rfl hb27) rfl rfl (hp.sl (i := 0) rfl) hc29.1 hc29.2 ?_
    clear hf; intro a ha hf; clear ha
    refine st_ldI hf (by decide) pl3 (wantY hf rfl rfl hb27) rfl (hp.sl (i := 0) rfl) hc29.1 hc29.2 ?_
    clear hf; intro a ha hf; clear ha
    refine st_ineq hf (by decide) (wantY hf rfl rfl hb27) rfl rfl ?_
    clear hf; intro a ha hf; clear ha
    obtain rfl := Option.some.inj hz26
    refine st_pick (v := .bool ((gt q14.1 (0 : Int)) != (0 : Int))) hf rfl rfl (fun hb' => ?_) (fun hb' => ?_) (by decide) ?_
    · exact absurd (hb27.symm.trans hb') (by decide)
    · rfl
    clear hf; intro a ha hf; clear ha
    refine st_nil hf (th_n ?_)
    exact ⟨hf.sub ⟨rfl, rfl, rfl, rfl, rfl, rfl, trivial⟩, hp⟩
  rintro a w ⟨hf, hp⟩
  refine st_move hf rfl rfl (by decide) ?_
  clear hf; intro a ha hf; clear ha
  obtain ⟨z32, hz30, h⟩ := bnd h
  refine wpList_cut 8 (fun a w => Fr 263 a [(3, optr v5 0), (4, (GL.cut vx0_A 0 (((imin (x0_A.length : Int) (60 : Int))).toNat) 1)), (5, v12), (7, v16), (9, .int .i64 q18.1), (93, .bool z32)] ∧ Hp S w0 w (Res.sl (Ek.int .i64) 3 v16 q14.1 :: Res.sl Ek.bool 4 v12 q10.1 :: Res.obj 34 v5 [.int .i64 q3.1, .int .u32 q3.2.1, .int .u32 q3.2.2] :: Res.obj 33 v1 [.int .u8 x0_Length, .int .u32 x0_One, .int .u32 x0_Two, .bool x0_Second, vx0_A, vx0_B, .int .u16 x0_At] :: ow)) ?_ ?_
  · rcases Bool.eq_false_or_eq_true z28 with hb31 | hb31
    · skip
      replace hz30 := ifT hz30 hb31
      refine st_skip hf (wantN hf rfl rfl hb31) rfl (by decide) ?_ rfl
      clear hf; intro a hf
      refine st_skip hf (wantN hf rfl rfl hb31) rfl (by decide) ?_ rfl
      clear hf; intro a hf
      refine st_skip hf (wantN hf rfl rfl hb31) rfl (by decide) ?_ rfl
      clear hf; intro a hf
      refine st_skip hf (wantN hf rfl rfl hb31) rfl (by decide) ?_ rfl
      clear hf; intro a hf
      refine st_skip hf (wantN hf rfl rfl hb31) rfl (by decide) ?_ rfl
      clear hf; intro a hf
      refine st_skip hf (wantN hf rfl rfl hb31) rfl (by decide) ?_ rfl
      clear hf; intro a hf
      refine st_skip hf (wantN hf rfl rfl hb31) rfl (by decide) ?_ rfl
      clear hf; intro a hf
      obtain rfl := Option.some.inj hz30
      refine st_pick (v := .bool true) hf rfl rfl (fun hb' => ?_) (fun hb' => ?_) (by decide) ?_
      · rfl
      · exact absurd (hb31.symm.trans hb') (by decide)
      clear hf; intro a ha hf; clear ha
      refine st_nil hf (th_n ?_)
      exact ⟨hf.sub ⟨rfl, rfl, rfl, rfl, rfl, rfl, trivial⟩, hp⟩
    replace hz30 := ifF hz30 hb31
    refine st_move hf (wantY hf rfl rfl hb31) rfl (by decide) ?_
    clear hf; intro a ha hf; clear ha
    refine st_move hf (wantY hf rfl rfl hb31) rfl (by decide) ?_
    clear hf; intro a ha hf; clear ha
    refine st_len (E := (Ek.int .i64)) hf (by decide) Try.underlying39 (wantY hf rfl rfl hb31) rfl (hp.sl (i := 0) rfl) ?_
    clear hf; intro a ha hf; clear ha
    refine st_isub hf (by decide) (wantY hf rfl rfl hb31) rfl rfl ?_
    clear hf; intro a ha hf; clear ha
    obtain ⟨hc33, hz30⟩ := chk hz30
    refine st_index (E := (Ek.int .i64)) hf (by decide) Try.underlying39 elt3 (wantY hf rfl rfl hb31) rfl rfl (hp.sl (i := 0) rfl) hc33.1 hc33.2 ?_
    clear hf; intro a ha hf; clear ha
    refine st_ldI hf (by decide) pl3 (wantY hf rfl rfl hb31) rfl (hp.sl (i := 0) rfl) hc33.1 hc33.2 ?_
    clear hf; intro a ha hf; clear ha
    refine st_ineq hf (by decide) (wantY hf rfl rfl hb31) rfl rfl ?_
    clear hf; intro a ha hf; clear ha
    obtain rfl := Option.some.inj hz30
    refine st_pick (v := .bool ((gt q14.1 (IntKind.i64.wrap ((q14.1.length : Int) - (1 : Int)))) != (0 : Int))) hf rfl rfl (fun hb' => ?_) (fun hb' => ?_) (by decide) ?_
    · exact absurd (hb31.symm.trans hb') (by decide)
    · rfl
    clear hf; intro a ha hf; clear ha
    refine st_nil hf (th_n ?_)
    exact ⟨hf.sub ⟨rfl, rfl, rfl, rfl, rfl, rfl, trivial⟩, hp⟩
  rintro a w ⟨hf, hp⟩
  refine st_nil hf ?_
  refine th_n ?_
  refine wp_if hf rfl (fun hb => ?_) (fun hb => ?_)
  · replace h := ifT h hb
    refine wp_seq ?_
    refine wp_reg ?_
    refine st_assign hf rfl rfl (by decide) ?_
    clear hf; intro a ha hf; clear ha
    refine st_nil hf ?_
    refine th_n ?_
    refine wp_ret ?_
    refine th_r ?_
    obtain rfl := Option.some.inj h
    have hp : Hp _ _ _ (ow) := Hp.sel (pre := [Res.sl (Ek.int .i64) 3 v16 q14.1, Res.sl Ek.bool 4 v12 q10.1, Res.obj 34 v5 [.int .i64 q3.1, .int .u32 q3.2.1, .int .u32 q3.2.2], Res.obj 33 v1 [.int .u8 x0_Length, .int .u32 x0_One, .int .u32 x0_Two, .bool x0_Second, vx0_A, vx0_B, .int .u16 x0_At]]) (tail := ow) (rs' := []) hp [] (by decide) (by simp) rfl
    exact ⟨rfl, ⟨hf.sub ⟨rfl, trivial⟩, hp⟩⟩
  replace h := ifF h hb
  refine wp_skip ?_
  refine th_n ?_
  refine wp_seq ?_
  refine wp_seq ?_
  refine wp_reg ?_
  refine st_assign hf rfl rfl (by decide) ?_
  clear hf; intro a ha hf; clear ha
  refine st_nil hf ?_
  refine th_n ?_
  refine wp_block ?_
  obtain ⟨q175, hl, h⟩ := bnd h
  have hp : Hp _ _ _ (Res.obj 34 v5 [.int .i64 q3.1, .int .u32 q3.2.1, .int .u32 q3.2.2] :: Res.sl Ek.bool 4 v12 q10.1 :: Res.sl (Ek.int .i64) 3 v16 q14.1 :: ow) := Hp.sel (pre := [Res.sl (Ek.int .i64) 3 v16 q14.1, Res.sl Ek.bool 4 v12 q10.1, Res.obj 34 v5 [.int .i64 q3.1, .int .u32 q3.2.1, .int .u32 q3.2.2], Res.obj 33 v1 [.int .u8 x0_Length, .int .u32 x0_One, .int .u32 x0_Two, .bool x0_Second, vx0_A, vx0_B, .int .u16 x0_At]]) (tail := ow) (rs' := [Res.obj 34 v5 [.int .i64 q3.1, .int .u32 q3.2.1, .int .u32 q3.2.2], Res.sl Ek.bool 4 v12 q10.1, Res.sl (Ek.int .i64) 3 v16 q14.1]) hp [2, 1, 0] (by decide) (by simp) rfl
  refine wp_loop_pure (f := (f_foghornlaw21_TrellisWalks.s1 x0_A q18)) (s := (q3.1, q3.2.1, q3.2.2, q10.1, q14.1, (0 : Int))) (fun s a w => ∃ (v35 : Value) (v37 : Value), Fr 263 a [(3, optr v5 0), (4, (GL.cut vx0_A 0 (((imin (x0_A.length : Int) (60 : Int))).toNat) 1)), (5, v35), (7, v37), (9, .int .i64 q18.1), (11, .int .i64 s.2.2.2.2.2)] ∧ Hp S w0 w (Res.obj 34 v5 [.int .i64 s.1, .int .u32 s.2.1, .int .u32 s.2.2.1] :: Res.sl Ek.bool 4 v35 s.2.2.2.1 :: Res.sl (Ek.int .i64) 3 v37 s.2.2.2.2.1 :: ow)) (fun q e a w => match q with | (Sum.inl q) => e = .exit 0 ∧ Fr 263 a [] ∧ Hp S w0 w (ow) | (Sum.inr q) => e = .ret ∧ Fr 263 a [(2, .bool q)] ∧ Hp S w0 w (ow)) ?_ hl ⟨_, _, hf.sub ⟨rfl, rfl, rfl, rfl, rfl, rfl, trivial⟩, hp⟩ ?_
  · clear hl hf hp
    intro s x a w h hI
    obtain ⟨c3c_0, c3c_1, c3c_2, u5, w7, i11⟩ := s
    obtain ⟨v35, v37, hf, hp⟩ : ∃ (v35 : Value) (v37 : Value), Fr 263 a [(3, optr v5 0), (4, (GL.cut vx0_A 0 (((imin (x0_A.length : Int) (60 : Int))).toNat) 1)), (5, v35), (7, v37), (9, .int .i64 q18.1), (11, .int .i64 i11)] ∧ Hp S w0 w (Res.obj 34 v5 [.int .i64 c3c_0, .int .u32 c3c_1, .int .u32 c3c_2] :: Res.sl Ek.bool 4 v35 u5 :: Res.sl (Ek.int .i64) 3 v37 w7 :: ow) := hI
    replace h : f_foghornlaw21_TrellisWalks.s1c x0_A q18 c3c_0 c3c_1 c3c_2 u5 w7 i11 = some x := h
    unfold f_foghornlaw21_TrellisWalks.s1c at h
    refine wp_seq ?_
    refine wp_seq ?_
    refine wp_reg ?_
    refine st_move hf rfl rfl (by decide) ?_
    clear hf; intro a ha hf; clear ha
    refine st_iadd hf (by decide) rfl rfl rfl ?_
    clear hf; intro a ha hf; clear ha
    refine st_move hf rfl rfl (by decide) ?_
    clear hf; intro a ha hf; clear ha
    refine st_len (E := (Ek.int .i64)) hf (by decide) Try.underlying39 rfl rfl (hp.sl (i := 2) rfl) ?_
    clear hf; intro a ha hf; clear ha
    refine st_ilss hf (by decide) rfl rfl rfl ?_
    clear hf; intro a ha hf; clear ha
    refine st_nil hf ?_
    refine th_n ?_
    refine wp_if hf rfl (fun hb => ?_) (fun hb => ?_)
    · replace h := ifT h hb
      refine wp_skip ?_
      refine th_n ?_
      refine wp_seq ?_
      refine wp_block ?_
      refine wp_seq ?_
      obtain ⟨S39, hp40, rd41, up42, bk43⟩ := Hp.lendO hp (i := 0) rfl
      obtain ⟨S44, hp45, rd46, up47, bk48⟩ := Hp.lendS hp40 (i := 1) rfl
      have rl49 := ((rd41.now hp40).mono up47)
      have rl50 := (((((RdS.cut hx0_A hc8 hc9).now hp).mono up42).now hp40).mono up47)
      have rl51 := rd46
      obtain ⟨hc52, h⟩ := chk h
      obtain ⟨z56, hz53, h⟩ := bnd h
      obtain ⟨q57, hcall58, h⟩ := bnd h
      refine wp_cutN (fun a w => Fr 263 a [(3, optr v5 0), (4, (GL.cut vx0_A 0 (((imin (x0_A.length : Int) (60 : Int))).toNat) 1)), (5, v35), (7, v37), (9, .int .i64 q18.1), (11, .int .i64 i11), (12, .int .i64 q57.1), (13, .bool q57.2.1), (14, .bool q57.2.2.1), (15, .int .i64 q57.2.2.2)] ∧ Hp S w0 w (Res.obj 34 v5 [.int .i64 c3c_0, .int .u32 c3c_1, .int .u32 c3c_2] :: Res.sl (Ek.int .i64) 3 v37 w7 :: Res.sl Ek.bool 4 v35 u5 :: ow)) ?_ ?_
      · have hp := hp45.same (Same.drew w)
        rcases Bool.eq_false_or_eq_true (decide (i11 < (((x0_A.drop 0).take (((imin (x0_A.length : Int) (60 : Int))).toNat - 0)).length : Int))) with hb54 | hb54
        · skip
          replace hz53 := ifT hz53 hb54
          obtain ⟨hc55, hz53⟩ := chk hz53
          replace hz53 := Option.some.inj hz53
          refine dr_begin' (fun a w => Fr 263 a [(3, optr v5 0), (4, (GL.cut vx0_A 0 (((imin (x0_A.length : Int) (60 : Int))).toNat) 1)), (5, v35), (7, v37), (9, .int .i64 q18.1), (11, .int .i64 i11), (12, .int .i64 q57.1), (13, .bool q57.2.1), (14, .bool q57.2.2.1), (15, .int .i64 q57.2.2.2)] ∧ Hp S w0 w (Res.obj 34 v5 [.int .i64 c3c_0, .int .u32 c3c_1, .int .u32 c3c_2] :: Res.sl (Ek.int .i64) 3 v37 w7 :: Res.sl Ek.bool 4 v35 u5 :: ow)) (fun w' => ∃ l, Hp S44 w w' l) [] (by kernel_rfl) ?_
          refine dr_take 0 (.agg #[.int .i64 c3c_0, .int .u32 c3c_1, .int .u32 c3c_2]) rfl (by kernel_rfl) (by kernel_rfl) (by kernel_rfl) (by kernel_rfl) rfl rfl hf (by decide) rfl (fun w hp => ?_) ⟨_, hp⟩ ?_
          · obtain ⟨_, hp⟩ := hp
            refine st_ldOA (m := 3) (us := [.int .i64 c3c_0, .int .u32 c3c_1, .int .u32 c3c_2]) hf (by decide) (by kernel_rfl) rfl rfl (rl49.ob hp) rfl rfl ?_
            clear hf; intro a ha hf
            exact st_nil hf (th_n ⟨ha, rfl⟩)
          clear hf; intro a hf
          refine dr_take 1 (v37) rfl (by kernel_rfl) (by kernel_rfl) (by kernel_rfl) (by kernel_rfl) rfl rfl hf (by decide) rfl (fun w hp => ?_) ⟨_, hp⟩ ?_
          · obtain ⟨_, hp⟩ := hp
            refine st_move hf rfl rfl (by decide) ?_
            clear hf; intro a ha hf
            exact st_nil hf (th_n ⟨ha, rfl⟩)
          clear hf; intro a hf
          refine dr_take 2 (.int .i64 i11) rfl (by kernel_rfl) (by kernel_rfl) (by kernel_rfl) (by kernel_rfl) rfl rfl hf (by decide) rfl (fun w hp => ?_) ⟨_, hp⟩ ?_
          · obtain ⟨_, hp⟩ := hp
            refine st_move hf rfl rfl (by decide) ?_
            clear hf; intro a ha hf
            exact st_nil hf (th_n ⟨ha, rfl⟩)
          clear hf; intro a hf
          refine dr_take 3 (eptr v37 i11 1) rfl (by kernel_rfl) (by kernel_rfl) (by kernel_rfl) (by kernel_rfl) rfl rfl hf (by decide) rfl (fun w hp => ?_) ⟨_, hp⟩ ?_
          · obtain ⟨_, hp⟩ := hp
            refine st_index (E := (Ek.int .i64)) hf (by decide) Try.underlying39 elt3 rfl rfl rfl (rl51.sl hp) hc52.1 hc52.2 ?_
            clear hf; intro a ha hf
            exact st_nil hf (th_n ⟨ha, rfl⟩)
          clear hf; intro a hf
          refine dr_take 4 (.int .i64 (gt w7 i11)) rfl (by kernel_rfl) (by kernel_rfl) (by kernel_rfl) (by kernel_rfl) rfl rfl hf (by decide) rfl (fun w hp => ?_) ⟨_, hp⟩ ?_
          · obtain ⟨_, hp⟩ := hp
            refine st_ldI hf (by decide) pl3 rfl rfl (rl51.sl hp) hc52.1 hc52.2 ?_
            clear hf; intro a ha hf
            exact st_nil hf (th_n ⟨ha, rfl⟩)
          clear hf; intro a hf
          refine dr_take 5 (.int .i64 i11) rfl (by kernel_rfl) (by kernel_rfl) (by kernel_rfl) (by kernel_rfl) rfl rfl hf (by decide) rfl (fun w hp => ?_) ⟨_, hp⟩ ?_
          · obtain ⟨_, hp⟩ := hp
            refine st_move hf rfl rfl (by decide) ?_
            clear hf; intro a ha hf
            exact st_nil hf (th_n ⟨ha, rfl⟩)
          clear hf; intro a hf
          refine dr_take 6 ((GL.cut vx0_A 0 (((imin (x0_A.length : Int) (60 : Int))).toNat) 1)) rfl (by kernel_rfl) (by kernel_rfl) (by kernel_rfl) (by kernel_rfl) rfl rfl hf (by decide) rfl (fun w hp => ?_) ⟨_, hp⟩ ?_
          · obtain ⟨_, hp⟩ := hp
            refine st_move hf rfl rfl (by decide) ?_
            clear hf; intro a ha hf
            exact st_nil hf (th_n ⟨ha, rfl⟩)
          clear hf; intro a hf
          refine dr_take 7 (.int .i64 (((x0_A.drop 0).take (((imin (x0_A.length : Int) (60 : Int))).toNat - 0)).length : Int)) rfl (by kernel_rfl) (by kernel_rfl) (by kernel_rfl) (by kernel_rfl) rfl rfl hf (by decide) rfl (fun w hp => ?_) ⟨_, hp⟩ ?_
          · obtain ⟨_, hp⟩ := hp
            refine st_len (E := Ek.bool) hf (by decide) Try.underlying25 rfl rfl (rl50.sl hp) ?_
            clear hf; intro a ha hf
            exact st_nil hf (th_n ⟨ha, rfl⟩)
          clear hf; intro a hf
          refine dr_take 8 (.bool (decide (i11 < (((x0_A.drop 0).take (((imin (x0_A.length : Int) (60 : Int))).toNat - 0)).length : Int)))) rfl (by kernel_rfl) (by kernel_rfl) (by kernel_rfl) (by kernel_rfl) rfl rfl hf (by decide) rfl (fun w hp => ?_) ⟨_, hp⟩ ?_
          · obtain ⟨_, hp⟩ := hp
            refine st_ilss hf (by decide) rfl rfl rfl ?_
            clear hf; intro a ha hf
            exact st_nil hf (th_n ⟨ha, rfl⟩)
          clear hf; intro a hf
          refine dr_take 9 (.bool (decide (i11 < (((x0_A.drop 0).take (((imin (x0_A.length : Int) (60 : Int))).toNat - 0)).length : Int)))) rfl (by kernel_rfl) (by kernel_rfl) (by kernel_rfl) (by kernel_rfl) rfl rfl hf (by decide) rfl (fun w hp => ?_) ⟨_, hp⟩ ?_
          · obtain ⟨_, hp⟩ := hp
            refine st_move hf rfl rfl (by decide) ?_
            clear hf; intro a ha hf
            exact st_nil hf (th_n ⟨ha, rfl⟩)
          clear hf; intro a hf
          refine dr_take 10 ((GL.cut vx0_A 0 (((imin (x0_A.length : Int) (60 : Int))).toNat) 1)) rfl (by kernel_rfl) (by kernel_rfl) (by kernel_rfl) (by kernel_rfl) rfl rfl hf (by decide) (wantY hf rfl rfl hb54) (fun w hp => ?_) ⟨_, hp⟩ ?_
          · obtain ⟨_, hp⟩ := hp
            refine st_move hf (wantY hf rfl rfl hb54) rfl (by decide) ?_
            clear hf; intro a ha hf
            exact st_nil hf (th_n ⟨ha, rfl⟩)
          clear hf; intro a hf
          refine dr_take 11 (.int .i64 i11) rfl (by kernel_rfl) (by kernel_rfl) (by kernel_rfl) (by kernel_rfl) rfl rfl hf (by decide) (wantY hf rfl rfl hb54) (fun w hp => ?_) ⟨_, hp⟩ ?_
          · obtain ⟨_, hp⟩ := hp
            refine st_move hf (wantY hf rfl rfl hb54) rfl (by decide) ?_
            clear hf; intro a ha hf
            exact st_nil hf (th_n ⟨ha, rfl⟩)
          clear hf; intro a hf
          refine dr_take 12 (eptr (GL.cut vx0_A 0 (((imin (x0_A.length : Int) (60 : Int))).toNat) 1) i11 1) rfl (by kernel_rfl) (by kernel_rfl) (by kernel_rfl) (by kernel_rfl) rfl rfl hf (by decide) (wantY hf rfl rfl hb54) (fun w hp => ?_) ⟨_, hp⟩ ?_
          · obtain ⟨_, hp⟩ := hp
            refine st_index (E := Ek.bool) hf (by decide) Try.underlying25 elt4 (wantY hf rfl rfl hb54) rfl rfl (rl50.sl hp) hc55.1 hc55.2 ?_
            clear hf; intro a ha hf
            exact st_nil hf (th_n ⟨ha, rfl⟩)
          clear hf; intro a hf
          refine dr_take 13 (.bool (gt ((x0_A.drop 0).take (((imin (x0_A.length : Int) (60 : Int))).toNat - 0)) i11)) rfl (by kernel_rfl) (by kernel_rfl) (by kernel_rfl) (by kernel_rfl) rfl rfl hf (by decide) (wantY hf rfl rfl hb54) (fun w hp => ?_) ⟨_, hp⟩ ?_
          · obtain ⟨_, hp⟩ := hp
            refine st_ldB hf (by decide) pl4 (wantY hf rfl rfl hb54) rfl (rl50.sl hp) hc55.1 hc55.2 ?_
            clear hf; intro a ha hf
            exact st_nil hf (th_n ⟨ha, rfl⟩)
          clear hf; intro a hf
          refine dr_take 14 (.bool z56) rfl (by kernel_rfl) (by kernel_rfl) (by kernel_rfl) (by kernel_rfl) rfl rfl hf (by decide) rfl (fun w hp => ?_) ⟨_, hp⟩ ?_
          · obtain ⟨_, hp⟩ := hp
            refine st_pick (v := .bool z56) hf rfl rfl (fun _ => by rw [← hz53]; rfl) (fun hb' => absurd (hb54.symm.trans hb') (by decide)) (by decide) ?_
            clear hf; intro a ha hf
            exact st_nil hf (th_n ⟨ha, rfl⟩)
          clear hf; intro a hf
          refine dr_one 15 rfl (by kernel_rfl) ?_
          refine st_call hf (by decide) Try.func16 rfl rfl rfl rfl rfl (f_trellis_Code_Step_c hp _ _ _ _ _ hcall58) ?_
          rintro _ w ⟨rfl, hp0⟩
          clear hp; have hp := hp0; clear hp0
          replace hp : Hp _ _ _ (Res.sl Ek.bool 4 v35 u5 :: ow) := hp
          refine ⟨_, rfl, ?_⟩
          clear hf; intro a hf
          refine st_nil hf (th_n ⟨fun _ _ => ⟨_, hp⟩, ?_⟩)
          refine dr_take 16 (.tuple #[.int .i64 q57.1, .bool q57.2.1, .bool q57.2.2.1, .int .i64 q57.2.2.2]) rfl (by kernel_rfl) (by kernel_rfl) (by kernel_rfl) (by kernel_rfl) rfl rfl hf (by decide) rfl (fun w hp => ?_) ⟨_, hp⟩ ?_
          · obtain ⟨_, hp⟩ := hp
            refine st_move hf rfl rfl (by decide) ?_
            clear hf; intro a ha hf
            exact st_nil hf (th_n ⟨ha, rfl⟩)
          clear hf; intro a hf
          refine dr_take 17 (.int .i64 q57.1) rfl (by kernel_rfl) (by kernel_rfl) (by kernel_rfl) (by kernel_rfl) rfl rfl hf (by decide) rfl (fun w hp => ?_) ⟨_, hp⟩ ?_
          · obtain ⟨_, hp⟩ := hp
            refine st_extract hf (by decide) rfl rfl rfl ?_
            clear hf; intro a ha hf
            exact st_nil hf (th_n ⟨ha, rfl⟩)
          clear hf; intro a hf
          refine dr_take 18 (.bool q57.2.1) rfl (by kernel_rfl) (by kernel_rfl) (by kernel_rfl) (by kernel_rfl) rfl rfl hf (by decide) rfl (fun w hp => ?_) ⟨_, hp⟩ ?_
          · obtain ⟨_, hp⟩ := hp
            refine st_extract hf (by decide) rfl rfl rfl ?_
            clear hf; intro a ha hf
            exact st_nil hf (th_n ⟨ha, rfl⟩)
          clear hf; intro a hf
          refine dr_take 19 (.bool q57.2.2.1) rfl (by kernel_rfl) (by kernel_rfl) (by kernel_rfl) (by kernel_rfl) rfl rfl hf (by decide) rfl (fun w hp => ?_) ⟨_, hp⟩ ?_
          · obtain ⟨_, hp⟩ := hp
            refine st_extract hf (by decide) rfl rfl rfl ?_
            clear hf; intro a ha hf
            exact st_nil hf (th_n ⟨ha, rfl⟩)
          clear hf; intro a hf
          refine dr_take 20 (.int .i64 q57.2.2.2) rfl (by kernel_rfl) (by kernel_rfl) (by kernel_rfl) (by kernel_rfl) rfl rfl hf (by decide) rfl (fun w hp => ?_) ⟨_, hp⟩ ?_
          · obtain ⟨_, hp⟩ := hp
            refine st_extract hf (by decide) rfl rfl rfl ?_
            clear hf; intro a ha hf
            exact st_nil hf (th_n ⟨ha, rfl⟩)
          clear hf; intro a hf
          refine dr_take 21 (.int .i64 q57.1) rfl (by kernel_rfl) (by kernel_rfl) (by kernel_rfl) (by kernel_rfl) rfl rfl hf (by decide) rfl (fun w hp => ?_) ⟨_, hp⟩ ?_
          · obtain ⟨_, hp⟩ := hp
            refine st_assign hf rfl rfl (by decide) ?_
            clear hf; intro a ha hf
            exact st_nil hf (th_n ⟨ha, rfl⟩)
          clear hf; intro a hf
          refine dr_take 22 (.bool q57.2.1) rfl (by kernel_rfl) (by kernel_rfl) (by kernel_rfl) (by kernel_rfl) rfl rfl hf (by decide) rfl (fun w hp => ?_) ⟨_, hp⟩ ?_
          · obtain ⟨_, hp⟩ := hp
            refine st_assign hf rfl rfl (by decide) ?_
            clear hf; intro a ha hf
            exact st_nil hf (th_n ⟨ha, rfl⟩)
          clear hf; intro a hf
          refine dr_take 23 (.bool q57.2.2.1) rfl (by kernel_rfl) (by kernel_rfl) (by kernel_rfl) (by kernel_rfl) rfl rfl hf (by decide) rfl (fun w hp => ?_) ⟨_, hp⟩ ?_
          · obtain ⟨_, hp⟩ := hp
            refine st_assign hf rfl rfl (by decide) ?_
            clear hf; intro a ha hf
            exact st_nil hf (th_n ⟨ha, rfl⟩)
          clear hf; intro a hf
          refine dr_take 24 (.int .i64 q57.2.2.2) rfl (by kernel_rfl) (by kernel_rfl) (by kernel_rfl) (by kernel_rfl) rfl rfl hf (by decide) rfl (fun w hp => ?_) ⟨_, hp⟩ ?_
          · obtain ⟨_, hp⟩ := hp
            refine st_assign hf rfl rfl (by decide) ?_
            clear hf; intro a ha hf
            exact st_nil hf (th_n ⟨ha, rfl⟩)
          clear hf; intro a hf
          refine dr_end (by kernel_rfl) ?_ _
          have hp := bk48 _ _ hp
          have hp := bk43 _ _ hp
          exact ⟨hf.sub ⟨rfl, rfl, rfl, rfl, rfl, rfl, rfl, rfl, rfl, rfl, trivial⟩, hp⟩
        skip
        replace hz53 := ifF hz53 hb54
        replace hz53 := Option.some.inj hz53
        refine dr_begin' (fun a w => Fr 263 a [(3, optr v5 0), (4, (GL.cut vx0_A 0 (((imin (x0_A.length : Int) (60 : Int))).toNat) 1)), (5, v35), (7, v37), (9, .int .i64 q18.1), (11, .int .i64 i11), (12, .int .i64 q57.1), (13, .bool q57.2.1), (14, .bool q57.2.2.1), (15, .int .i64 q57.2.2.2)] ∧ Hp S w0 w (Res.obj 34 v5 [.int .i64 c3c_0, .int .u32 c3c_1, .int .u32 c3c_2] :: Res.sl (Ek.int .i64) 3 v37 w7 :: Res.sl Ek.bool 4 v35 u5 :: ow)) (fun w' => ∃ l, Hp S44 w w' l) [] (by kernel_rfl) ?_
        refine dr_take 0 (.agg #[.int .i64 c3c_0, .int .u32 c3c_1, .int .u32 c3c_2]) rfl (by kernel_rfl) (by kernel_rfl) (by kernel_rfl) (by kernel_rfl) rfl rfl hf (by decide) rfl (fun w hp => ?_) ⟨_, hp⟩ ?_
        · obtain ⟨_, hp⟩ := hp
          refine st_ldOA (m := 3) (us := [.int .i64 c3c_0, .int .u32 c3c_1, .int .u32 c3c_2]) hf (by decide) (by kernel_rfl) rfl rfl (rl49.ob hp) rfl rfl ?_
          clear hf; intro a ha hf
          exact st_nil hf (th_n ⟨ha, rfl⟩)
        clear hf; intro a hf
        refine dr_take 1 (v37) rfl (by kernel_rfl) (by kernel_rfl) (by kernel_rfl) (by kernel_rfl) rfl rfl hf (by decide) rfl (fun w hp => ?_) ⟨_, hp⟩ ?_
        · obtain ⟨_, hp⟩ := hp
          refine st_move hf rfl rfl (by decide) ?_
          clear hf; intro a ha hf
          exact st_nil hf (th_n ⟨ha, rfl⟩)
        clear hf; intro a hf
        refine dr_take 2 (.int .i64 i11) rfl (by kernel_rfl) (by kernel_rfl) (by kernel_rfl) (by kernel_rfl) rfl rfl hf (by decide) rfl (fun w hp => ?_) ⟨_, hp⟩ ?_
        · obtain ⟨_, hp⟩ := hp
          refine st_move hf rfl rfl (by decide) ?_
          clear hf; intro a ha hf
          exact st_nil hf (th_n ⟨ha, rfl⟩)
        clear hf; intro a hf
        refine dr_take 3 (eptr v37 i11 1) rfl (by kernel_rfl) (by kernel_rfl) (by kernel_rfl) (by kernel_rfl) rfl rfl hf (by decide) rfl (fun w hp => ?_) ⟨_, hp⟩ ?_
        · obtain ⟨_, hp⟩ := hp
          refine st_index (E := (Ek.int .i64)) hf (by decide) Try.underlying39 elt3 rfl rfl rfl (rl51.sl hp) hc52.1 hc52.2 ?_
          clear hf; intro a ha hf
          exact st_nil hf (th_n ⟨ha, rfl⟩)
        clear hf; intro a hf
        refine dr_take 4 (.int .i64 (gt w7 i11)) rfl (by kernel_rfl) (by kernel_rfl) (by kernel_rfl) (by kernel_rfl) rfl rfl hf (by decide) rfl (fun w hp => ?_) ⟨_, hp⟩ ?_
        · obtain ⟨_, hp⟩ := hp
          refine st_ldI hf (by decide) pl3 rfl rfl (rl51.sl hp) hc52.1 hc52.2 ?_
          clear hf; intro a ha hf
          exact st_nil hf (th_n ⟨ha, rfl⟩)
        clear hf; intro a hf
        refine dr_take 5 (.int .i64 i11) rfl (by kernel_rfl) (by kernel_rfl) (by kernel_rfl) (by kernel_rfl) rfl rfl hf (by decide) rfl (fun w hp => ?_) ⟨_, hp⟩ ?_
        · obtain ⟨_, hp⟩ := hp
          refine st_move hf rfl rfl (by decide) ?_
          clear hf; intro a ha hf
          exact st_nil hf (th_n ⟨ha, rfl⟩)
        clear hf; intro a hf
        refine dr_take 6 ((GL.cut vx0_A 0 (((imin (x0_A.length : Int) (60 : Int))).toNat) 1)) rfl (by kernel_rfl) (by kernel_rfl) (by kernel_rfl) (by kernel_rfl) rfl rfl hf (by decide) rfl (fun w hp => ?_) ⟨_, hp⟩ ?_
        · obtain ⟨_, hp⟩ := hp
          refine st_move hf rfl rfl (by decide) ?_
          clear hf; intro a ha hf
          exact st_nil hf (th_n ⟨ha, rfl⟩)
        clear hf; intro a hf
        refine dr_take 7 (.int .i64 (((x0_A.drop 0).take (((imin (x0_A.length : Int) (60 : Int))).toNat - 0)).length : Int)) rfl (by kernel_rfl) (by kernel_rfl) (by kernel_rfl) (by kernel_rfl) rfl rfl hf (by decide) rfl (fun w hp => ?_) ⟨_, hp⟩ ?_
        · obtain ⟨_, hp⟩ := hp
          refine st_len (E := Ek.bool) hf (by decide) Try.underlying25 rfl rfl (rl50.sl hp) ?_
          clear hf; intro a ha hf
          exact st_nil hf (th_n ⟨ha, rfl⟩)
        clear hf; intro a hf
        refine dr_take 8 (.bool (decide (i11 < (((x0_A.drop 0).take (((imin (x0_A.length : Int) (60 : Int))).toNat - 0)).length : Int)))) rfl (by kernel_rfl) (by kernel_rfl) (by kernel_rfl) (by kernel_rfl) rfl rfl hf (by decide) rfl (fun w hp => ?_) ⟨_, hp⟩ ?_
        · obtain ⟨_, hp⟩ := hp
          refine st_ilss hf (by decide) rfl rfl rfl ?_
          clear hf; intro a ha hf
          exact st_nil hf (th_n ⟨ha, rfl⟩)
        clear hf; intro a hf
        refine dr_take 9 (.bool (decide (i11 < (((x0_A.drop 0).take (((imin (x0_A.length : Int) (60 : Int))).toNat - 0)).length : Int)))) rfl (by kernel_rfl) (by kernel_rfl) (by kernel_rfl) (by kernel_rfl) rfl rfl hf (by decide) rfl (fun w hp => ?_) ⟨_, hp⟩ ?_
        · obtain ⟨_, hp⟩ := hp
          refine st_move hf rfl rfl (by decide) ?_
          clear hf; intro a ha hf
          exact st_nil hf (th_n ⟨ha, rfl⟩)
        clear hf; intro a hf
        refine dr_out 10 rfl (by kernel_rfl) (by kernel_rfl) (by kernel_rfl) (by kernel_rfl) rfl hf (by decide) rfl (wantN hf rfl rfl hb54) ⟨_, hp⟩ ?_
        clear hf; intro a hf
        refine dr_out 11 rfl (by kernel_rfl) (by kernel_rfl) (by kernel_rfl) (by kernel_rfl) rfl hf (by decide) rfl (wantN hf rfl rfl hb54) ⟨_, hp⟩ ?_
        clear hf; intro a hf
        refine dr_out 12 rfl (by kernel_rfl) (by kernel_rfl) (by kernel_rfl) (by kernel_rfl) rfl hf (by decide) rfl (wantN hf rfl rfl hb54) ⟨_, hp⟩ ?_
        clear hf; intro a hf
        refine dr_out 13 rfl (by kernel_rfl) (by kernel_rfl) (by kernel_rfl) (by kernel_rfl) rfl hf (by decide) rfl (wantN hf rfl rfl hb54) ⟨_, hp⟩ ?_
        clear hf; intro a hf
        refine dr_take 14 (.bool z56) rfl (by kernel_rfl) (by kernel_rfl) (by kernel_rfl) (by kernel_rfl) rfl rfl hf (by decide) rfl (fun w hp => ?_) ⟨_, hp⟩ ?_
        · obtain ⟨_, hp⟩ := hp
          refine st_pick (v := .bool z56) hf rfl rfl (fun hb' => absurd (hb54.symm.trans hb') (by decide)) (fun _ => by rw [← hz53]; rfl) (by decide) ?_
          clear hf; intro a ha hf
          exact st_nil hf (th_n ⟨ha, rfl⟩)
        clear hf; intro a hf
        refine dr_one 15 rfl (by kernel_rfl) ?_
        refine st_call hf (by decide) Try.func16 rfl rfl rfl rfl rfl (f_trellis_Code_Step_c hp _ _ _ _ _ hcall58) ?_
        rintro _ w ⟨rfl, hp0⟩
        clear hp; have hp := hp0; clear hp0
        replace hp : Hp _ _ _ (Res.sl Ek.bool 4 v35 u5 :: ow) := hp
        refine ⟨_, rfl, ?_⟩
        clear hf; intro a hf
        refine st_nil hf (th_n ⟨fun _ _ => ⟨_, hp⟩, ?_⟩)
        refine dr_take 16 (.tuple #[.int .i64 q57.1, .bool q57.2.1, .bool q57.2.2.1, .int .i64 q57.2.2.2]) rfl (by kernel_rfl) (by kernel_rfl) (by kernel_rfl) (by kernel_rfl) rfl rfl hf (by decide) rfl (fun w hp => ?_) ⟨_, hp⟩ ?_
        · obtain ⟨_, hp⟩ := hp
          refine st_move hf rfl rfl (by decide) ?_
          clear hf; intro a ha hf
          exact st_nil hf (th_n ⟨ha, rfl⟩)
        clear hf; intro a hf
        refine dr_take 17 (.int .i64 q57.1) rfl (by kernel_rfl) (by kernel_rfl) (by kernel_rfl) (by kernel_rfl) rfl rfl hf (by decide) rfl (fun w hp => ?_) ⟨_, hp⟩ ?_
        · obtain ⟨_, hp⟩ := hp
          refine st_extract hf (by decide) rfl rfl rfl ?_
          clear hf; intro a ha hf
          exact st_nil hf (th_n ⟨ha, rfl⟩)
        clear hf; intro a hf
        refine dr_take 18 (.bool q57.2.1) rfl (by kernel_rfl) (by kernel_rfl) (by kernel_rfl) (by kernel_rfl) rfl rfl hf (by decide) rfl (fun w hp => ?_) ⟨_, hp⟩ ?_
        · obtain ⟨_, hp⟩ := hp
          refine st_extract hf (by decide) rfl rfl rfl ?_
          clear hf; intro a ha hf
          exact st_nil hf (th_n ⟨ha, rfl⟩)
        clear hf; intro a hf
        refine dr_take 19 (.bool q57.2.2.1) rfl (by kernel_rfl) (by kernel_rfl) (by kernel_rfl) (by kernel_rfl) rfl rfl hf (by decide) rfl (fun w hp => ?_) ⟨_, hp⟩ ?_
        · obtain ⟨_, hp⟩ := hp
          refine st_extract hf (by decide) rfl rfl rfl ?_
          clear hf; intro a ha hf
          exact st_nil hf (th_n ⟨ha, rfl⟩)
        clear hf; intro a hf
        refine dr_take 20 (.int .i64 q57.2.2.2) rfl (by kernel_rfl) (by kernel_rfl) (by kernel_rfl) (by kernel_rfl) rfl rfl hf (by decide) rfl (fun w hp => ?_) ⟨_, hp⟩ ?_
        · obtain ⟨_, hp⟩ := hp
          refine st_extract hf (by decide) rfl rfl rfl ?_
          clear hf; intro a ha hf
          exact st_nil hf (th_n ⟨ha, rfl⟩)
        clear hf; intro a hf
        refine dr_take 21 (.int .i64 q57.1) rfl (by kernel_rfl) (by kernel_rfl) (by kernel_rfl) (by kernel_rfl) rfl rfl hf (by decide) rfl (fun w hp => ?_) ⟨_, hp⟩ ?_
        · obtain ⟨_, hp⟩ := hp
          refine st_assign hf rfl rfl (by decide) ?_
          clear hf; intro a ha hf
          exact st_nil hf (th_n ⟨ha, rfl⟩)
        clear hf; intro a hf
        refine dr_take 22 (.bool q57.2.1) rfl (by kernel_rfl) (by kernel_rfl) (by kernel_rfl) (by kernel_rfl) rfl rfl hf (by decide) rfl (fun w hp => ?_) ⟨_, hp⟩ ?_
        · obtain ⟨_, hp⟩ := hp
          refine st_assign hf rfl rfl (by decide) ?_
          clear hf; intro a ha hf
          exact st_nil hf (th_n ⟨ha, rfl⟩)
        clear hf; intro a hf
        refine dr_take 23 (.bool q57.2.2.1) rfl (by kernel_rfl) (by kernel_rfl) (by kernel_rfl) (by kernel_rfl) rfl rfl hf (by decide) rfl (fun w hp => ?_) ⟨_, hp⟩ ?_
        · obtain ⟨_, hp⟩ := hp
          refine st_assign hf rfl rfl (by decide) ?_
          clear hf; intro a ha hf
          exact st_nil hf (th_n ⟨ha, rfl⟩)
        clear hf; intro a hf
        refine dr_take 24 (.int .i64 q57.2.2.2) rfl (by kernel_rfl) (by kernel_rfl) (by kernel_rfl) (by kernel_rfl) rfl rfl hf (by decide) rfl (fun w hp => ?_) ⟨_, hp⟩ ?_
        · obtain ⟨_, hp⟩ := hp
          refine st_assign hf rfl rfl (by decide) ?_
          clear hf; intro a ha hf
          exact st_nil hf (th_n ⟨ha, rfl⟩)
        clear hf; intro a hf
        refine dr_end (by kernel_rfl) ?_ _
        have hp := bk48 _ _ hp
        have hp := bk43 _ _ hp
        exact ⟨hf.sub ⟨rfl, rfl, rfl, rfl, rfl, rfl, rfl, rfl, rfl, rfl, trivial⟩, hp⟩
      rintro a w ⟨hf, hp⟩
      refine th_n ?_
      refine wp_seq ?_
      obtain ⟨S59, hp60, rd61, up62, bk63⟩ := Hp.lendO hp (i := 0) rfl
      obtain ⟨S64, hp65, rd66, up67, bk68⟩ := Hp.lendS hp60 (i := 0) rfl
      have rl69 := ((rd61.now hp60).mono up67)
      have rl70 := (((((RdS.cut hx0_A hc8 hc9).now hp).mono up62).now hp60).mono up67)
      have rl71 := rd66
      obtain ⟨hc72, h⟩ := chk h
      obtain ⟨q73, hcall74, h⟩ := bnd h
      refine wp_cutN (fun a w => ∃ (v75 : Value), Fr 263 a [(3, optr v5 0), (4, (GL.cut vx0_A 0 (((imin (x0_A.length : Int) (60 : Int))).toNat) 1)), (5, v35), (7, v37), (9, .int .i64 q18.1), (11, .int .i64 i11), (12, .int .i64 q57.1), (13, .bool q57.2.1), (14, .bool q57.2.2.1), (15, .int .i64 q57.2.2.2), (16, optr v75 0), (17, .int .i64 q73.2)] ∧ Hp S w0 w (Res.obj 34 v5 [.int .i64 c3c_0, .int .u32 c3c_1, .int .u32 c3c_2] :: Res.sl (Ek.int .i64) 3 v37 w7 :: Res.obj 46 v75 [.int .i64 q73.1.1, .int .i64 q73.1.2] :: Res.sl Ek.bool 4 v35 u5 :: ow)) ?_ ?_
      · have hp := hp65.same (Same.drew w)
        refine dr_begin' (fun a w => ∃ (v75 : Value), Fr 263 a [(3, optr v5 0), (4, (GL.cut vx0_A 0 (((imin (x0_A.length : Int) (60 : Int))).toNat) 1)), (5, v35), (7, v37), (9, .int .i64 q18.1), (11, .int .i64 i11), (12, .int .i64 q57.1), (13, .bool q57.2.1), (14, .bool q57.2.2.1), (15, .int .i64 q57.2.2.2), (16, optr v75 0), (17, .int .i64 q73.2)] ∧ Hp S w0 w (Res.obj 34 v5 [.int .i64 c3c_0, .int .u32 c3c_1, .int .u32 c3c_2] :: Res.sl (Ek.int .i64) 3 v37 w7 :: Res.obj 46 v75 [.int .i64 q73.1.1, .int .i64 q73.1.2] :: Res.sl Ek.bool 4 v35 u5 :: ow)) (fun w' => ∃ l, Hp S64 w w' l) [] (by kernel_rfl) ?_
        refine dr_take 0 (.agg #[.int .i64 c3c_0, .int .u32 c3c_1, .int .u32 c3c_2]) rfl (by kernel_rfl) (by kernel_rfl) (by kernel_rfl) (by kernel_rfl) rfl rfl hf (by decide) rfl (fun w hp => ?_) ⟨_, hp⟩ ?_
        · obtain ⟨_, hp⟩ := hp
          refine st_ldOA (m := 3) (us := [.int .i64 c3c_0, .int .u32 c3c_1, .int .u32 c3c_2]) hf (by decide) (by kernel_rfl) rfl rfl (rl69.ob hp) rfl rfl ?_
          clear hf; intro a ha hf
          exact st_nil hf (th_n ⟨ha, rfl⟩)
        clear hf; intro a hf
        refine dr_take 1 (v37) rfl (by kernel_rfl) (by kernel_rfl) (by kernel_rfl) (by kernel_rfl) rfl rfl hf (by decide) rfl (fun w hp => ?_) ⟨_, hp⟩ ?_
        · obtain ⟨_, hp⟩ := hp
          refine st_move hf rfl rfl (by decide) ?_
          clear hf; intro a ha hf
          exact st_nil hf (th_n ⟨ha, rfl⟩)
        clear hf; intro a hf
        refine dr_take 2 (.int .i64 i11) rfl (by kernel_rfl) (by kernel_rfl) (by kernel_rfl) (by kernel_rfl) rfl rfl hf (by decide) rfl (fun w hp => ?_) ⟨_, hp⟩ ?_
        · obtain ⟨_, hp⟩ := hp
          refine st_move hf rfl rfl (by decide) ?_
          clear hf; intro a ha hf
          exact st_nil hf (th_n ⟨ha, rfl⟩)
        clear hf; intro a hf
        refine dr_take 3 (.int .i64 (IntKind.i64.wrap (i11 + (1 : Int)))) rfl (by kernel_rfl) (by kernel_rfl) (by kernel_rfl) (by kernel_rfl) rfl rfl hf (by decide) rfl (fun w hp => ?_) ⟨_, hp⟩ ?_
        · obtain ⟨_, hp⟩ := hp
          refine st_iadd hf (by decide) rfl rfl rfl ?_
          clear hf; intro a ha hf
          exact st_nil hf (th_n ⟨ha, rfl⟩)
        clear hf; intro a hf
        refine dr_take 4 (eptr v37 (IntKind.i64.wrap (i11 + (1 : Int))) 1) rfl (by kernel_rfl) (by kernel_rfl) (by kernel_rfl) (by kernel_rfl) rfl rfl hf (by decide) rfl (fun w hp => ?_) ⟨_, hp⟩ ?_
        · obtain ⟨_, hp⟩ := hp
          refine st_index (E := (Ek.int .i64)) hf (by decide) Try.underlying39 elt3 rfl rfl rfl (rl71.sl hp) hc72.1 hc72.2 ?_
          clear hf; intro a ha hf
          exact st_nil hf (th_n ⟨ha, rfl⟩)
        clear hf; intro a hf
        refine dr_take 5 (.int .i64 (gt w7 (IntKind.i64.wrap (i11 + (1 : Int))))) rfl (by kernel_rfl) (by kernel_rfl) (by kernel_rfl) (by kernel_rfl) rfl rfl hf (by decide) rfl (fun w hp => ?_) ⟨_, hp⟩ ?_
        · obtain ⟨_, hp⟩ := hp
          refine st_ldI hf (by decide) pl3 rfl rfl (rl71.sl hp) hc72.1 hc72.2 ?_
          clear hf; intro a ha hf
          exact st_nil hf (th_n ⟨ha, rfl⟩)
        clear hf; intro a hf
        refine dr_two 6 10 rfl rfl (by kernel_rfl) ?_ ?_
        · skip
          refine st_call hf (by decide) Try.func17 rfl rfl rfl rfl rfl (f_trellis_Code_From_c hp _ _ _ _ hcall74) ?_
          rintro _ w ⟨rfl, hp0⟩
          clear hp; have hp := hp0; clear hp0
          replace hp : Hp _ _ _ (Res.sl Ek.bool 4 v35 u5 :: ow) := hp
          refine ⟨_, rfl, ?_⟩
          clear hf; intro a hf
          refine st_nil hf (th_n ⟨fun _ _ => ⟨_, hp⟩, ?_⟩)
          refine dr_take 7 (.tuple #[.agg #[.int .i64 q73.1.1, .int .i64 q73.1.2], .int .i64 q73.2]) rfl (by kernel_rfl) (by kernel_rfl) (by kernel_rfl) (by kernel_rfl) rfl rfl hf (by decide) rfl (fun w hp => ?_) ⟨_, hp⟩ ?_
          · obtain ⟨_, hp⟩ := hp
            refine st_move hf rfl rfl (by decide) ?_
            clear hf; intro a ha hf
            exact st_nil hf (th_n ⟨ha, rfl⟩)
          clear hf; intro a hf
          refine dr_take 8 (.agg #[.int .i64 q73.1.1, .int .i64 q73.1.2]) rfl (by kernel_rfl) (by kernel_rfl) (by kernel_rfl) (by kernel_rfl) rfl rfl hf (by decide) rfl (fun w hp => ?_) ⟨_, hp⟩ ?_
          · obtain ⟨_, hp⟩ := hp
            refine st_extract hf (by decide) rfl rfl rfl ?_
            clear hf; intro a ha hf
            exact st_nil hf (th_n ⟨ha, rfl⟩)
          clear hf; intro a hf
          refine dr_take 9 (.int .i64 q73.2) rfl (by kernel_rfl) (by kernel_rfl) (by kernel_rfl) (by kernel_rfl) rfl rfl hf (by decide) rfl (fun w hp => ?_) ⟨_, hp⟩ ?_
          · obtain ⟨_, hp⟩ := hp
            refine st_extract hf (by decide) rfl rfl rfl ?_
            clear hf; intro a ha hf
            exact st_nil hf (th_n ⟨ha, rfl⟩)
          clear hf; intro a hf
          refine dr_one 10 rfl (by kernel_rfl) ?_
          refine st_alloc (cs := [.int .i64 (0 : Int), .int .i64 (0 : Int)]) (zv := .agg #[.int .i64 (0 : Int), .int .i64 (0 : Int)]) hf (by decide) (by kernel_rfl) rfl hp rfl ?_
          clear hf; intro a w v75 hf hp0; clear hp; have hp := hp0; clear hp0
          replace hp : Hp _ _ _ (Res.obj 46 v75 [.int .i64 (0 : Int), .int .i64 (0 : Int)] :: Res.sl Ek.bool 4 v35 u5 :: ow) := hp
          refine st_nil hf (th_n ⟨fun _ _ => ⟨_, hp⟩, ?_⟩)
          refine dr_one 11 rfl (by kernel_rfl) ?_
          refine st_stO (us := [.int .i64 q73.1.1, .int .i64 q73.1.2]) hf hp (i := 0) rfl rfl rfl rfl rfl (by rfl) (by kernel_rfl) (Nat.le_of_ble_eq_true rfl) ?_
          clear hf; intro a w hf hp0; clear hp; have hp := hp0; clear hp0
          replace hp : Hp _ _ _ (Res.obj 46 v75 [.int .i64 q73.1.1, .int .i64 q73.1.2] :: Res.sl Ek.bool 4 v35 u5 :: ow) := hp
          refine st_nil hf (th_n ⟨fun _ _ => ⟨_, hp⟩, ?_⟩)
          refine dr_take 12 (.int .i64 q73.2) rfl (by kernel_rfl) (by kernel_rfl) (by kernel_rfl) (by kernel_rfl) rfl rfl hf (by decide) rfl (fun w hp => ?_) ⟨_, hp⟩ ?_
          · obtain ⟨_, hp⟩ := hp
            refine st_assign hf rfl rfl (by decide) ?_
            clear hf; intro a ha hf
            exact st_nil hf (th_n ⟨ha, rfl⟩)
          clear hf; intro a hf
          refine dr_end (by kernel_rfl) ?_ _
          have hp := bk68 _ _ hp
          have hp := bk63 _ _ hp
          exact ⟨v75, hf.sub ⟨rfl, rfl, rfl, rfl, rfl, rfl, rfl, rfl, rfl, rfl, rfl, rfl, trivial⟩, hp⟩
        · skip
          refine st_alloc (cs := [.int .i64 (0 : Int), .int .i64 (0 : Int)]) (zv := .agg #[.int .i64 (0 : Int), .int .i64 (0 : Int)]) hf (by decide) (by kernel_rfl) rfl hp rfl ?_
          clear hf; intro a w v75 hf hp0; clear hp; have hp := hp0; clear hp0
          replace hp : Hp _ _ _ (Res.obj 46 v75 [.int .i64 (0 : Int), .int .i64 (0 : Int)] :: Res.sl Ek.bool 4 v35 u5 :: ow) := hp
          refine st_nil hf (th_n ⟨fun _ _ => ⟨_, hp⟩, ?_⟩)
          refine dr_one 6 rfl (by kernel_rfl) ?_
          refine st_call hf (by decide) Try.func17 rfl rfl rfl rfl rfl (f_trellis_Code_From_c hp _ _ _ _ hcall74) ?_
          rintro _ w ⟨rfl, hp0⟩
          clear hp; have hp := hp0; clear hp0
          replace hp : Hp _ _ _ (Res.obj 46 v75 [.int .i64 (0 : Int), .int .i64 (0 : Int)] :: Res.sl Ek.bool 4 v35 u5 :: ow) := hp
          refine ⟨_, rfl, ?_⟩
          clear hf; intro a hf
          refine st_nil hf (th_n ⟨fun _ _ => ⟨_, hp⟩, ?_⟩)
          refine dr_take 7 (.tuple #[.agg #[.int .i64 q73.1.1, .int .i64 q73.1.2], .int .i64 q73.2]) rfl (by kernel_rfl) (by kernel_rfl) (by kernel_rfl) (by kernel_rfl) rfl rfl hf (by decide) rfl (fun w hp => ?_) ⟨_, hp⟩ ?_
          · obtain ⟨_, hp⟩ := hp
            refine st_move hf rfl rfl (by decide) ?_
            clear hf; intro a ha hf
            exact st_nil hf (th_n ⟨ha, rfl⟩)
          clear hf; intro a hf
          refine dr_take 8 (.agg #[.int .i64 q73.1.1, .int .i64 q73.1.2]) rfl (by kernel_rfl) (by kernel_rfl) (by kernel_rfl) (by kernel_rfl) rfl rfl hf (by decide) rfl (fun w hp => ?_) ⟨_, hp⟩ ?_
          · obtain ⟨_, hp⟩ := hp
            refine st_extract hf (by decide) rfl rfl rfl ?_
            clear hf; intro a ha hf
            exact st_nil hf (th_n ⟨ha, rfl⟩)
          clear hf; intro a hf
          refine dr_take 9 (.int .i64 q73.2) rfl (by kernel_rfl) (by kernel_rfl) (by kernel_rfl) (by kernel_rfl) rfl rfl hf (by decide) rfl (fun w hp => ?_) ⟨_, hp⟩ ?_
          · obtain ⟨_, hp⟩ := hp
            refine st_extract hf (by decide) rfl rfl rfl ?_
            clear hf; intro a ha hf
            exact st_nil hf (th_n ⟨ha, rfl⟩)
          clear hf; intro a hf
          refine dr_one 11 rfl (by kernel_rfl) ?_
          refine st_stO (us := [.int .i64 q73.1.1, .int .i64 q73.1.2]) hf hp (i := 0) rfl rfl rfl rfl rfl (by rfl) (by kernel_rfl) (Nat.le_of_ble_eq_true rfl) ?_
          clear hf; intro a w hf hp0; clear hp; have hp := hp0; clear hp0
          replace hp : Hp _ _ _ (Res.obj 46 v75 [.int .i64 q73.1.1, .int .i64 q73.1.2] :: Res.sl Ek.bool 4 v35 u5 :: ow) := hp
          refine st_nil hf (th_n ⟨fun _ _ => ⟨_, hp⟩, ?_⟩)
          refine dr_take 12 (.int .i64 q73.2) rfl (by kernel_rfl) (by kernel_rfl) (by kernel_rfl) (by kernel_rfl) rfl rfl hf (by decide) rfl (fun w hp => ?_) ⟨_, hp⟩ ?_
          · obtain ⟨_, hp⟩ := hp
            refine st_assign hf rfl rfl (by decide) ?_
            clear hf; intro a ha hf
            exact st_nil hf (th_n ⟨ha, rfl⟩)
          clear hf; intro a hf
          refine dr_end (by kernel_rfl) ?_ _
          have hp := bk68 _ _ hp
          have hp := bk63 _ _ hp
          exact ⟨v75, hf.sub ⟨rfl, rfl, rfl, rfl, rfl, rfl, rfl, rfl, rfl, rfl, rfl, rfl, trivial⟩, hp⟩
      rintro a w ⟨v75, hf, hp⟩
      refine th_n ?_
      refine wp_seq ?_
      refine wp_seq ?_
      obtain ⟨S77, hp78, rd79, up80, bk81⟩ := Hp.lendS hp (i := 1) rfl
      obtain ⟨S82, hp83, rd84, up85, bk86⟩ := Hp.lendS hp78 (i := 2) rfl
      obtain ⟨S87, hp88, rd89, up90, bk91⟩ := Hp.lendO hp83 (i := 1) rfl
      have rl92 := (((((((RdS.cut hx0_A hc8 hc9).now hp).mono up80).now hp78).mono up85).now hp83).mono up90)
      have rl93 := ((rd84.now hp83).mono up90)
      have rl94 := ((((rd79.now hp78).mono up85).now hp83).mono up90)
      have rl95 := rd89
      obtain ⟨z101, hz98, h⟩ := bnd h
      obtain ⟨z105, hz102, h⟩ := bnd h
      obtain ⟨z109, hz106, h⟩ := bnd h
      obtain ⟨z119, hz112, h⟩ := bnd h
      refine wp_cutN (fun a w => Fr 263 a [(3, optr v5 0), (4, (GL.cut vx0_A 0 (((imin (x0_A.length : Int) (60 : Int))).toNat) 1)), (5, v35), (7, v37), (9, .int .i64 q18.1), (11, .int .i64 i11), (16, optr v75 0), (190, .bool z119)] ∧ Hp S w0 w (Res.sl (Ek.int .i64) 3 v37 w7 :: Res.sl Ek.bool 4 v35 u5 :: Res.obj 46 v75 [.int .i64 q73.1.1, .int .i64 q73.1.2] :: Res.obj 34 v5 [.int .i64 c3c_0, .int .u32 c3c_1, .int .u32 c3c_2] :: ow)) ?_ ?_
      · have hp := hp88.same (Same.drew w)
        rcases Bool.eq_false_or_eq_true (q57.2.2.2 != (0 : Int)) with hb97 | hb97
        · skip
          have hb99 : ((q57.2.2.2 != (0 : Int)) || (q73.2 != (0 : Int))) = true := by rw [hb97]; rfl
          skip
          replace hz98 := ifT hz98 hb99
          replace hz98 := Option.some.inj hz98
          have hb103 : z101 = true := hz98.symm
          skip
          replace hz102 := ifT hz102 hb103
          replace hz102 := Option.some.inj hz102
          have hb107 : z105 = true := hz102.symm
          skip
          replace hz106 := ifT hz106 hb107
          replace hz106 := Option.some.inj hz106
          have hb111 : z109 = true := hz106.symm
          skip
          have hb113 : (z109 || (decide (q73.1.2 ≤ q73.1.1))) = true := by rw [hb111]; rfl
          skip
          replace hz112 := ifT hz112 hb113
          replace hz112 := Option.some.inj hz112
          refine dr_begin' (fun a w => Fr 263 a [(3, optr v5 0), (4, (GL.cut vx0_A 0 (((imin (x0_A.length : Int) (60 : Int))).toNat) 1)), (5, v35), (7, v37), (9, .int .i64 q18.1), (11, .int .i64 i11), (16, optr v75 0), (190, .bool z119)] ∧ Hp S w0 w (Res.sl (Ek.int .i64) 3 v37 w7 :: Res.sl Ek.bool 4 v35 u5 :: Res.obj 46 v75 [.int .i64 q73.1.1, .int .i64 q73.1.2] :: Res.obj 34 v5 [.int .i64 c3c_0, .int .u32 c3c_1, .int .u32 c3c_2] :: ow)) (fun w' => ∃ l, Hp S87 w w' l) [] (by kernel_rfl) ?_
          refine dr_take 0 (.int .i64 q57.2.2.2) rfl (by kernel_rfl) (by kernel_rfl) (by kernel_rfl) (by kernel_rfl) rfl rfl hf (by decide) rfl (fun w hp => ?_) ⟨_, hp⟩ ?_
          · obtain ⟨_, hp⟩ := hp
            refine st_move hf rfl rfl (by decide) ?_
            clear hf; intro a ha hf
            exact st_nil hf (th_n ⟨ha, rfl⟩)
          clear hf; intro a hf
          refine dr_take 1 (.bool (q57.2.2.2 != (0 : Int))) rfl (by kernel_rfl) (by kernel_rfl) (by kernel_rfl) (by kernel_rfl) rfl rfl hf (by decide) rfl (fun w hp => ?_) ⟨_, hp⟩ ?_
          · obtain ⟨_, hp⟩ := hp
            refine st_ineq hf (by decide) rfl rfl rfl ?_
            clear hf; intro a ha hf
            exact st_nil hf (th_n ⟨ha, rfl⟩)
          clear hf; intro a hf
          refine dr_take 2 (.bool (q57.2.2.2 != (0 : Int))) rfl (by kernel_rfl) (by kernel_rfl) (by kernel_rfl) (by kernel_rfl) rfl rfl hf (by decide) rfl (fun w hp => ?_) ⟨_, hp⟩ ?_
          · obtain ⟨_, hp⟩ := hp
            refine st_move hf rfl rfl (by decide) ?_
            clear hf; intro a ha hf
            exact st_nil hf (th_n ⟨ha, rfl⟩)
          clear hf; intro a hf
          refine dr_out 3 rfl (by kernel_rfl) (by kernel_rfl) (by kernel_rfl) (by kernel_rfl) rfl hf (by decide) rfl (wantN hf rfl rfl hb97) ⟨_, hp⟩ ?_
          clear hf; intro a hf
          refine dr_out 4 rfl (by kernel_rfl) (by kernel_rfl) (by kernel_rfl) (by kernel_rfl) rfl hf (by decide) rfl (wantN hf rfl rfl hb97) ⟨_, hp⟩ ?_
          clear hf; intro a hf
          refine dr_take 5 (.bool ((q57.2.2.2 != (0 : Int)) || (q73.2 != (0 : Int)))) rfl (by kernel_rfl) (by kernel_rfl) (by kernel_rfl) (by kernel_rfl) rfl rfl hf (by decide) rfl (fun w hp => ?_) ⟨_, hp⟩ ?_
          · obtain ⟨_, hp⟩ := hp
            refine st_pick (v := .bool ((q57.2.2.2 != (0 : Int)) || (q73.2 != (0 : Int)))) hf rfl rfl (fun _ => by rw [show ((q57.2.2.2 != (0 : Int)) || (q73.2 != (0 : Int))) = true from by rw [hb97]; rfl]; rfl) (fun hb' => absurd (hb97.symm.trans hb') (by decide)) (by decide) ?_
            clear hf; intro a ha hf
            exact st_nil hf (th_n ⟨ha, rfl⟩)
          clear hf; intro a hf
          refine dr_take 6 (.bool ((q57.2.2.2 != (0 : Int)) || (q73.2 != (0 : Int)))) rfl (by kernel_rfl) (by kernel_rfl) (by kernel_rfl) (by kernel_rfl) rfl rfl hf (by decide) rfl (fun w hp => ?_) ⟨_, hp⟩ ?_
          · obtain ⟨_, hp⟩ := hp
            refine st_move hf rfl rfl (by decide) ?_
            clear hf; intro a ha hf
            exact st_nil hf (th_n ⟨ha, rfl⟩)
          clear hf; intro a hf
          refine dr_out 7 rfl (by kernel_rfl) (by kernel_rfl) (by kernel_rfl) (by kernel_rfl) rfl hf (by decide) rfl (wantN hf rfl rfl hb99) ⟨_, hp⟩ ?_
          clear hf; intro a hf
          refine dr_out 8 rfl (by kernel_rfl) (by kernel_rfl) (by kernel_rfl) (by kernel_rfl) rfl hf (by decide) rfl (wantN hf rfl rfl hb99) ⟨_, hp⟩ ?_
          clear hf; intro a hf
          refine dr_out 9 rfl (by kernel_rfl) (by kernel_rfl) (by kernel_rfl) (by kernel_rfl) rfl hf (by decide) rfl (wantN hf rfl rfl hb99) ⟨_, hp⟩ ?_
          clear hf; intro a hf
          refine dr_out 10 rfl (by kernel_rfl) (by kernel_rfl) (by kernel_rfl) (by kernel_rfl) rfl hf (by decide) rfl (wantN hf rfl rfl hb99) ⟨_, hp⟩ ?_
          clear hf; intro a hf
          refine dr_out 11 rfl (by kernel_rfl) (by kernel_rfl) (by kernel_rfl) (by kernel_rfl) rfl hf (by decide) rfl (wantN hf rfl rfl hb99) ⟨_, hp⟩ ?_
          clear hf; intro a hf
          refine dr_out 12 rfl (by kernel_rfl) (by kernel_rfl) (by kernel_rfl) (by kernel_rfl) rfl hf (by decide) rfl (wantN hf rfl rfl hb99) ⟨_, hp⟩ ?_
          clear hf; intro a hf
          refine dr_out 13 rfl (by kernel_rfl) (by kernel_rfl) (by kernel_rfl) (by kernel_rfl) rfl hf (by decide) rfl (wantN hf rfl rfl hb99) ⟨_, hp⟩ ?_
          clear hf; intro a hf
          refine dr_take 14 (.bool z101) rfl (by kernel_rfl) (by kernel_rfl) (by kernel_rfl) (by kernel_rfl) rfl rfl hf (by decide) rfl (fun w hp => ?_) ⟨_, hp⟩ ?_
          · obtain ⟨_, hp⟩ := hp
            refine st_pick (v := .bool z101) hf rfl rfl (fun _ => by rw [← hz98]; rfl) (fun hb' => absurd (hb99.symm.trans hb') (by decide)) (by decide) ?_
            clear hf; intro a ha hf
            exact st_nil hf (th_n ⟨ha, rfl⟩)
          clear hf; intro a hf
          refine dr_take 15 (.bool z101) rfl (by kernel_rfl) (by kernel_rfl) (by kernel_rfl) (by kernel_rfl) rfl rfl hf (by decide) rfl (fun w hp => ?_) ⟨_, hp⟩ ?_
          · obtain ⟨_, hp⟩ := hp
            refine st_move hf rfl rfl (by decide) ?_
            clear hf; intro a ha hf
            exact st_nil hf (th_n ⟨ha, rfl⟩)
          clear hf; intro a hf
          refine dr_out 16 rfl (by kernel_rfl) (by kernel_rfl) (by kernel_rfl) (by kernel_rfl) rfl hf (by decide) rfl (wantN hf rfl rfl hb103) ⟨_, hp⟩ ?_
          clear hf; intro a hf
          refine dr_out 17 rfl (by kernel_rfl) (by kernel_rfl) (by kernel_rfl) (by kernel_rfl) rfl hf (by decide) rfl (wantN hf rfl rfl hb103) ⟨_, hp⟩ ?_
          clear hf; intro a hf
          refine dr_out 18 rfl (by kernel_rfl) (by kernel_rfl) (by kernel_rfl) (by kernel_rfl) rfl hf (by decide) rfl (wantN hf rfl rfl hb103) ⟨_, hp⟩ ?_
          clear hf; intro a hf
          refine dr_out 19 rfl (by kernel_rfl) (by kernel_rfl) (by kernel_rfl) (by kernel_rfl) rfl hf (by decide) rfl (wantN hf rfl rfl hb103) ⟨_, hp⟩ ?_
          clear hf; intro a hf
          refine dr_out 20 rfl (by kernel_rfl) (by kernel_rfl) (by kernel_rfl) (by kernel_rfl) rfl hf (by decide) rfl (wantN hf rfl rfl hb103) ⟨_, hp⟩ ?_
          clear hf; intro a hf
          refine dr_out 21 rfl (by kernel_rfl) (by kernel_rfl) (by kernel_rfl) (by kernel_rfl) rfl hf (by decide) rfl (wantN hf rfl rfl hb103) ⟨_, hp⟩ ?_
          clear hf; intro a hf
          refine dr_out 22 rfl (by kernel_rfl) (by kernel_rfl) (by kernel_rfl) (by kernel_rfl) rfl hf (by decide) rfl (wantN hf rfl rfl hb103) ⟨_, hp⟩ ?_
          clear hf; intro a hf
          refine dr_take 23 (.bool z105) rfl (by kernel_rfl) (by kernel_rfl) (by kernel_rfl) (by kernel_rfl) rfl rfl hf (by decide) rfl (fun w hp => ?_) ⟨_, hp⟩ ?_
          · obtain ⟨_, hp⟩ := hp
            refine st_pick (v := .bool z105) hf rfl rfl (fun _ => by rw [← hz102]; rfl) (fun hb' => absurd (hb103.symm.trans hb') (by decide)) (by decide) ?_
            clear hf; intro a ha hf
            exact st_nil hf (th_n ⟨ha, rfl⟩)
          clear hf; intro a hf
          refine dr_take 24 (.bool z105) rfl (by kernel_rfl) (by kernel_rfl) (by kernel_rfl) (by kernel_rfl) rfl rfl hf (by decide) rfl (fun w hp => ?_) ⟨_, hp⟩ ?_
          · obtain ⟨_, hp⟩ := hp
            refine st_move hf rfl rfl (by decide) ?_
            clear hf; intro a ha hf
            exact st_nil hf (th_n ⟨ha, rfl⟩)
          clear hf; intro a hf
          refine dr_out 25 rfl (by kernel_rfl) (by kernel_rfl) (by kernel_rfl) (by kernel_rfl) rfl hf (by decide) rfl (wantN hf rfl rfl hb107) ⟨_, hp⟩ ?_
          clear hf; intro a hf
          refine dr_out 26 rfl (by kernel_rfl) (by kernel_rfl) (by kernel_rfl) (by kernel_rfl) rfl hf (by decide) rfl (wantN hf rfl rfl hb107) ⟨_, hp⟩ ?_
          clear hf; intro a hf
          refine dr_out 27 rfl (by kernel_rfl) (by kernel_rfl) (by kernel_rfl) (by kernel_rfl) rfl hf (by decide) rfl (wantN hf rfl rfl hb107) ⟨_, hp⟩ ?_
          clear hf; intro a hf
          refine dr_out 28 rfl (by kernel_rfl) (by kernel_rfl) (by kernel_rfl) (by kernel_rfl) rfl hf (by decide) rfl (wantN hf rfl rfl hb107) ⟨_, hp⟩ ?_
          clear hf; intro a hf
          refine dr_out 29 rfl (by kernel_rfl) (by kernel_rfl) (by kernel_rfl) (by kernel_rfl) rfl hf (by decide) rfl (wantN hf rfl rfl hb107) ⟨_, hp⟩ ?_
          clear hf; intro a hf
          refine dr_out 30 rfl (by kernel_rfl) (by kernel_rfl) (by kernel_rfl) (by kernel_rfl) rfl hf (by decide) rfl (wantN hf rfl rfl hb107) ⟨_, hp⟩ ?_
          clear hf; intro a hf
          refine dr_out 31 rfl (by kernel_rfl) (by kernel_rfl) (by kernel_rfl) (by kernel_rfl) rfl hf (by decide) rfl (wantN hf rfl rfl hb107) ⟨_, hp⟩ ?_
          clear hf; intro a hf
          refine dr_out 32 rfl (by kernel_rfl) (by kernel_rfl) (by kernel_rfl) (by kernel_rfl) rfl hf (by decide) rfl (wantN hf rfl rfl hb107) ⟨_, hp⟩ ?_
          clear hf; intro a hf
          refine dr_take 33 (.bool z109) rfl (by kernel_rfl) (by kernel_rfl) (by kernel_rfl) (by kernel_rfl) rfl rfl hf (by decide) rfl (fun w hp => ?_) ⟨_, hp⟩ ?_
          · obtain ⟨_, hp⟩ := hp
            refine st_pick (v := .bool z109) hf rfl rfl (fun _ => by rw [← hz106]; rfl) (fun hb' => absurd (hb107.symm.trans hb') (by decide)) (by decide) ?_
            clear hf; intro a ha hf
            exact st_nil hf (th_n ⟨ha, rfl⟩)
          clear hf; intro a hf
          refine dr_take 34 (.bool z109) rfl (by kernel_rfl) (by kernel_rfl) (by kernel_rfl) (by kernel_rfl) rfl rfl hf (by decide) rfl (fun w hp => ?_) ⟨_, hp⟩ ?_
          · obtain ⟨_, hp⟩ := hp
            refine st_move hf rfl rfl (by decide) ?_
            clear hf; intro a ha hf
            exact st_nil hf (th_n ⟨ha, rfl⟩)
          clear hf; intro a hf
          refine dr_out 35 rfl (by kernel_rfl) (by kernel_rfl) (by kernel_rfl) (by kernel_rfl) rfl hf (by decide) rfl (wantN hf rfl rfl hb111) ⟨_, hp⟩ ?_
          clear hf; intro a hf
          refine dr_out 36 rfl (by kernel_rfl) (by kernel_rfl) (by kernel_rfl) (by kernel_rfl) rfl hf (by decide) rfl (wantN hf rfl rfl hb111) ⟨_, hp⟩ ?_
          clear hf; intro a hf
          refine dr_out 37 rfl (by kernel_rfl) (by kernel_rfl) (by kernel_rfl) (by kernel_rfl) rfl hf (by decide) rfl (wantN hf rfl rfl hb111) ⟨_, hp⟩ ?_
          clear hf; intro a hf
          refine dr_out 38 rfl (by kernel_rfl) (by kernel_rfl) (by kernel_rfl) (by kernel_rfl) rfl hf (by decide) rfl (wantN hf rfl rfl hb111) ⟨_, hp⟩ ?_
          clear hf; intro a hf
          refine dr_out 39 rfl (by kernel_rfl) (by kernel_rfl) (by kernel_rfl) (by kernel_rfl) rfl hf (by decide) rfl (wantN hf rfl rfl hb111) ⟨_, hp⟩ ?_
          clear hf; intro a hf
          refine dr_take 40 (.bool (z109 || (decide (q73.1.2 ≤ q73.1.1)))) rfl (by kernel_rfl) (by kernel_rfl) (by kernel_rfl) (by kernel_rfl) rfl rfl hf (by decide) rfl (fun w hp => ?_) ⟨_, hp⟩ ?_
          · obtain ⟨_, hp⟩ := hp
            refine st_pick (v := .bool (z109 || (decide (q73.1.2 ≤ q73.1.1)))) hf rfl rfl (fun _ => by rw [show (z109 || (decide (q73.1.2 ≤ q73.1.1))) = true from by rw [hb111]; rfl]; rfl) (fun hb' => absurd (hb111.symm.trans hb') (by decide)) (by decide) ?_
            clear hf; intro a ha hf
            exact st_nil hf (th_n ⟨ha, rfl⟩)
          clear hf; intro a hf
          refine dr_take 41 (.bool (z109 || (decide (q73.1.2 ≤ q73.1.1)))) rfl (by kernel_rfl) (by kernel_rfl) (by kernel_rfl) (by kernel_rfl) rfl rfl hf (by decide) rfl (fun w hp => ?_) ⟨_, hp⟩ ?_
          · obtain ⟨_, hp⟩ := hp
            refine st_move hf rfl rfl (by decide) ?_
            clear hf; intro a ha hf
            exact st_nil hf (th_n ⟨ha, rfl⟩)
          clear hf; intro a hf
          refine dr_out 42 rfl (by kernel_rfl) (by kernel_rfl) (by kernel_rfl) (by kernel_rfl) rfl hf (by decide) rfl (wantN hf rfl rfl hb113) ⟨_, hp⟩ ?_
          clear hf; intro a hf
          refine dr_out 43 rfl (by kernel_rfl) (by kernel_rfl) (by kernel_rfl) (by kernel_rfl) rfl hf (by decide) rfl (wantN hf rfl rfl hb113) ⟨_, hp⟩ ?_
          clear hf; intro a hf
          refine dr_out 44 rfl (by kernel_rfl) (by kernel_rfl) (by kernel_rfl) (by kernel_rfl) rfl hf (by decide) rfl (wantN hf rfl rfl hb113) ⟨_, hp⟩ ?_
          clear hf; intro a hf
          refine dr_out 45 rfl (by kernel_rfl) (by kernel_rfl) (by kernel_rfl) (by kernel_rfl) rfl hf (by decide) rfl (wantN hf rfl rfl hb113) ⟨_, hp⟩ ?_
          clear hf; intro a hf
          refine dr_out 46 rfl (by kernel_rfl) (by kernel_rfl) (by kernel_rfl) (by kernel_rfl) rfl hf (by decide) rfl (wantN hf rfl rfl hb113) ⟨_, hp⟩ ?_
          clear hf; intro a hf
          refine dr_out 47 rfl (by kernel_rfl) (by kernel_rfl) (by kernel_rfl) (by kernel_rfl) rfl hf (by decide) rfl (wantN hf rfl rfl hb113) ⟨_, hp⟩ ?_
          clear hf; intro a hf
          refine dr_out 48 rfl (by kernel_rfl) (by kernel_rfl) (by kernel_rfl) (by kernel_rfl) rfl hf (by decide) rfl (wantN hf rfl rfl hb113) ⟨_, hp⟩ ?_
          clear hf; intro a hf
          refine dr_outU 49 rfl (by kernel_rfl) (by kernel_rfl) (by kernel_rfl) (by kernel_rfl) rfl hf (by decide) (wantN hf rfl rfl hb113) ⟨_, hp⟩ ?_
          clear hf; intro a hf
          refine dr_out 50 rfl (by kernel_rfl) (by kernel_rfl) (by kernel_rfl) (by kernel_rfl) rfl hf (by decide) rfl (wantU hf rfl rfl) ⟨_, hp⟩ ?_
          clear hf; intro a hf
          refine dr_out 51 rfl (by kernel_rfl) (by kernel_rfl) (by kernel_rfl) (by kernel_rfl) rfl hf (by decide) rfl (wantU hf rfl rfl) ⟨_, hp⟩ ?_
          clear hf; intro a hf
          refine dr_out 52 rfl (by kernel_rfl) (by kernel_rfl) (by kernel_rfl) (by kernel_rfl) rfl hf (by decide) rfl (wantU hf rfl rfl) ⟨_, hp⟩ ?_
          clear hf; intro a hf
          refine dr_out 53 rfl (by kernel_rfl) (by kernel_rfl) (by kernel_rfl) (by kernel_rfl) rfl hf (by decide) rfl (wantU hf rfl rfl) ⟨_, hp⟩ ?_
          clear hf; intro a hf
          refine dr_out 54 rfl (by kernel_rfl) (by kernel_rfl) (by kernel_rfl) (by kernel_rfl) rfl hf (by decide) rfl (wantU hf rfl rfl) ⟨_, hp⟩ ?_
          clear hf; intro a hf
          refine dr_out 55 rfl (by kernel_rfl) (by kernel_rfl) (by kernel_rfl) (by kernel_rfl) rfl hf (by decide) rfl (wantU hf rfl rfl) ⟨_, hp⟩ ?_
          clear hf; intro a hf
          refine dr_out 56 rfl (by kernel_rfl) (by kernel_rfl) (by kernel_rfl) (by kernel_rfl) rfl hf (by decide) rfl (wantU hf rfl rfl) ⟨_, hp⟩ ?_
          clear hf; intro a hf
          refine dr_out 57 rfl (by kernel_rfl) (by kernel_rfl) (by kernel_rfl) (by kernel_rfl) rfl hf (by decide) rfl (wantN hf rfl rfl hb113) ⟨_, hp⟩ ?_
          clear hf; intro a hf
          refine dr_take 58 (.bool z119) rfl (by kernel_rfl) (by kernel_rfl) (by kernel_rfl) (by kernel_rfl) rfl rfl hf (by decide) rfl (fun w hp => ?_) ⟨_, hp⟩ ?_
          · obtain ⟨_, hp⟩ := hp
            refine st_pick (v := .bool z119) hf rfl rfl (fun _ => by rw [← hz112]; rfl) (fun hb' => absurd (hb113.symm.trans hb') (by decide)) (by decide) ?_
            clear hf; intro a ha hf
            exact st_nil hf (th_n ⟨ha, rfl⟩)
          clear hf; intro a hf
          refine dr_end (by kernel_rfl) ?_ _
          have hp := bk91 _ _ hp
          have hp := bk86 _ _ hp
          have hp := bk81 _ _ hp
          exact ⟨hf.sub ⟨rfl, rfl, rfl, rfl, rfl, rfl, rfl, rfl, trivial⟩, hp⟩
        skip
        rcases Bool.eq_false_or_eq_true ((q57.2.2.2 != (0 : Int)) || (q73.2 != (0 : Int))) with hb99 | hb99
        · skip
          replace hz98 := ifT hz98 hb99
          replace hz98 := Option.some.inj hz98
          have hb103 : z101 = true := hz98.symm
          skip
          replace hz102 := ifT hz102 hb103
          replace hz102 := Option.some.inj hz102
          have hb107 : z105 = true := hz102.symm
          skip
          replace hz106 := ifT hz106 hb107
          replace hz106 := Option.some.inj hz106
          have hb111 : z109 = true := hz106.symm
          skip
          have hb113 : (z109 || (decide (q73.1.2 ≤ q73.1.1))) = true := by rw [hb111]; rfl
          skip
          replace hz112 := ifT hz112 hb113
          replace hz112 := Option.some.inj hz112
          refine dr_begin' (fun a w => Fr 263 a [(3, optr v5 0), (4, (GL.cut vx0_A 0 (((imin (x0_A.length : Int) (60 : Int))).toNat) 1)), (5, v35), (7, v37), (9, .int .i64 q18.1), (11, .int .i64 i11), (16, optr v75 0), (190, .bool z119)] ∧ Hp S w0 w (Res.sl (Ek.int .i64) 3 v37 w7 :: Res.sl Ek.bool 4 v35 u5 :: Res.obj 46 v75 [.int .i64 q73.1.1, .int .i64 q73.1.2] :: Res.obj 34 v5 [.int .i64 c3c_0, .int .u32 c3c_1, .int .u32 c3c_2] :: ow)) (fun w' => ∃ l, Hp S87 w w' l) [] (by kernel_rfl) ?_
          refine dr_take 0 (.int .i64 q57.2.2.2) rfl (by kernel_rfl) (by kernel_rfl) (by kernel_rfl) (by kernel_rfl) rfl rfl hf (by decide) rfl (fun w hp => ?_) ⟨_, hp⟩ ?_
          · obtain ⟨_, hp⟩ := hp
            refine st_move hf rfl rfl (by decide) ?_
            clear hf; intro a ha hf
            exact st_nil hf (th_n ⟨ha, rfl⟩)
          clear hf; intro a hf
          refine dr_take 1 (.bool (q57.2.2.2 != (0 : Int))) rfl (by kernel_rfl) (by kernel_rfl) (by kernel_rfl) (by kernel_rfl) rfl rfl hf (by decide) rfl (fun w hp => ?_) ⟨_, hp⟩ ?_
          · obtain ⟨_, hp⟩ := hp
            refine st_ineq hf (by decide) rfl rfl rfl ?_
            clear hf; intro a ha hf
            exact st_nil hf (th_n ⟨ha, rfl⟩)
          clear hf; intro a hf
          refine dr_take 2 (.bool (q57.2.2.2 != (0 : Int))) rfl (by kernel_rfl) (by kernel_rfl) (by kernel_rfl) (by kernel_rfl) rfl rfl hf (by decide) rfl (fun w hp => ?_) ⟨_, hp⟩ ?_
          · obtain ⟨_, hp⟩ := hp
            refine st_move hf rfl rfl (by decide) ?_
            clear hf; intro a ha hf
            exact st_nil hf (th_n ⟨ha, rfl⟩)
          clear hf; intro a hf
          refine dr_take 3 (.int .i64 q73.2) rfl (by kernel_rfl) (by kernel_rfl) (by kernel_rfl) (by kernel_rfl) rfl rfl hf (by decide) (wantY hf rfl rfl hb97) (fun w hp => ?_) ⟨_, hp⟩ ?_
          · obtain ⟨_, hp⟩ := hp
            refine st_move hf (wantY hf rfl rfl hb97) rfl (by decide) ?_
            clear hf; intro a ha hf
            exact st_nil hf (th_n ⟨ha, rfl⟩)
          clear hf; intro a hf
          refine dr_take 4 (.bool (q73.2 != (0 : Int))) rfl (by kernel_rfl) (by kernel_rfl) (by kernel_rfl) (by kernel_rfl) rfl rfl hf (by decide) (wantY hf rfl rfl hb97) (fun w hp => ?_) ⟨_, hp⟩ ?_
          · obtain ⟨_, hp⟩ := hp
            refine st_ineq hf (by decide) (wantY hf rfl rfl hb97) rfl rfl ?_
            clear hf; intro a ha hf
            exact st_nil hf (th_n ⟨ha, rfl⟩)
          clear hf; intro a hf
          refine dr_take 5 (.bool ((q57.2.2.2 != (0 : Int)) || (q73.2 != (0 : Int)))) rfl (by kernel_rfl) (by kernel_rfl) (by kernel_rfl) (by kernel_rfl) rfl rfl hf (by decide) rfl (fun w hp => ?_) ⟨_, hp⟩ ?_
          · obtain ⟨_, hp⟩ := hp
            refine st_pick (v := .bool ((q57.2.2.2 != (0 : Int)) || (q73.2 != (0 : Int)))) hf rfl rfl (fun hb' => absurd (hb97.symm.trans hb') (by decide)) (fun _ => by rw [show ((q57.2.2.2 != (0 : Int)) || (q73.2 != (0 : Int))) = (q73.2 != (0 : Int)) from by rw [hb97]; rfl]; rfl) (by decide) ?_
            clear hf; intro a ha hf
            exact st_nil hf (th_n ⟨ha, rfl⟩)
          clear hf; intro a hf
          refine dr_take 6 (.bool ((q57.2.2.2 != (0 : Int)) || (q73.2 != (0 : Int)))) rfl (by kernel_rfl) (by kernel_rfl) (by kernel_rfl) (by kernel_rfl) rfl rfl hf (by decide) rfl (fun w hp => ?_) ⟨_, hp⟩ ?_
          · obtain ⟨_, hp⟩ := hp
            refine st_move hf rfl rfl (by decide) ?_
            clear hf; intro a ha hf
            exact st_nil hf (th_n ⟨ha, rfl⟩)
          clear hf; intro a hf
          refine dr_out 7 rfl (by kernel_rfl) (by kernel_rfl) (by kernel_rfl) (by kernel_rfl) rfl hf (by decide) rfl (wantN hf rfl rfl hb99) ⟨_, hp⟩ ?_
          clear hf; intro a hf
          refine dr_out 8 rfl (by kernel_rfl) (by kernel_rfl) (by kernel_rfl) (by kernel_rfl) rfl hf (by decide) rfl (wantN hf rfl rfl hb99) ⟨_, hp⟩ ?_
          clear hf; intro a hf
          refine dr_out 9 rfl (by kernel_rfl) (by kernel_rfl) (by kernel_rfl) (by kernel_rfl) rfl hf (by decide) rfl (wantN hf rfl rfl hb99) ⟨_, hp⟩ ?_
          clear hf; intro a hf
          refine dr_out 10 rfl (by kernel_rfl) (by kernel_rfl) (by kernel_rfl) (by kernel_rfl) rfl hf (by decide) rfl (wantN hf rfl rfl hb99) ⟨_, hp⟩ ?_
          clear hf; intro a hf
          refine dr_out 11 rfl (by kernel_rfl) (by kernel_rfl) (by kernel_rfl) (by kernel_rfl) rfl hf (by decide) rfl (wantN hf rfl rfl hb99) ⟨_, hp⟩ ?_
          clear hf; intro a hf
          refine dr_out 12 rfl (by kernel_rfl) (by kernel_rfl) (by kernel_rfl) (by kernel_rfl) rfl hf (by decide) rfl (wantN hf rfl rfl hb99) ⟨_, hp⟩ ?_
          clear hf; intro a hf
          refine dr_out 13 rfl (by kernel_rfl) (by kernel_rfl) (by kernel_rfl) (by kernel_rfl) rfl hf (by decide) rfl (wantN hf rfl rfl hb99) ⟨_, hp⟩ ?_
          clear hf; intro a hf
          refine dr_take 14 (.bool z101) rfl (by kernel_rfl) (by kernel_rfl) (by kernel_rfl) (by kernel_rfl) rfl rfl hf (by decide) rfl (fun w hp => ?_) ⟨_, hp⟩ ?_
          · obtain ⟨_, hp⟩ := hp
            refine st_pick (v := .bool z101) hf rfl rfl (fun _ => by rw [← hz98]; rfl) (fun hb' => absurd (hb99.symm.trans hb') (by decide)) (by decide) ?_
            clear hf; intro a ha hf
            exact st_nil hf (th_n ⟨ha, rfl⟩)
          clear hf; intro a hf
          refine dr_take 15 (.bool z101) rfl (by kernel_rfl) (by kernel_rfl) (by kernel_rfl) (by kernel_rfl) rfl rfl hf (by decide) rfl (fun w hp => ?_) ⟨_, hp⟩ ?_
          · obtain ⟨_, hp⟩ := hp
            refine st_move hf rfl rfl (by decide) ?_
            clear hf; intro a ha hf
            exact st_nil hf (th_n ⟨ha, rfl⟩)
          clear hf; intro a hf
          refine dr_out 16 rfl (by kernel_rfl) (by kernel_rfl) (by kernel_rfl) (by kernel_rfl) rfl hf (by decide) rfl (wantN hf rfl rfl hb103) ⟨_, hp⟩ ?_
          clear hf; intro a hf
          refine dr_out 17 rfl (by kernel_rfl) (by kernel_rfl) (by kernel_rfl) (by kernel_rfl) rfl hf (by decide) rfl (wantN hf rfl rfl hb103) ⟨_, hp⟩ ?_
          clear hf; intro a hf
          refine dr_out 18 rfl (by kernel_rfl) (by kernel_rfl) (by kernel_rfl) (by kernel_rfl) rfl hf (by decide) rfl (wantN hf rfl rfl hb103) ⟨_, hp⟩ ?_
          clear hf; intro a hf
          refine dr_out 19 rfl (by kernel_rfl) (by kernel_rfl) (by kernel_rfl) (by kernel_rfl) rfl hf (by decide) rfl (wantN hf rfl rfl hb103) ⟨_, hp⟩ ?_
          clear hf; intro a hf
          refine dr_out 20 rfl (by kernel_rfl) (by kernel_rfl) (by kernel_rfl) (by kernel_rfl) rfl hf (by decide) rfl (wantN hf rfl rfl hb103) ⟨_, hp⟩ ?_
          clear hf; intro a hf
          refine dr_out 21 rfl (by kernel_rfl) (by kernel_rfl) (by kernel_rfl) (by kernel_rfl) rfl hf (by decide) rfl (wantN hf rfl rfl hb103) ⟨_, hp⟩ ?_
          clear hf; intro a hf
          refine dr_out 22 rfl (by kernel_rfl) (by kernel_rfl) (by kernel_rfl) (by kernel_rfl) rfl hf (by decide) rfl (wantN hf rfl rfl hb103) ⟨_, hp⟩ ?_
          clear hf; intro a hf
          refine dr_take 23 (.bool z105) rfl (by kernel_rfl) (by kernel_rfl) (by kernel_rfl) (by kernel_rfl) rfl rfl hf (by decide) rfl (fun w hp => ?_) ⟨_, hp⟩ ?_
          · obtain ⟨_, hp⟩ := hp
            refine st_pick (v := .bool z105) hf rfl rfl (fun _ => by rw [← hz102]; rfl) (fun hb' => absurd (hb103.symm.trans hb') (by decide)) (by decide) ?_
            clear hf; intro a ha hf
            exact st_nil hf (th_n ⟨ha, rfl⟩)
          clear hf; intro a hf
          refine dr_take 24 (.bool z105) rfl (by kernel_rfl) (by kernel_rfl) (by kernel_rfl) (by kernel_rfl) rfl rfl hf (by decide) rfl (fun w hp => ?_) ⟨_, hp⟩ ?_
          · obtain ⟨_, hp⟩ := hp
            refine st_move hf rfl rfl (by decide) ?_
            clear hf; intro a ha hf
            exact st_nil hf (th_n ⟨ha, rfl⟩)
          clear hf; intro a hf
          refine dr_out 25 rfl (by kernel_rfl) (by kernel_rfl) (by kernel_rfl) (by kernel_rfl) rfl hf (by decide) rfl (wantN hf rfl rfl hb107) ⟨_, hp⟩ ?_
          clear hf; intro a hf
          refine dr_out 26 rfl (by kernel_rfl) (by kernel_rfl) (by kernel_rfl) (by kernel_rfl) rfl hf (by decide) rfl (wantN hf rfl rfl hb107) ⟨_, hp⟩ ?_
          clear hf; intro a hf
          refine dr_out 27 rfl (by kernel_rfl) (by kernel_rfl) (by kernel_rfl) (by kernel_rfl) rfl hf (by decide) rfl (wantN hf rfl rfl hb107) ⟨_, hp⟩ ?_
          clear hf; intro a hf
          refine dr_out 28 rfl (by kernel_rfl) (by kernel_rfl) (by kernel_rfl) (by kernel_rfl) rfl hf (by decide) rfl (wantN hf rfl rfl hb107) ⟨_, hp⟩ ?_
          clear hf; intro a hf
          refine dr_out 29 rfl (by kernel_rfl) (by kernel_rfl) (by kernel_rfl) (by kernel_rfl) rfl hf (by decide) rfl (wantN hf rfl rfl hb107) ⟨_, hp⟩ ?_
          clear hf; intro a hf
          refine dr_out 30 rfl (by kernel_rfl) (by kernel_rfl) (by kernel_rfl) (by kernel_rfl) rfl hf (by decide) rfl (wantN hf rfl rfl hb107) ⟨_, hp⟩ ?_
          clear hf; intro a hf
          refine dr_out 31 rfl (by kernel_rfl) (by kernel_rfl) (by kernel_rfl) (by kernel_rfl) rfl hf (by decide) rfl (wantN hf rfl rfl hb107) ⟨_, hp⟩ ?_
          clear hf; intro a hf
          refine dr_out 32 rfl (by kernel_rfl) (by kernel_rfl) (by kernel_rfl) (by kernel_rfl) rfl hf (by decide) rfl (wantN hf rfl rfl hb107) ⟨_, hp⟩ ?_
          clear hf; intro a hf
          refine dr_take 33 (.bool z109) rfl (by kernel_rfl) (by kernel_rfl) (by kernel_rfl) (by kernel_rfl) rfl rfl hf (by decide) rfl (fun w hp => ?_) ⟨_, hp⟩ ?_
          · obtain ⟨_, hp⟩ := hp
            refine st_pick (v := .bool z109) hf rfl rfl (fun _ => by rw [← hz106]; rfl) (fun hb' => absurd (hb107.symm.trans hb') (by decide)) (by decide) ?_
            clear hf; intro a ha hf
            exact st_nil hf (th_n ⟨ha, rfl⟩)
          clear hf; intro a hf
          refine dr_take 34 (.bool z109) rfl (by kernel_rfl) (by kernel_rfl) (by kernel_rfl) (by kernel_rfl) rfl rfl hf (by decide) rfl (fun w hp => ?_) ⟨_, hp⟩ ?_
          · obtain ⟨_, hp⟩ := hp
            refine st_move hf rfl rfl (by decide) ?_
            clear hf; intro a ha hf
            exact st_nil hf (th_n ⟨ha, rfl⟩)
          clear hf; intro a hf
          refine dr_out 35 rfl (by kernel_rfl) (by kernel_rfl) (by kernel_rfl) (by kernel_rfl) rfl hf (by decide) rfl (wantN hf rfl rfl hb111) ⟨_, hp⟩ ?_
          clear hf; intro a hf
          refine dr_out 36 rfl (by kernel_rfl) (by kernel_rfl) (by kernel_rfl) (by kernel_rfl) rfl hf (by decide) rfl (wantN hf rfl rfl hb111) ⟨_, hp⟩ ?_
          clear hf; intro a hf
          refine dr_out 37 rfl (by kernel_rfl) (by kernel_rfl) (by kernel_rfl) (by kernel_rfl) rfl hf (by decide) rfl (wantN hf rfl rfl hb111) ⟨_, hp⟩ ?_
          clear hf; intro a hf
          refine dr_out 38 rfl (by kernel_rfl) (by kernel_rfl) (by kernel_rfl) (by kernel_rfl) rfl hf (by decide) rfl (wantN hf rfl rfl hb111) ⟨_, hp⟩ ?_
          clear hf; intro a hf
          refine dr_out 39 rfl (by kernel_rfl) (by kernel_rfl) (by kernel_rfl) (by kernel_rfl) rfl hf (by decide) rfl (wantN hf rfl rfl hb111) ⟨_, hp⟩ ?_
          clear hf; intro a hf
          refine dr_take 40 (.bool (z109 || (decide (q73.1.2 ≤ q73.1.1)))) rfl (by kernel_rfl) (by kernel_rfl) (by kernel_rfl) (by kernel_rfl) rfl rfl hf (by decide) rfl (fun w hp => ?_) ⟨_, hp⟩ ?_
          · obtain ⟨_, hp⟩ := hp
            refine st_pick (v := .bool (z109 || (decide (q73.1.2 ≤ q73.1.1)))) hf rfl rfl (fun _ => by rw [show (z109 || (decide (q73.1.2 ≤ q73.1.1))) = true from by rw [hb111]; rfl]; rfl) (fun hb' => absurd (hb111.symm.trans hb') (by decide)) (by decide) ?_
            clear hf; intro a ha hf
            exact st_nil hf (th_n ⟨ha, rfl⟩)
          clear hf; intro a hf
          refine dr_take 41 (.bool (z109 || (decide (q73.1.2 ≤ q73.1.1)))) rfl (by kernel_rfl) (by kernel_rfl) (by kernel_rfl) (by kernel_rfl) rfl rfl hf (by decide) rfl (fun w hp => ?_) ⟨_, hp⟩ ?_
          · obtain ⟨_, hp⟩ := hp
            refine st_move hf rfl rfl (by decide) ?_
            clear hf; intro a ha hf
            exact st_nil hf (th_n ⟨ha, rfl⟩)
          clear hf; intro a hf
          refine dr_out 42 rfl (by kernel_rfl) (by kernel_rfl) (by kernel_rfl) (by kernel_rfl) rfl hf (by decide) rfl (wantN hf rfl rfl hb113) ⟨_, hp⟩ ?_
          clear hf; intro a hf
          refine dr_out 43 rfl (by kernel_rfl) (by kernel_rfl) (by kernel_rfl) (by kernel_rfl) rfl hf (by decide) rfl (wantN hf rfl rfl hb113) ⟨_, hp⟩ ?_
          clear hf; intro a hf
          refine dr_out 44 rfl (by kernel_rfl) (by kernel_rfl) (by kernel_rfl) (by kernel_rfl) rfl hf (by decide) rfl (wantN hf rfl rfl hb113) ⟨_, hp⟩ ?_
          clear hf; intro a hf
          refine dr_out 45 rfl (by kernel_rfl) (by kernel_rfl) (by kernel_rfl) (by kernel_rfl) rfl hf (by decide) rfl (wantN hf rfl rfl hb113) ⟨_, hp⟩ ?_
          clear hf; intro a hf
          refine dr_out 46 rfl (by kernel_rfl) (by kernel_rfl) (by kernel_rfl) (by kernel_rfl) rfl hf (by decide) rfl (wantN hf rfl rfl hb113) ⟨_, hp⟩ ?_
          clear hf; intro a hf
          refine dr_out 47 rfl (by kernel_rfl) (by kernel_rfl) (by kernel_rfl) (by kernel_rfl) rfl hf (by decide) rfl (wantN hf rfl rfl hb113) ⟨_, hp⟩ ?_
          clear hf; intro a hf
          refine dr_out 48 rfl (by kernel_rfl) (by kernel_rfl) (by kernel_rfl) (by kernel_rfl) rfl hf (by decide) rfl (wantN hf rfl rfl hb113) ⟨_, hp⟩ ?_
          clear hf; intro a hf
          refine dr_outU 49 rfl (by kernel_rfl) (by kernel_rfl) (by kernel_rfl) (by kernel_rfl) rfl hf (by decide) (wantN hf rfl rfl hb113) ⟨_, hp⟩ ?_
          clear hf; intro a hf
          refine dr_out 50 rfl (by kernel_rfl) (by kernel_rfl) (by kernel_rfl) (by kernel_rfl) rfl hf (by decide) rfl (wantU hf rfl rfl) ⟨_, hp⟩ ?_
          clear hf; intro a hf
          refine dr_out 51 rfl (by kernel_rfl) (by kernel_rfl) (by kernel_rfl) (by kernel_rfl) rfl hf (by decide) rfl (wantU hf rfl rfl) ⟨_, hp⟩ ?_
          clear hf; intro a hf
          refine dr_out 52 rfl (by kernel_rfl) (by kernel_rfl) (by kernel_rfl) (by kernel_rfl) rfl hf (by decide) rfl (wantU hf rfl rfl) ⟨_, hp⟩ ?_
          clear hf; intro a hf
          refine dr_out 53 rfl (by kernel_rfl) (by kernel_rfl) (by kernel_rfl) (by kernel_rfl) rfl hf (by decide) rfl (wantU hf rfl rfl) ⟨_, hp⟩ ?_
          clear hf; intro a hf
          refine dr_out 54 rfl (by kernel_rfl) (by kernel_rfl) (by kernel_rfl) (by kernel_rfl) rfl hf (by decide) rfl (wantU hf rfl rfl) ⟨_, hp⟩ ?_
          clear hf; intro a hf
          refine dr_out 55 rfl (by kernel_rfl) (by kernel_rfl) (by kernel_rfl) (by kernel_rfl) rfl hf (by decide) rfl (wantU hf rfl rfl) ⟨_, hp⟩ ?_
          clear hf; intro a hf
          refine dr_out 56 rfl (by kernel_rfl) (by kernel_rfl) (by kernel_rfl) (by kernel_rfl) rfl hf (by decide) rfl (wantU hf rfl rfl) ⟨_, hp⟩ ?_
          clear hf; intro a hf
          refine dr_out 57 rfl (by kernel_rfl) (by kernel_rfl) (by kernel_rfl) (by kernel_rfl) rfl hf (by decide) rfl (wantN hf rfl rfl hb113) ⟨_, hp⟩ ?_
          clear hf; intro a hf
          refine dr_take 58 (.bool z119) rfl (by kernel_rfl) (by kernel_rfl) (by kernel_rfl) (by kernel_rfl) rfl rfl hf (by decide) rfl (fun w hp => ?_) ⟨_, hp⟩ ?_
          · obtain ⟨_, hp⟩ := hp
            refine st_pick (v := .bool z119) hf rfl rfl (fun _ => by rw [← hz112]; rfl) (fun hb' => absurd (hb113.symm.trans hb') (by decide)) (by decide) ?_
            clear hf; intro a ha hf
            exact st_nil hf (th_n ⟨ha, rfl⟩)
          clear hf; intro a hf
          refine dr_end (by kernel_rfl) ?_ _
          have hp := bk91 _ _ hp
          have hp := bk86 _ _ hp
          have hp := bk81 _ _ hp
          exact ⟨hf.sub ⟨rfl, rfl, rfl, rfl, rfl, rfl, rfl, rfl, trivial⟩, hp⟩
        skip
        replace hz98 := ifF hz98 hb99
        obtain ⟨hc100, hz98⟩ := chk hz98
        replace hz98 := Option.some.inj hz98
        rcases Bool.eq_false_or_eq_true z101 with hb103 | hb103
        · skip
          replace hz102 := ifT hz102 hb103
          replace hz102 := Option.some.inj hz102
          have hb107 : z105 = true := hz102.symm
          skip
          replace hz106 := ifT hz106 hb107
          replace hz106 := Option.some.inj hz106
          have hb111 : z109 = true := hz106.symm
          skip
          have hb113 : (z109 || (decide (q73.1.2 ≤ q73.1.1))) = true := by rw [hb111]; rfl
          skip
          replace hz112 := ifT hz112 hb113
          replace hz112 := Option.some.inj hz112
          refine dr_begin' (fun a w => Fr 263 a [(3, optr v5 0), (4, (GL.cut vx0_A 0 (((imin (x0_A.length : Int) (60 : Int))).toNat) 1)), (5, v35), (7, v37), (9, .int .i64 q18.1), (11, .int .i64 i11), (16, optr v75 0), (190, .bool z119)] ∧ Hp S w0 w (Res.sl (Ek.int .i64) 3 v37 w7 :: Res.sl Ek.bool 4 v35 u5 :: Res.obj 46 v75 [.int .i64 q73.1.1, .int .i64 q73.1.2] :: Res.obj 34 v5 [.int .i64 c3c_0, .int .u32 c3c_1, .int .u32 c3c_2] :: ow)) (fun w' => ∃ l, Hp S87 w w' l) [] (by kernel_rfl) ?_
          refine dr_take 0 (.int .i64 q57.2.2.2) rfl (by kernel_rfl) (by kernel_rfl) (by kernel_rfl) (by kernel_rfl) rfl rfl hf (by decide) rfl (fun w hp => ?_) ⟨_, hp⟩ ?_
          · obtain ⟨_, hp⟩ := hp
            refine st_move hf rfl rfl (by decide) ?_
            clear hf; intro a ha hf
            exact st_nil hf (th_n ⟨ha, rfl⟩)
          clear hf; intro a hf
          refine dr_take 1 (.bool (q57.2.2.2 != (0 : Int))) rfl (by kernel_rfl) (by kernel_rfl) (by kernel_rfl) (by kernel_rfl) rfl rfl hf (by decide) rfl (fun w hp => ?_) ⟨_, hp⟩ ?_
          · obtain ⟨_, hp⟩ := hp
            refine st_ineq hf (by decide) rfl rfl rfl ?_
            clear hf; intro a ha hf
            exact st_nil hf (th_n ⟨ha, rfl⟩)
          clear hf; intro a hf
          refine dr_take 2 (.bool (q57.2.2.2 != (0 : Int))) rfl (by kernel_rfl) (by kernel_rfl) (by kernel_rfl) (by kernel_rfl) rfl rfl hf (by decide) rfl (fun w hp => ?_) ⟨_, hp⟩ ?_
          · obtain ⟨_, hp⟩ := hp
            refine st_move hf rfl rfl (by decide) ?_
            clear hf; intro a ha hf
            exact st_nil hf (th_n ⟨ha, rfl⟩)
          clear hf; intro a hf
          refine dr_take 3 (.int .i64 q73.2) rfl (by kernel_rfl) (by kernel_rfl) (by kernel_rfl) (by kernel_rfl) rfl rfl hf (by decide) (wantY hf rfl rfl hb97) (fun w hp => ?_) ⟨_, hp⟩ ?_
          · obtain ⟨_, hp⟩ := hp
            refine st_move hf (wantY hf rfl rfl hb97) rfl (by decide) ?_
            clear hf; intro a ha hf
            exact st_nil hf (th_n ⟨ha, rfl⟩)
          clear hf; intro a hf
          refine dr_take 4 (.bool (q73.2 != (0 : Int))) rfl (by kernel_rfl) (by kernel_rfl) (by kernel_rfl) (by kernel_rfl) rfl rfl hf (by decide) (wantY hf rfl rfl hb97) (fun w hp => ?_) ⟨_, hp⟩ ?_
          · obtain ⟨_, hp⟩ := hp
            refine st_ineq hf (by decide) (wantY hf rfl rfl hb97) rfl rfl ?_
            clear hf; intro a ha hf
            exact st_nil hf (th_n ⟨ha, rfl⟩)
          clear hf; intro a hf
          refine dr_take 5 (.bool ((q57.2.2.2 != (0 : Int)) || (q73.2 != (0 : Int)))) rfl (by kernel_rfl) (by kernel_rfl) (by kernel_rfl) (by kernel_rfl) rfl rfl hf (by decide) rfl (fun w hp => ?_) ⟨_, hp⟩ ?_
          · obtain ⟨_, hp⟩ := hp
            refine st_pick (v := .bool ((q57.2.2.2 != (0 : Int)) || (q73.2 != (0 : Int)))) hf rfl rfl (fun hb' => absurd (hb97.symm.trans hb') (by decide)) (fun _ => by rw [show ((q57.2.2.2 != (0 : Int)) || (q73.2 != (0 : Int))) = (q73.2 != (0 : Int)) from by rw [hb97]; rfl]; rfl) (by decide) ?_
            clear hf; intro a ha hf
            exact st_nil hf (th_n ⟨ha, rfl⟩)
          clear hf; intro a hf
          refine dr_take 6 (.bool ((q57.2.2.2 != (0 : Int)) || (q73.2 != (0 : Int)))) rfl (by kernel_rfl) (by kernel_rfl) (by kernel_rfl) (by kernel_rfl) rfl rfl hf (by decide) rfl (fun w hp => ?_) ⟨_, hp⟩ ?_
          · obtain ⟨_, hp⟩ := hp
            refine st_move hf rfl rfl (by decide) ?_
            clear hf; intro a ha hf
            exact st_nil hf (th_n ⟨ha, rfl⟩)
          clear hf; intro a hf
          refine dr_take 7 (.int .i64 q57.1) rfl (by kernel_rfl) (by kernel_rfl) (by kernel_rfl) (by kernel_rfl) rfl rfl hf (by decide) (wantY hf rfl rfl hb99) (fun w hp => ?_) ⟨_, hp⟩ ?_
          · obtain ⟨_, hp⟩ := hp
            refine st_move hf (wantY hf rfl rfl hb99) rfl (by decide) ?_
            clear hf; intro a ha hf
            exact st_nil hf (th_n ⟨ha, rfl⟩)
          clear hf; intro a hf
          refine dr_take 8 (v37) rfl (by kernel_rfl) (by kernel_rfl) (by kernel_rfl) (by kernel_rfl) rfl rfl hf (by decide) (wantY hf rfl rfl hb99) (fun w hp => ?_) ⟨_, hp⟩ ?_
          · obtain ⟨_, hp⟩ := hp
            refine st_move hf (wantY hf rfl rfl hb99) rfl (by decide) ?_
            clear hf; intro a ha hf
            exact st_nil hf (th_n ⟨ha, rfl⟩)
          clear hf; intro a hf
          refine dr_take 9 (.int .i64 i11) rfl (by kernel_rfl) (by kernel_rfl) (by kernel_rfl) (by kernel_rfl) rfl rfl hf (by decide) (wantY hf rfl rfl hb99) (fun w hp => ?_) ⟨_, hp⟩ ?_
          · obtain ⟨_, hp⟩ := hp
            refine st_move hf (wantY hf rfl rfl hb99) rfl (by decide) ?_
            clear hf; intro a ha hf
            exact st_nil hf (th_n ⟨ha, rfl⟩)
          clear hf; intro a hf
          refine dr_take 10 (.int .i64 (IntKind.i64.wrap (i11 + (1 : Int)))) rfl (by kernel_rfl) (by kernel_rfl) (by kernel_rfl) (by kernel_rfl) rfl rfl hf (by decide) (wantY hf rfl rfl hb99) (fun w hp => ?_) ⟨_, hp⟩ ?_
          · obtain ⟨_, hp⟩ := hp
            refine st_iadd hf (by decide) (wantY hf rfl rfl hb99) rfl rfl ?_
            clear hf; intro a ha hf
            exact st_nil hf (th_n ⟨ha, rfl⟩)
          clear hf; intro a hf
          refine dr_take 11 (eptr v37 (IntKind.i64.wrap (i11 + (1 : Int))) 1) rfl (by kernel_rfl) (by kernel_rfl) (by kernel_rfl) (by kernel_rfl) rfl rfl hf (by decide) (wantY hf rfl rfl hb99) (fun w hp => ?_) ⟨_, hp⟩ ?_
          · obtain ⟨_, hp⟩ := hp
            refine st_index (E := (Ek.int .i64)) hf (by decide) Try.underlying39 elt3 (wantY hf rfl rfl hb99) rfl rfl (rl94.sl hp) hc100.1 hc100.2 ?_
            clear hf; intro a ha hf
            exact st_nil hf (th_n ⟨ha, rfl⟩)
          clear hf; intro a hf
          refine dr_take 12 (.int .i64 (gt w7 (IntKind.i64.wrap (i11 + (1 : Int))))) rfl (by kernel_rfl) (by kernel_rfl) (by kernel_rfl) (by kernel_rfl) rfl rfl hf (by decide) (wantY hf rfl rfl hb99) (fun w hp => ?_) ⟨_, hp⟩ ?_
          · obtain ⟨_, hp⟩ := hp
            refine st_ldI hf (by decide) pl3 (wantY hf rfl rfl hb99) rfl (rl94.sl hp) hc100.1 hc100.2 ?_
            clear hf; intro a ha hf
            exact st_nil hf (th_n ⟨ha, rfl⟩)
          clear hf; intro a hf
          refine dr_take 13 (.bool (q57.1 != (gt w7 (IntKind.i64.wrap (i11 + (1 : Int)))))) rfl (by kernel_rfl) (by kernel_rfl) (by kernel_rfl) (by kernel_rfl) rfl rfl hf (by decide) (wantY hf rfl rfl hb99) (fun w hp => ?_) ⟨_, hp⟩ ?_
          · obtain ⟨_, hp⟩ := hp
            refine st_ineq hf (by decide) (wantY hf rfl rfl hb99) rfl rfl ?_
            clear hf; intro a ha hf
            exact st_nil hf (th_n ⟨ha, rfl⟩)
          clear hf; intro a hf
          refine dr_take 14 (.bool z101) rfl (by kernel_rfl) (by kernel_rfl) (by kernel_rfl) (by kernel_rfl) rfl rfl hf (by decide) rfl (fun w hp => ?_) ⟨_, hp⟩ ?_
          · obtain ⟨_, hp⟩ := hp
            refine st_pick (v := .bool z101) hf rfl rfl (fun hb' => absurd (hb99.symm.trans hb') (by decide)) (fun _ => by rw [← hz98]; rfl) (by decide) ?_
            clear hf; intro a ha hf
            exact st_nil hf (th_n ⟨ha, rfl⟩)
          clear hf; intro a hf
          refine dr_take 15 (.bool z101) rfl (by kernel_rfl) (by kernel_rfl) (by kernel_rfl) (by kernel_rfl) rfl rfl hf (by decide) rfl (fun w hp => ?_) ⟨_, hp⟩ ?_
          · obtain ⟨_, hp⟩ := hp
            refine st_move hf rfl rfl (by decide) ?_
            clear hf; intro a ha hf
            exact st_nil hf (th_n ⟨ha, rfl⟩)
          clear hf; intro a hf
          refine dr_out 16 rfl (by kernel_rfl) (by kernel_rfl) (by kernel_rfl) (by kernel_rfl) rfl hf (by decide) rfl (wantN hf rfl rfl hb103) ⟨_, hp⟩ ?_
          clear hf; intro a hf
          refine dr_out 17 rfl (by kernel_rfl) (by kernel_rfl) (by kernel_rfl) (by kernel_rfl) rfl hf (by decide) rfl (wantN hf rfl rfl hb103) ⟨_, hp⟩ ?_
          clear hf; intro a hf
          refine dr_out 18 rfl (by kernel_rfl) (by kernel_rfl) (by kernel_rfl) (by kernel_rfl) rfl hf (by decide) rfl (wantN hf rfl rfl hb103) ⟨_, hp⟩ ?_
          clear hf; intro a hf
          refine dr_out 19 rfl (by kernel_rfl) (by kernel_rfl) (by kernel_rfl) (by kernel_rfl) rfl hf (by decide) rfl (wantN hf rfl rfl hb103) ⟨_, hp⟩ ?_
          clear hf; intro a hf
          refine dr_out 20 rfl (by kernel_rfl) (by kernel_rfl) (by kernel_rfl) (by kernel_rfl) rfl hf (by decide) rfl (wantN hf rfl rfl hb103) ⟨_, hp⟩ ?_
          clear hf; intro a hf
          refine dr_out 21 rfl (by kernel_rfl) (by kernel_rfl) (by kernel_rfl) (by kernel_rfl) rfl hf (by decide) rfl (wantN hf rfl rfl hb103) ⟨_, hp⟩ ?_
          clear hf; intro a hf
          refine dr_out 22 rfl (by kernel_rfl) (by kernel_rfl) (by kernel_rfl) (by kernel_rfl) rfl hf (by decide) rfl (wantN hf rfl rfl hb103) ⟨_, hp⟩ ?_
          clear hf; intro a hf
          refine dr_take 23 (.bool z105) rfl (by kernel_rfl) (by kernel_rfl) (by kernel_rfl) (by kernel_rfl) rfl rfl hf (by decide) rfl (fun w hp => ?_) ⟨_, hp⟩ ?_
          · obtain ⟨_, hp⟩ := hp
            refine st_pick (v := .bool z105) hf rfl rfl (fun _ => by rw [← hz102]; rfl) (fun hb' => absurd (hb103.symm.trans hb') (by decide)) (by decide) ?_
            clear hf; intro a ha hf
            exact st_nil hf (th_n ⟨ha, rfl⟩)
          clear hf; intro a hf
          refine dr_take 24 (.bool z105) rfl (by kernel_rfl) (by kernel_rfl) (by kernel_rfl) (by kernel_rfl) rfl rfl hf (by decide) rfl (fun w hp => ?_) ⟨_, hp⟩ ?_
          · obtain ⟨_, hp⟩ := hp
            refine st_move hf rfl rfl (by decide) ?_
            clear hf; intro a ha hf
            exact st_nil hf (th_n ⟨ha, rfl⟩)
          clear hf; intro a hf
          refine dr_out 25 rfl (by kernel_rfl) (by kernel_rfl) (by kernel_rfl) (by kernel_rfl) rfl hf (by decide) rfl (wantN hf rfl rfl hb107) ⟨_, hp⟩ ?_
          clear hf; intro a hf
          refine dr_out 26 rfl (by kernel_rfl) (by kernel_rfl) (by kernel_rfl) (by kernel_rfl) rfl hf (by decide) rfl (wantN hf rfl rfl hb107) ⟨_, hp⟩ ?_
          clear hf; intro a hf
          refine dr_out 27 rfl (by kernel_rfl) (by kernel_rfl) (by kernel_rfl) (by kernel_rfl) rfl hf (by decide) rfl (wantN hf rfl rfl hb107) ⟨_, hp⟩ ?_
          clear hf; intro a hf
          refine dr_out 28 rfl (by kernel_rfl) (by kernel_rfl) (by kernel_rfl) (by kernel_rfl) rfl hf (by decide) rfl (wantN hf rfl rfl hb107) ⟨_, hp⟩ ?_
          clear hf; intro a hf
          refine dr_out 29 rfl (by kernel_rfl) (by kernel_rfl) (by kernel_rfl) (by kernel_rfl) rfl hf (by decide) rfl (wantN hf rfl rfl hb107) ⟨_, hp⟩ ?_
          clear hf; intro a hf
          refine dr_out 30 rfl (by kernel_rfl) (by kernel_rfl) (by kernel_rfl) (by kernel_rfl) rfl hf (by decide) rfl (wantN hf rfl rfl hb107) ⟨_, hp⟩ ?_
          clear hf; intro a hf
          refine dr_out 31 rfl (by kernel_rfl) (by kernel_rfl) (by kernel_rfl) (by kernel_rfl) rfl hf (by decide) rfl (wantN hf rfl rfl hb107) ⟨_, hp⟩ ?_
          clear hf; intro a hf
          refine dr_out 32 rfl (by kernel_rfl) (by kernel_rfl) (by kernel_rfl) (by kernel_rfl) rfl hf (by decide) rfl (wantN hf rfl rfl hb107) ⟨_, hp⟩ ?_
          clear hf; intro a hf
          refine dr_take 33 (.bool z109) rfl (by kernel_rfl) (by kernel_rfl) (by kernel_rfl) (by kernel_rfl) rfl rfl hf (by decide) rfl (fun w hp => ?_) ⟨_, hp⟩ ?_
          · obtain ⟨_, hp⟩ := hp
            refine st_pick (v := .bool z109) hf rfl rfl (fun _ => by rw [← hz106]; rfl) (fun hb' => absurd (hb107.symm.trans hb') (by decide)) (by decide) ?_
            clear hf; intro a ha hf
            exact st_nil hf (th_n ⟨ha, rfl⟩)
          clear hf; intro a hf
          refine dr_take 34 (.bool z109) rfl (by kernel_rfl) (by kernel_rfl) (by kernel_rfl) (by kernel_rfl) rfl rfl hf (by decide) rfl (fun w hp => ?_) ⟨_, hp⟩ ?_
          · obtain ⟨_, hp⟩ := hp
            refine st_move hf rfl rfl (by decide) ?_
            clear hf; intro a ha hf
            exact st_nil hf (th_n ⟨ha, rfl⟩)
          clear hf; intro a hf
          refine dr_out 35 rfl (by kernel_rfl) (by kernel_rfl) (by kernel_rfl) (by kernel_rfl) rfl hf (by decide) rfl (wantN hf rfl rfl hb111) ⟨_, hp⟩ ?_
          clear hf; intro a hf
          refine dr_out 36 rfl (by kernel_rfl) (by kernel_rfl) (by kernel_rfl) (by kernel_rfl) rfl hf (by decide) rfl (wantN hf rfl rfl hb111) ⟨_, hp⟩ ?_
          clear hf; intro a hf
          refine dr_out 37 rfl (by kernel_rfl) (by kernel_rfl) (by kernel_rfl) (by kernel_rfl) rfl hf (by decide) rfl (wantN hf rfl rfl hb111) ⟨_, hp⟩ ?_
          clear hf; intro a hf
          refine dr_out 38 rfl (by kernel_rfl) (by kernel_rfl) (by kernel_rfl) (by kernel_rfl) rfl hf (by decide) rfl (wantN hf rfl rfl hb111) ⟨_, hp⟩ ?_
          clear hf; intro a hf
          refine dr_out 39 rfl (by kernel_rfl) (by kernel_rfl) (by kernel_rfl) (by kernel_rfl) rfl hf (by decide) rfl (wantN hf rfl rfl hb111) ⟨_, hp⟩ ?_
          clear hf; intro a hf
          refine dr_take 40 (.bool (z109 || (decide (q73.1.2 ≤ q73.1.1)))) rfl (by kernel_rfl) (by kernel_rfl) (by kernel_rfl) (by kernel_rfl) rfl rfl hf (by decide) rfl (fun w hp => ?_) ⟨_, hp⟩ ?_
          · obtain ⟨_, hp⟩ := hp
            refine st_pick (v := .bool (z109 || (decide (q73.1.2 ≤ q73.1.1)))) hf rfl rfl (fun _ => by rw [show (z109 || (decide (q73.1.2 ≤ q73.1.1))) = true from by rw [hb111]; rfl]; rfl) (fun hb' => absurd (hb111.symm.trans hb') (by decide)) (by decide) ?_
            clear hf; intro a ha hf
            exact st_nil hf (th_n ⟨ha, rfl⟩)
          clear hf; intro a hf
          refine dr_take 41 (.bool (z109 || (decide (q73.1.2 ≤ q73.1.1)))) rfl (by kernel_rfl) (by kernel_rfl) (by kernel_rfl) (by kernel_rfl) rfl rfl hf (by decide) rfl (fun w hp => ?_) ⟨_, hp⟩ ?_
          · obtain ⟨_, hp⟩ := hp
            refine st_move hf rfl rfl (by decide) ?_
            clear hf; intro a ha hf
            exact st_nil hf (th_n ⟨ha, rfl⟩)
          clear hf; intro a hf
          refine dr_out 42 rfl (by kernel_rfl) (by kernel_rfl) (by kernel_rfl) (by kernel_rfl) rfl hf (by decide) rfl (wantN hf rfl rfl hb113) ⟨_, hp⟩ ?_
          clear hf; intro a hf
          refine dr_out 43 rfl (by kernel_rfl) (by kernel_rfl) (by kernel_rfl) (by kernel_rfl) rfl hf (by decide) rfl (wantN hf rfl rfl hb113) ⟨_, hp⟩ ?_
          clear hf; intro a hf
          refine dr_out 44 rfl (by kernel_rfl) (by kernel_rfl) (by kernel_rfl) (by kernel_rfl) rfl hf (by decide) rfl (wantN hf rfl rfl hb113) ⟨_, hp⟩ ?_
          clear hf; intro a hf
          refine dr_out 45 rfl (by kernel_rfl) (by kernel_rfl) (by kernel_rfl) (by kernel_rfl) rfl hf (by decide) rfl (wantN hf rfl rfl hb113) ⟨_, hp⟩ ?_
          clear hf; intro a hf
          refine dr_out 46 rfl (by kernel_rfl) (by kernel_rfl) (by kernel_rfl) (by kernel_rfl) rfl hf (by decide) rfl (wantN hf rfl rfl hb113) ⟨_, hp⟩ ?_
          clear hf; intro a hf
          refine dr_out 47 rfl (by kernel_rfl) (by kernel_rfl) (by kernel_rfl) (by kernel_rfl) rfl hf (by decide) rfl (wantN hf rfl rfl hb113) ⟨_, hp⟩ ?_
          clear hf; intro a hf
          refine dr_out 48 rfl (by kernel_rfl) (by kernel_rfl) (by kernel_rfl) (by kernel_rfl) rfl hf (by decide) rfl (wantN hf rfl rfl hb113) ⟨_, hp⟩ ?_
          clear hf; intro a hf
          refine dr_outU 49 rfl (by kernel_rfl) (by kernel_rfl) (by kernel_rfl) (by kernel_rfl) rfl hf (by decide) (wantN hf rfl rfl hb113) ⟨_, hp⟩ ?_
          clear hf; intro a hf
          refine dr_out 50 rfl (by kernel_rfl) (by kernel_rfl) (by kernel_rfl) (by kernel_rfl) rfl hf (by decide) rfl (wantU hf rfl rfl) ⟨_, hp⟩ ?_
          clear hf; intro a hf
          refine dr_out 51 rfl (by kernel_rfl) (by kernel_rfl) (by kernel_rfl) (by kernel_rfl) rfl hf (by decide) rfl (wantU hf rfl rfl) ⟨_, hp⟩ ?_
          clear hf; intro a hf
          refine dr_out 52 rfl (by kernel_rfl) (by kernel_rfl) (by kernel_rfl) (by kernel_rfl) rfl hf (by decide) rfl (wantU hf rfl rfl) ⟨_, hp⟩ ?_
          clear hf; intro a hf
          refine dr_out 53 rfl (by kernel_rfl) (by kernel_rfl) (by kernel_rfl) (by kernel_rfl) rfl hf (by decide) rfl (wantU hf rfl rfl) ⟨_, hp⟩ ?_
          clear hf; intro a hf
          refine dr_out 54 rfl (by kernel_rfl) (by kernel_rfl) (by kernel_rfl) (by kernel_rfl) rfl hf (by decide) rfl (wantU hf rfl rfl) ⟨_, hp⟩ ?_
          clear hf; intro a hf
          refine dr_out 55 rfl (by kernel_rfl) (by kernel_rfl) (by kernel_rfl) (by kernel_rfl) rfl hf (by decide) rfl (wantU hf rfl rfl) ⟨_, hp⟩ ?_
          clear hf; intro a hf
          refine dr_out 56 rfl (by kernel_rfl) (by kernel_rfl) (by kernel_rfl) (by kernel_rfl) rfl hf (by decide) rfl (wantU hf rfl rfl) ⟨_, hp⟩ ?_
          clear hf; intro a hf
          refine dr_out 57 rfl (by kernel_rfl) (by kernel_rfl) (by kernel_rfl) (by kernel_rfl) rfl hf (by decide) rfl (wantN hf rfl rfl hb113) ⟨_, hp⟩ ?_
          clear hf; intro a hf
          refine dr_take 58 (.bool z119) rfl (by kernel_rfl) (by kernel_rfl) (by kernel_rfl) (by kernel_rfl) rfl rfl hf (by decide) rfl (fun w hp => ?_) ⟨_, hp⟩ ?_
          · obtain ⟨_, hp⟩ := hp
            refine st_pick (v := .bool z119) hf rfl rfl (fun _ => by rw [← hz112]; rfl) (fun hb' => absurd (hb113.symm.trans hb') (by decide)) (by decide) ?_
            clear hf; intro a ha hf
            exact st_nil hf (th_n ⟨ha, rfl⟩)
          clear hf; intro a hf
          refine dr_end (by kernel_rfl) ?_ _
          have hp := bk91 _ _ hp
          have hp := bk86 _ _ hp
          have hp := bk81 _ _ hp
          exact ⟨hf.sub ⟨rfl, rfl, rfl, rfl, rfl, rfl, rfl, rfl, trivial⟩, hp⟩
        skip
        replace hz102 := ifF hz102 hb103
        obtain ⟨hc104, hz102⟩ := chk hz102
        replace hz102 := Option.some.inj hz102
        rcases Bool.eq_false_or_eq_true z105 with hb107 | hb107
        · skip
          replace hz106 := ifT hz106 hb107
          replace hz106 := Option.some.inj hz106
          have hb111 : z109 = true := hz106.symm
          skip
          have hb113 : (z109 || (decide (q73.1.2 ≤ q73.1.1))) = true := by rw [hb111]; rfl
          skip
          replace hz112 := ifT hz112 hb113
          replace hz112 := Option.some.inj hz112
          refine dr_begin' (fun a w => Fr 263 a [(3, optr v5 0), (4, (GL.cut vx0_A 0 (((imin (x0_A.length : Int) (60 : Int))).toNat) 1)), (5, v35), (7, v37), (9, .int .i64 q18.1), (11, .int .i64 i11), (16, optr v75 0), (190, .bool z119)] ∧ Hp S w0 w (Res.sl (Ek.int .i64) 3 v37 w7 :: Res.sl Ek.bool 4 v35 u5 :: Res.obj 46 v75 [.int .i64 q73.1.1, .int .i64 q73.1.2] :: Res.obj 34 v5 [.int .i64 c3c_0, .int .u32 c3c_1, .int .u32 c3c_2] :: ow)) (fun w' => ∃ l, Hp S87 w w' l) [] (by kernel_rfl) ?_
          refine dr_take 0 (.int .i64 q57.2.2.2) rfl (by kernel_rfl) (by kernel_rfl) (by kernel_rfl) (by kernel_rfl) rfl rfl hf (by decide) rfl (fun w hp => ?_) ⟨_, hp⟩ ?_
          · obtain ⟨_, hp⟩ := hp
            refine st_move hf rfl rfl (by decide) ?_
            clear hf; intro a ha hf
            exact st_nil hf (th_n ⟨ha, rfl⟩)
          clear hf; intro a hf
          refine dr_take 1 (.bool (q57.2.2.2 != (0 : Int))) rfl (by kernel_rfl) (by kernel_rfl) (by kernel_rfl) (by kernel_rfl) rfl rfl hf (by decide) rfl (fun w hp => ?_) ⟨_, hp⟩ ?_
          · obtain ⟨_, hp⟩ := hp
            refine st_ineq hf (by decide) rfl rfl rfl ?_
            clear hf; intro a ha hf
            exact st_nil hf (th_n ⟨ha, rfl⟩)
          clear hf; intro a hf
          refine dr_take 2 (.bool (q57.2.2.2 != (0 : Int))) rfl (by kernel_rfl) (by kernel_rfl) (by kernel_rfl) (by kernel_rfl) rfl rfl hf (by decide) rfl (fun w hp => ?_) ⟨_, hp⟩ ?_
          · obtain ⟨_, hp⟩ := hp
            refine st_move hf rfl rfl (by decide) ?_
            clear hf; intro a ha hf
            exact st_nil hf (th_n ⟨ha, rfl⟩)
          clear hf; intro a hf
          refine dr_take 3 (.int .i64 q73.2) rfl (by kernel_rfl) (by kernel_rfl) (by kernel_rfl) (by kernel_rfl) rfl rfl hf (by decide) (wantY hf rfl rfl hb97) (fun w hp => ?_) ⟨_, hp⟩ ?_
          · obtain ⟨_, hp⟩ := hp
            refine st_move hf (wantY hf rfl rfl hb97) rfl (by decide) ?_
            clear hf; intro a ha hf
            exact st_nil hf (th_n ⟨ha, rfl⟩)
          clear hf; intro a hf
          refine dr_take 4 (.bool (q73.2 != (0 : Int))) rfl (by kernel_rfl) (by kernel_rfl) (by kernel_rfl) (by kernel_rfl) rfl rfl hf (by decide) (wantY hf rfl rfl hb97) (fun w hp => ?_) ⟨_, hp⟩ ?_
          · obtain ⟨_, hp⟩ := hp
            refine st_ineq hf (by decide) (wantY hf rfl rfl hb97) rfl rfl ?_
            clear hf; intro a ha hf
            exact st_nil hf (th_n ⟨ha, rfl⟩)
          clear hf; intro a hf
          refine dr_take 5 (.bool ((q57.2.2.2 != (0 : Int)) || (q73.2 != (0 : Int)))) rfl (by kernel_rfl) (by kernel_rfl) (by kernel_rfl) (by kernel_rfl) rfl rfl hf (by decide) rfl (fun w hp => ?_) ⟨_, hp⟩ ?_
          · obtain ⟨_, hp⟩ := hp
            refine st_pick (v := .bool ((q57.2.2.2 != (0 : Int)) || (q73.2 != (0 : Int)))) hf rfl rfl (fun hb' => absurd (hb97.symm.trans hb') (by decide)) (fun _ => by rw [show ((q57.2.2.2 != (0 : Int)) || (q73.2 != (0 : Int))) = (q73.2 != (0 : Int)) from by rw [hb97]; rfl]; rfl) (by decide) ?_
            clear hf; intro a ha hf
            exact st_nil hf (th_n ⟨ha, rfl⟩)
          clear hf; intro a hf
          refine dr_take 6 (.bool ((q57.2.2.2 != (0 : Int)) || (q73.2 != (0 : Int)))) rfl (by kernel_rfl) (by kernel_rfl) (by kernel_rfl) (by kernel_rfl) rfl rfl hf (by decide) rfl (fun w hp => ?_) ⟨_, hp⟩ ?_
          · obtain ⟨_, hp⟩ := hp
            refine st_move hf rfl rfl (by decide) ?_
            clear hf; intro a ha hf
            exact st_nil hf (th_n ⟨ha, rfl⟩)
          clear hf; intro a hf
          refine dr_take 7 (.int .i64 q57.1) rfl (by kernel_rfl) (by kernel_rfl) (by kernel_rfl) (by kernel_rfl) rfl rfl hf (by decide) (wantY hf rfl rfl hb99) (fun w hp => ?_) ⟨_, hp⟩ ?_
          · obtain ⟨_, hp⟩ := hp
            refine st_move hf (wantY hf rfl rfl hb99) rfl (by decide) ?_
            clear hf; intro a ha hf
            exact st_nil hf (th_n ⟨ha, rfl⟩)
          clear hf; intro a hf
          refine dr_take 8 (v37) rfl (by kernel_rfl) (by kernel_rfl) (by kernel_rfl) (by kernel_rfl) rfl rfl hf (by decide) (wantY hf rfl rfl hb99) (fun w hp => ?_) ⟨_, hp⟩ ?_
          · obtain ⟨_, hp⟩ := hp
            refine st_move hf (wantY hf rfl rfl hb99) rfl (by decide) ?_
            clear hf; intro a ha hf
            exact st_nil hf (th_n ⟨ha, rfl⟩)
          clear hf; intro a hf
          refine dr_take 9 (.int .i64 i11) rfl (by kernel_rfl) (by kernel_rfl) (by kernel_rfl) (by kernel_rfl) rfl rfl hf (by decide) (wantY hf rfl rfl hb99) (fun w hp => ?_) ⟨_, hp⟩ ?_
          · obtain ⟨_, hp⟩ := hp
            refine st_move hf (wantY hf rfl rfl hb99) rfl (by decide) ?_
            clear hf; intro a ha hf
            exact st_nil hf (th_n ⟨ha, rfl⟩)
          clear hf; intro a hf
          refine dr_take 10 (.int .i64 (IntKind.i64.wrap (i11 + (1 : Int)))) rfl (by kernel_rfl) (by kernel_rfl) (by kernel_rfl) (by kernel_rfl) rfl rfl hf (by decide) (wantY hf rfl rfl hb99) (fun w hp => ?_) ⟨_, hp⟩ ?_
          · obtain ⟨_, hp⟩ := hp
            refine st_iadd hf (by decide) (wantY hf rfl rfl hb99) rfl rfl ?_
            clear hf; intro a ha hf
            exact st_nil hf (th_n ⟨ha, rfl⟩)
          clear hf; intro a hf
          refine dr_take 11 (eptr v37 (IntKind.i64.wrap (i11 + (1 : Int))) 1) rfl (by kernel_rfl) (by kernel_rfl) (by kernel_rfl) (by kernel_rfl) rfl rfl hf (by decide) (wantY hf rfl rfl hb99) (fun w hp => ?_) ⟨_, hp⟩ ?_
          · obtain ⟨_, hp⟩ := hp
            refine st_index (E := (Ek.int .i64)) hf (by decide) Try.underlying39 elt3 (wantY hf rfl rfl hb99) rfl rfl (rl94.sl hp) hc100.1 hc100.2 ?_
            clear hf; intro a ha hf
            exact st_nil hf (th_n ⟨ha, rfl⟩)
          clear hf; intro a hf
          refine dr_take 12 (.int .i64 (gt w7 (IntKind.i64.wrap (i11 + (1 : Int))))) rfl (by kernel_rfl) (by kernel_rfl) (by kernel_rfl) (by kernel_rfl) rfl rfl hf (by decide) (wantY hf rfl rfl hb99) (fun w hp => ?_) ⟨_, hp⟩ ?_
          · obtain ⟨_, hp⟩ := hp
            refine st_ldI hf (by decide) pl3 (wantY hf rfl rfl hb99) rfl (rl94.sl hp) hc100.1 hc100.2 ?_
            clear hf; intro a ha hf
            exact st_nil hf (th_n ⟨ha, rfl⟩)
          clear hf; intro a hf
          refine dr_take 13 (.bool (q57.1 != (gt w7 (IntKind.i64.wrap (i11 + (1 : Int)))))) rfl (by kernel_rfl) (by kernel_rfl) (by kernel_rfl) (by kernel_rfl) rfl rfl hf (by decide) (wantY hf rfl rfl hb99) (fun w hp => ?_) ⟨_, hp⟩ ?_
          · obtain ⟨_, hp⟩ := hp
            refine st_ineq hf (by decide) (wantY hf rfl rfl hb99) rfl rfl ?_
            clear hf; intro a ha hf
            exact st_nil hf (th_n ⟨ha, rfl⟩)
          clear hf; intro a hf
          refine dr_take 14 (.bool z101) rfl (by kernel_rfl) (by kernel_rfl) (by kernel_rfl) (by kernel_rfl) rfl rfl hf (by decide) rfl (fun w hp => ?_) ⟨_, hp⟩ ?_
          · obtain ⟨_, hp⟩ := hp
            refine st_pick (v := .bool z101) hf rfl rfl (fun hb' => absurd (hb99.symm.trans hb') (by decide)) (fun _ => by rw [← hz98]; rfl) (by decide) ?_
            clear hf; intro a ha hf
            exact st_nil hf (th_n ⟨ha, rfl⟩)
          clear hf; intro a hf
          refine dr_take 15 (.bool z101) rfl (by kernel_rfl) (by kernel_rfl) (by kernel_rfl) (by kernel_rfl) rfl rfl hf (by decide) rfl (fun w hp => ?_) ⟨_, hp⟩ ?_
          · obtain ⟨_, hp⟩ := hp
            refine st_move hf rfl rfl (by decide) ?_
            clear hf; intro a ha hf
            exact st_nil hf (th_n ⟨ha, rfl⟩)
          clear hf; intro a hf
          refine dr_take 16 (.bool q57.2.1) rfl (by kernel_rfl) (by kernel_rfl) (by kernel_rfl) (by kernel_rfl) rfl rfl hf (by decide) (wantY hf rfl rfl hb103) (fun w hp => ?_) ⟨_, hp⟩ ?_
          · obtain ⟨_, hp⟩ := hp
            refine st_move hf (wantY hf rfl rfl hb103) rfl (by decide) ?_
            clear hf; intro a ha hf
            exact st_nil hf (th_n ⟨ha, rfl⟩)
          clear hf; intro a hf
          refine dr_take 17 (v35) rfl (by kernel_rfl) (by kernel_rfl) (by kernel_rfl) (by kernel_rfl) rfl rfl hf (by decide) (wantY hf rfl rfl hb103) (fun w hp => ?_) ⟨_, hp⟩ ?_
          · obtain ⟨_, hp⟩ := hp
            refine st_move hf (wantY hf rfl rfl hb103) rfl (by decide) ?_
            clear hf; intro a ha hf
            exact st_nil hf (th_n ⟨ha, rfl⟩)
          clear hf; intro a hf
          refine dr_take 18 (.int .i64 i11) rfl (by kernel_rfl) (by kernel_rfl) (by kernel_rfl) (by kernel_rfl) rfl rfl hf (by decide) (wantY hf rfl rfl hb103) (fun w hp => ?_) ⟨_, hp⟩ ?_
          · obtain ⟨_, hp⟩ := hp
            refine st_move hf (wantY hf rfl rfl hb103) rfl (by decide) ?_
            clear hf; intro a ha hf
            exact st_nil hf (th_n ⟨ha, rfl⟩)
          clear hf; intro a hf
          refine dr_take 19 (.int .i64 (IntKind.i64.wrap ((2 : Int) * i11))) rfl (by kernel_rfl) (by kernel_rfl) (by kernel_rfl) (by kernel_rfl) rfl rfl hf (by decide) (wantY hf rfl rfl hb103) (fun w hp => ?_) ⟨_, hp⟩ ?_
          · obtain ⟨_, hp⟩ := hp
            refine st_imul hf (by decide) (wantY hf rfl rfl hb103) rfl rfl ?_
            clear hf; intro a ha hf
            exact st_nil hf (th_n ⟨ha, rfl⟩)
          clear hf; intro a hf
          refine dr_take 20 (eptr v35 (IntKind.i64.wrap ((2 : Int) * i11)) 1) rfl (by kernel_rfl) (by kernel_rfl) (by kernel_rfl) (by kernel_rfl) rfl rfl hf (by decide) (wantY hf rfl rfl hb103) (fun w hp => ?_) ⟨_, hp⟩ ?_
          · obtain ⟨_, hp⟩ := hp
            refine st_index (E := Ek.bool) hf (by decide) Try.underlying25 elt4 (wantY hf rfl rfl hb103) rfl rfl (rl93.sl hp) hc104.1 hc104.2 ?_
            clear hf; intro a ha hf
            exact st_nil hf (th_n ⟨ha, rfl⟩)
          clear hf; intro a hf
          refine dr_take 21 (.bool (gt u5 (IntKind.i64.wrap ((2 : Int) * i11)))) rfl (by kernel_rfl) (by kernel_rfl) (by kernel_rfl) (by kernel_rfl) rfl rfl hf (by decide) (wantY hf rfl rfl hb103) (fun w hp => ?_) ⟨_, hp⟩ ?_
          · obtain ⟨_, hp⟩ := hp
            refine st_ldB hf (by decide) pl4 (wantY hf rfl rfl hb103) rfl (rl93.sl hp) hc104.1 hc104.2 ?_
            clear hf; intro a ha hf
            exact st_nil hf (th_n ⟨ha, rfl⟩)
          clear hf; intro a hf
          refine dr_take 22 (.bool (q57.2.1 != (gt u5 (IntKind.i64.wrap ((2 : Int) * i11))))) rfl (by kernel_rfl) (by kernel_rfl) (by kernel_rfl) (by kernel_rfl) rfl rfl hf (by decide) (wantY hf rfl rfl hb103) (fun w hp => ?_) ⟨_, hp⟩ ?_
          · obtain ⟨_, hp⟩ := hp
            refine st_bneq hf (by decide) Try.underlying4 (wantY hf rfl rfl hb103) rfl rfl ?_
            clear hf; intro a ha hf
            exact st_nil hf (th_n ⟨ha, rfl⟩)
          clear hf; intro a hf
          refine dr_take 23 (.bool z105) rfl (by kernel_rfl) (by kernel_rfl) (by kernel_rfl) (by kernel_rfl) rfl rfl hf (by decide) rfl (fun w hp => ?_) ⟨_, hp⟩ ?_
          · obtain ⟨_, hp⟩ := hp
            refine st_pick (v := .bool z105) hf rfl rfl (fun hb' => absurd (hb103.symm.trans hb') (by decide)) (fun _ => by rw [← hz102]; rfl) (by decide) ?_
            clear hf; intro a ha hf
            exact st_nil hf (th_n ⟨ha, rfl⟩)
          clear hf; intro a hf
          refine dr_take 24 (.bool z105) rfl (by kernel_rfl) (by kernel_rfl) (by kernel_rfl) (by kernel_rfl) rfl rfl hf (by decide) rfl (fun w hp => ?_) ⟨_, hp⟩ ?_
          · obtain ⟨_, hp⟩ := hp
            refine st_move hf rfl rfl (by decide) ?_
            clear hf; intro a ha hf
            exact st_nil hf (th_n ⟨ha, rfl⟩)
          clear hf; intro a hf
          refine dr_out 25 rfl (by kernel_rfl) (by kernel_rfl) (by kernel_rfl) (by kernel_rfl) rfl hf (by decide) rfl (wantN hf rfl rfl hb107) ⟨_, hp⟩ ?_
          clear hf; intro a hf
          refine dr_out 26 rfl (by kernel_rfl) (by kernel_rfl) (by kernel_rfl) (by kernel_rfl) rfl hf (by decide) rfl (wantN hf rfl rfl hb107) ⟨_, hp⟩ ?_
          clear hf; intro a hf
          refine dr_out 27 rfl (by kernel_rfl) (by kernel_rfl) (by kernel_rfl) (by kernel_rfl) rfl hf (by decide) rfl (wantN hf rfl rfl hb107) ⟨_, hp⟩ ?_
          clear hf; intro a hf
          refine dr_out 28 rfl (by kernel_rfl) (by kernel_rfl) (by kernel_rfl) (by kernel_rfl) rfl hf (by decide) rfl (wantN hf rfl rfl hb107) ⟨_, hp⟩ ?_
          clear hf; intro a hf
          refine dr_out 29 rfl (by kernel_rfl) (by kernel_rfl) (by kernel_rfl) (by kernel_rfl) rfl hf (by decide) rfl (wantN hf rfl rfl hb107) ⟨_, hp⟩ ?_
          clear hf; intro a hf
          refine dr_out 30 rfl (by kernel_rfl) (by kernel_rfl) (by kernel_rfl) (by kernel_rfl) rfl hf (by decide) rfl (wantN hf rfl rfl hb107) ⟨_, hp⟩ ?_
          clear hf; intro a hf
          refine dr_out 31 rfl (by kernel_rfl) (by kernel_rfl) (by kernel_rfl) (by kernel_rfl) rfl hf (by decide) rfl (wantN hf rfl rfl hb107) ⟨_, hp⟩ ?_
          clear hf; intro a hf
          refine dr_out 32 rfl (by kernel_rfl) (by kernel_rfl) (by kernel_rfl) (by kernel_rfl) rfl hf (by decide) rfl (wantN hf rfl rfl hb107) ⟨_, hp⟩ ?_
          clear hf; intro a hf
          refine dr_take 33 (.bool z109) rfl (by kernel_rfl) (by kernel_rfl) (by kernel_rfl) (by kernel_rfl) rfl rfl hf (by decide) rfl (fun w hp => ?_) ⟨_, hp⟩ ?_
          · obtain ⟨_, hp⟩ := hp
            refine st_pick (v := .bool z109) hf rfl rfl (fun _ => by rw [← hz106]; rfl) (fun hb' => absurd (hb107.symm.trans hb') (by decide)) (by decide) ?_
            clear hf; intro a ha hf
            exact st_nil hf (th_n ⟨ha, rfl⟩)
          clear hf; intro a hf
          refine dr_take 34 (.bool z109) rfl (by kernel_rfl) (by kernel_rfl) (by kernel_rfl) (by kernel_rfl) rfl rfl hf (by decide) rfl (fun w hp => ?_) ⟨_, hp⟩ ?_
          · obtain ⟨_, hp⟩ := hp
            refine st_move hf rfl rfl (by decide) ?_
            clear hf; intro a ha hf
            exact st_nil hf (th_n ⟨ha, rfl⟩)
          clear hf; intro a hf
          refine dr_out 35 rfl (by kernel_rfl) (by kernel_rfl) (by kernel_rfl) (by kernel_rfl) rfl hf (by decide) rfl (wantN hf rfl rfl hb111) ⟨_, hp⟩ ?_
          clear hf; intro a hf
          refine dr_out 36 rfl (by kernel_rfl) (by kernel_rfl) (by kernel_rfl) (by kernel_rfl) rfl hf (by decide) rfl (wantN hf rfl rfl hb111) ⟨_, hp⟩ ?_
          clear hf; intro a hf
          refine dr_out 37 rfl (by kernel_rfl) (by kernel_rfl) (by kernel_rfl) (by kernel_rfl) rfl hf (by decide) rfl (wantN hf rfl rfl hb111) ⟨_, hp⟩ ?_
          clear hf; intro a hf
          refine dr_out 38 rfl (by kernel_rfl) (by kernel_rfl) (by kernel_rfl) (by kernel_rfl) rfl hf (by decide) rfl (wantN hf rfl rfl hb111) ⟨_, hp⟩ ?_
          clear hf; intro a hf
          refine dr_out 39 rfl (by kernel_rfl) (by kernel_rfl) (by kernel_rfl) (by kernel_rfl) rfl hf (by decide) rfl (wantN hf rfl rfl hb111) ⟨_, hp⟩ ?_
          clear hf; intro a hf
          refine dr_take 40 (.bool (z109 || (decide (q73.1.2 ≤ q73.1.1)))) rfl (by kernel_rfl) (by kernel_rfl) (by kernel_rfl) (by kernel_rfl) rfl rfl hf (by decide) rfl (fun w hp => ?_) ⟨_, hp⟩ ?_
          · obtain ⟨_, hp⟩ := hp
            refine st_pick (v := .bool (z109 || (decide (q73.1.2 ≤ q73.1.1)))) hf rfl rfl (fun _ => by rw [show (z109 || (decide (q73.1.2 ≤ q73.1.1))) = true from by rw [hb111]; rfl]; rfl) (fun hb' => absurd (hb111.symm.trans hb') (by decide)) (by decide) ?_
            clear hf; intro a ha hf
            exact st_nil hf (th_n ⟨ha, rfl⟩)
          clear hf; intro a hf
          refine dr_take 41 (.bool (z109 || (decide (q73.1.2 ≤ q73.1.1)))) rfl (by kernel_rfl) (by kernel_rfl) (by kernel_rfl) (by kernel_rfl) rfl rfl hf (by decide) rfl (fun w hp => ?_) ⟨_, hp⟩ ?_
          · obtain ⟨_, hp⟩ := hp
            refine st_move hf rfl rfl (by decide) ?_
            clear hf; intro a ha hf
            exact st_nil hf (th_n ⟨ha, rfl⟩)
          clear hf; intro a hf
          refine dr_out 42 rfl (by kernel_rfl) (by kernel_rfl) (by kernel_rfl) (by kernel_rfl) rfl hf (by decide) rfl (wantN hf rfl rfl hb113) ⟨_, hp⟩ ?_
          clear hf; intro a hf
          refine dr_out 43 rfl (by kernel_rfl) (by kernel_rfl) (by kernel_rfl) (by kernel_rfl) rfl hf (by decide) rfl (wantN hf rfl rfl hb113) ⟨_, hp⟩ ?_
          clear hf; intro a hf
          refine dr_out 44 rfl (by kernel_rfl) (by kernel_rfl) (by kernel_rfl) (by kernel_rfl) rfl hf (by decide) rfl (wantN hf rfl rfl hb113) ⟨_, hp⟩ ?_
          clear hf; intro a hf
          refine dr_out 45 rfl (by kernel_rfl) (by kernel_rfl) (by kernel_rfl) (by kernel_rfl) rfl hf (by decide) rfl (wantN hf rfl rfl hb113) ⟨_, hp⟩ ?_
          clear hf; intro a hf
          refine dr_out 46 rfl (by kernel_rfl) (by kernel_rfl) (by kernel_rfl) (by kernel_rfl) rfl hf (by decide) rfl (wantN hf rfl rfl hb113) ⟨_, hp⟩ ?_
          clear hf; intro a hf
          refine dr_out 47 rfl (by kernel_rfl) (by kernel_rfl) (by kernel_rfl) (by kernel_rfl) rfl hf (by decide) rfl (wantN hf rfl rfl hb113) ⟨_, hp⟩ ?_
          clear hf; intro a hf
          refine dr_out 48 rfl (by kernel_rfl) (by kernel_rfl) (by kernel_rfl) (by kernel_rfl) rfl hf (by decide) rfl (wantN hf rfl rfl hb113) ⟨_, hp⟩ ?_
          clear hf; intro a hf
          refine dr_outU 49 rfl (by kernel_rfl) (by kernel_rfl) (by kernel_rfl) (by kernel_rfl) rfl hf (by decide) (wantN hf rfl rfl hb113) ⟨_, hp⟩ ?_
          clear hf; intro a hf
          refine dr_out 50 rfl (by kernel_rfl) (by kernel_rfl) (by kernel_rfl) (by kernel_rfl) rfl hf (by decide) rfl (wantU hf rfl rfl) ⟨_, hp⟩ ?_
          clear hf; intro a hf
          refine dr_out 51 rfl (by kernel_rfl) (by kernel_rfl) (by kernel_rfl) (by kernel_rfl) rfl hf (by decide) rfl (wantU hf rfl rfl) ⟨_, hp⟩ ?_
          clear hf; intro a hf
          refine dr_out 52 rfl (by kernel_rfl) (by kernel_rfl) (by kernel_rfl) (by kernel_rfl) rfl hf (by decide) rfl (wantU hf rfl rfl) ⟨_, hp⟩ ?_
          clear hf; intro a hf
          refine dr_out 53 rfl (by kernel_rfl) (by kernel_rfl) (by kernel_rfl) (by kernel_rfl) rfl hf (by decide) rfl (wantU hf rfl rfl) ⟨_, hp⟩ ?_
          clear hf; intro a hf
          refine dr_out 54 rfl (by kernel_rfl) (by kernel_rfl) (by kernel_rfl) (by kernel_rfl) rfl hf (by decide) rfl (wantU hf rfl rfl) ⟨_, hp⟩ ?_
          clear hf; intro a hf
          refine dr_out 55 rfl (by kernel_rfl) (by kernel_rfl) (by kernel_rfl) (by kernel_rfl) rfl hf (by decide) rfl (wantU hf rfl rfl) ⟨_, hp⟩ ?_
          clear hf; intro a hf
          refine dr_out 56 rfl (by kernel_rfl) (by kernel_rfl) (by kernel_rfl) (by kernel_rfl) rfl hf (by decide) rfl (wantU hf rfl rfl) ⟨_, hp⟩ ?_
          clear hf; intro a hf
          refine dr_out 57 rfl (by kernel_rfl) (by kernel_rfl) (by kernel_rfl) (by kernel_rfl) rfl hf (by decide) rfl (wantN hf rfl rfl hb113) ⟨_, hp⟩ ?_
          clear hf; intro a hf
          refine dr_take 58 (.bool z119) rfl (by kernel_rfl) (by kernel_rfl) (by kernel_rfl) (by kernel_rfl) rfl rfl hf (by decide) rfl (fun w hp => ?_) ⟨_, hp⟩ ?_
          · obtain ⟨_, hp⟩ := hp
            refine st_pick (v := .bool z119) hf rfl rfl (fun _ => by rw [← hz112]; rfl) (fun hb' => absurd (hb113.symm.trans hb') (by decide)) (by decide) ?_
            clear hf; intro a ha hf
            exact st_nil hf (th_n ⟨ha, rfl⟩)
          clear hf; intro a hf
          refine dr_end (by kernel_rfl) ?_ _
          have hp := bk91 _ _ hp
          have hp := bk86 _ _ hp
          have hp := bk81 _ _ hp
          exact ⟨hf.sub ⟨rfl, rfl, rfl, rfl, rfl, rfl, rfl, rfl, trivial⟩, hp⟩
        skip
        replace hz106 := ifF hz106 hb107
        obtain ⟨hc108, hz106⟩ := chk hz106
        replace hz106 := Option.some.inj hz106
        rcases Bool.eq_false_or_eq_true z109 with hb111 | hb111
        · skip
          have hb113 : (z109 || (decide (q73.1.2 ≤ q73.1.1))) = true := by rw [hb111]; rfl
          skip
          replace hz112 := ifT hz112 hb113
          replace hz112 := Option.some.inj hz112
          refine dr_begin' (fun a w => Fr 263 a [(3, optr v5 0), (4, (GL.cut vx0_A 0 (((imin (x0_A.length : Int) (60 : Int))).toNat) 1)), (5, v35), (7, v37), (9, .int .i64 q18.1), (11, .int .i64 i11), (16, optr v75 0), (190, .bool z119)] ∧ Hp S w0 w (Res.sl (Ek.int .i64) 3 v37 w7 :: Res.sl Ek.bool 4 v35 u5 :: Res.obj 46 v75 [.int .i64 q73.1.1, .int .i64 q73.1.2] :: Res.obj 34 v5 [.int .i64 c3c_0, .int .u32 c3c_1, .int .u32 c3c_2] :: ow)) (fun w' => ∃ l, Hp S87 w w' l) [] (by kernel_rfl) ?_
          refine dr_take 0 (.int .i64 q57.2.2.2) rfl (by kernel_rfl) (by kernel_rfl) (by kernel_rfl) (by kernel_rfl) rfl rfl hf (by decide) rfl (fun w hp => ?_) ⟨_, hp⟩ ?_
          · obtain ⟨_, hp⟩ := hp
            refine st_move hf rfl rfl (by decide) ?_
            clear hf; intro a ha hf
            exact st_nil hf (th_n ⟨ha, rfl⟩)
          clear hf; intro a hf
          refine dr_take 1 (.bool (q57.2.2.2 != (0 : Int))) rfl (by kernel_rfl) (by kernel_rfl) (by kernel_rfl) (by kernel_rfl) rfl rfl hf (by decide) rfl (fun w hp => ?_) ⟨_, hp⟩ ?_
          · obtain ⟨_, hp⟩ := hp
            refine st_ineq hf (by decide) rfl rfl rfl ?_
            clear hf; intro a ha hf
            exact st_nil hf (th_n ⟨ha, rfl⟩)
          clear hf; intro a hf
          refine dr_take 2 (.bool (q57.2.2.2 != (0 : Int))) rfl (by kernel_rfl) (by kernel_rfl) (by kernel_rfl) (by kernel_rfl) rfl rfl hf (by decide) rfl (fun w hp => ?_) ⟨_, hp⟩ ?_
          · obtain ⟨_, hp⟩ := hp
            refine st_move hf rfl rfl (by decide) ?_
            clear hf; intro a ha hf
            exact st_nil hf (th_n ⟨ha, rfl⟩)
          clear hf; intro a hf
          refine dr_take 3 (.int .i64 q73.2) rfl (by kernel_rfl) (by kernel_rfl) (by kernel_rfl) (by kernel_rfl) rfl rfl hf (by decide) (wantY hf rfl rfl hb97) (fun w hp => ?_) ⟨_, hp⟩ ?_
          · obtain ⟨_, hp⟩ := hp
            refine st_move hf (wantY hf rfl rfl hb97) rfl (by decide) ?_
            clear hf; intro a ha hf
            exact st_nil hf (th_n ⟨ha, rfl⟩)
          clear hf; intro a hf
          refine dr_take 4 (.bool (q73.2 != (0 : Int))) rfl (by kernel_rfl) (by kernel_rfl) (by kernel_rfl) (by kernel_rfl) rfl rfl hf (by decide) (wantY hf rfl rfl hb97) (fun w hp => ?_) ⟨_, hp⟩ ?_
          · obtain ⟨_, hp⟩ := hp
            refine st_ineq hf (by decide) (wantY hf rfl rfl hb97) rfl rfl ?_
            clear hf; intro a ha hf
            exact st_nil hf (th_n ⟨ha, rfl⟩)
          clear hf; intro a hf
          refine dr_take 5 (.bool ((q57.2.2.2 != (0 : Int)) || (q73.2 != (0 : Int)))) rfl (by kernel_rfl) (by kernel_rfl) (by kernel_rfl) (by kernel_rfl) rfl rfl hf (by decide) rfl (fun w hp => ?_) ⟨_, hp⟩ ?_
          · obtain ⟨_, hp⟩ := hp
            refine st_pick (v := .bool ((q57.2.2.2 != (0 : Int)) || (q73.2 != (0 : Int)))) hf rfl rfl (fun hb' => absurd (hb97.symm.trans hb') (by decide)) (fun _ => by rw [show ((q57.2.2.2 != (0 : Int)) || (q73.2 != (0 : Int))) = (q73.2 != (0 : Int)) from by rw [hb97]; rfl]; rfl) (by decide) ?_
            clear hf; intro a ha hf
            exact st_nil hf (th_n ⟨ha, rfl⟩)
          clear hf; intro a hf
          refine dr_take 6 (.bool ((q57.2.2.2 != (0 : Int)) || (q73.2 != (0 : Int)))) rfl (by kernel_rfl) (by kernel_rfl) (by kernel_rfl) (by kernel_rfl) rfl rfl hf (by decide) rfl (fun w hp => ?_) ⟨_, hp⟩ ?_
          · obtain ⟨_, hp⟩ := hp
            refine st_move hf rfl rfl (by decide) ?_
            clear hf; intro a ha hf
            exact st_nil hf (th_n ⟨ha, rfl⟩)
          clear hf; intro a hf
          refine dr_take 7 (.int .i64 q57.1) rfl (by kernel_rfl) (by kernel_rfl) (by kernel_rfl) (by kernel_rfl) rfl rfl hf (by decide) (wantY hf rfl rfl hb99) (fun w hp => ?_) ⟨_, hp⟩ ?_
          · obtain ⟨_, hp⟩ := hp
            refine st_move hf (wantY hf rfl rfl hb99) rfl (by decide) ?_
            clear hf; intro a ha hf
            exact st_nil hf (th_n ⟨ha, rfl⟩)
          clear hf; intro a hf
          refine dr_take 8 (v37) rfl (by kernel_rfl) (by kernel_rfl) (by kernel_rfl) (by kernel_rfl) rfl rfl hf (by decide) (wantY hf rfl rfl hb99) (fun w hp => ?_) ⟨_, hp⟩ ?_
          · obtain ⟨_, hp⟩ := hp
            refine st_move hf (wantY hf rfl rfl hb99) rfl (by decide) ?_
            clear hf; intro a ha hf
            exact st_nil hf (th_n ⟨ha, rfl⟩)
          clear hf; intro a hf
          refine dr_take 9 (.int .i64 i11) rfl (by kernel_rfl) (by kernel_rfl) (by kernel_rfl) (by kernel_rfl) rfl rfl hf (by decide) (wantY hf rfl rfl hb99) (fun w hp => ?_) ⟨_, hp⟩ ?_
          · obtain ⟨_, hp⟩ := hp
            refine st_move hf (wantY hf rfl rfl hb99) rfl (by decide) ?_
            clear hf; intro a ha hf
            exact st_nil hf (th_n ⟨ha, rfl⟩)
          clear hf; intro a hf
          refine dr_take 10 (.int .i64 (IntKind.i64.wrap (i11 + (1 : Int)))) rfl (by kernel_rfl) (by kernel_rfl) (by kernel_rfl) (by kernel_rfl) rfl rfl hf (by decide) (wantY hf rfl rfl hb99) (fun w hp => ?_) ⟨_, hp⟩ ?_
          · obtain ⟨_, hp⟩ := hp
            refine st_iadd hf (by decide) (wantY hf rfl rfl hb99) rfl rfl ?_
            clear hf; intro a ha hf
            exact st_nil hf (th_n ⟨ha, rfl⟩)
          clear hf; intro a hf
          refine dr_take 11 (eptr v37 (IntKind.i64.wrap (i11 + (1 : Int))) 1) rfl (by kernel_rfl) (by kernel_rfl) (by kernel_rfl) (by kernel_rfl) rfl rfl hf (by decide) (wantY hf rfl rfl hb99) (fun w hp => ?_) ⟨_, hp⟩ ?_
          · obtain ⟨_, hp⟩ := hp
            refine st_index (E := (Ek.int .i64)) hf (by decide) Try.underlying39 elt3 (wantY hf rfl rfl hb99) rfl rfl (rl94.sl hp) hc100.1 hc100.2 ?_
            clear hf; intro a ha hf
            exact st_nil hf (th_n ⟨ha, rfl⟩)
          clear hf; intro a hf
          refine dr_take 12 (.int .i64 (gt w7 (IntKind.i64.wrap (i11 + (1 : Int))))) rfl (by kernel_rfl) (by kernel_rfl) (by kernel_rfl) (by kernel_rfl) rfl rfl hf (by decide) (wantY hf rfl rfl hb99) (fun w hp => ?_) ⟨_, hp⟩ ?_
          · obtain ⟨_, hp⟩ := hp
            refine st_ldI hf (by decide) pl3 (wantY hf rfl rfl hb99) rfl (rl94.sl hp) hc100.1 hc100.2 ?_
            clear hf; intro a ha hf
            exact st_nil hf (th_n ⟨ha, rfl⟩)
          clear hf; intro a hf
          refine dr_take 13 (.bool (q57.1 != (gt w7 (IntKind.i64.wrap (i11 + (1 : Int)))))) rfl (by kernel_rfl) (by kernel_rfl) (by kernel_rfl) (by kernel_rfl) rfl rfl hf (by decide) (wantY hf rfl rfl hb99) (fun w hp => ?_) ⟨_, hp⟩ ?_
          · obtain ⟨_, hp⟩ := hp
            refine st_ineq hf (by decide) (wantY hf rfl rfl hb99) rfl rfl ?_
            clear hf; intro a ha hf
            exact st_nil hf (th_n ⟨ha, rfl⟩)
          clear hf; intro a hf
          refine dr_take 14 (.bool z101) rfl (by kernel_rfl) (by kernel_rfl) (by kernel_rfl) (by kernel_rfl) rfl rfl hf (by decide) rfl (fun w hp => ?_) ⟨_, hp⟩ ?_
          · obtain ⟨_, hp⟩ := hp
            refine st_pick (v := .bool z101) hf rfl rfl (fun hb' => absurd (hb99.symm.trans hb') (by decide)) (fun _ => by rw [← hz98]; rfl) (by decide) ?_
            clear hf; intro a ha hf
            exact st_nil hf (th_n ⟨ha, rfl⟩)
          clear hf; intro a hf
          refine dr_take 15 (.bool z101) rfl (by kernel_rfl) (by kernel_rfl) (by kernel_rfl) (by kernel_rfl) rfl rfl hf (by decide) rfl (fun w hp => ?_) ⟨_, hp⟩ ?_
          · obtain ⟨_, hp⟩ := hp
            refine st_move hf rfl rfl (by decide) ?_
            clear hf; intro a ha hf
            exact st_nil hf (th_n ⟨ha, rfl⟩)
          clear hf; intro a hf
          refine dr_take 16 (.bool q57.2.1) rfl (by kernel_rfl) (by kernel_rfl) (by kernel_rfl) (by kernel_rfl) rfl rfl hf (by decide) (wantY hf rfl rfl hb103) (fun w hp => ?_) ⟨_, hp⟩ ?_
          · obtain ⟨_, hp⟩ := hp
            refine st_move hf (wantY hf rfl rfl hb103) rfl (by decide) ?_
            clear hf; intro a ha hf
            exact st_nil hf (th_n ⟨ha, rfl⟩)
          clear hf; intro a hf
          refine dr_take 17 (v35) rfl (by kernel_rfl) (by kernel_rfl) (by kernel_rfl) (by kernel_rfl) rfl rfl hf (by decide) (wantY hf rfl rfl hb103) (fun w hp => ?_) ⟨_, hp⟩ ?_
          · obtain ⟨_, hp⟩ := hp
            refine st_move hf (wantY hf rfl rfl hb103) rfl (by decide) ?_
            clear hf; intro a ha hf
            exact st_nil hf (th_n ⟨ha, rfl⟩)
          clear hf; intro a hf
          refine dr_take 18 (.int .i64 i11) rfl (by kernel_rfl) (by kernel_rfl) (by kernel_rfl) (by kernel_rfl) rfl rfl hf (by decide) (wantY hf rfl rfl hb103) (fun w hp => ?_) ⟨_, hp⟩ ?_
          · obtain ⟨_, hp⟩ := hp
            refine st_move hf (wantY hf rfl rfl hb103) rfl (by decide) ?_
            clear hf; intro a ha hf
            exact st_nil hf (th_n ⟨ha, rfl⟩)
          clear hf; intro a hf
          refine dr_take 19 (.int .i64 (IntKind.i64.wrap ((2 : Int) * i11))) rfl (by kernel_rfl) (by kernel_rfl) (by kernel_rfl) (by kernel_rfl) rfl rfl hf (by decide) (wantY hf rfl rfl hb103) (fun w hp => ?_) ⟨_, hp⟩ ?_
          · obtain ⟨_, hp⟩ := hp
            refine st_imul hf (by decide) (wantY hf rfl rfl hb103) rfl rfl ?_
            clear hf; intro a ha hf
            exact st_nil hf (th_n ⟨ha, rfl⟩)
          clear hf; intro a hf
          refine dr_take 20 (eptr v35 (IntKind.i64.wrap ((2 : Int) * i11)) 1) rfl (by kernel_rfl) (by kernel_rfl) (by kernel_rfl) (by kernel_rfl) rfl rfl hf (by decide) (wantY hf rfl rfl hb103) (fun w hp => ?_) ⟨_, hp⟩ ?_
          · obtain ⟨_, hp⟩ := hp
            refine st_index (E := Ek.bool) hf (by decide) Try.underlying25 elt4 (wantY hf rfl rfl hb103) rfl rfl (rl93.sl hp) hc104.1 hc104.2 ?_
            clear hf; intro a ha hf
            exact st_nil hf (th_n ⟨ha, rfl⟩)
          clear hf; intro a hf
          refine dr_take 21 (.bool (gt u5 (IntKind.i64.wrap ((2 : Int) * i11)))) rfl (by kernel_rfl) (by kernel_rfl) (by kernel_rfl) (by kernel_rfl) rfl rfl hf (by decide) (wantY hf rfl rfl hb103) (fun w hp => ?_) ⟨_, hp⟩ ?_
          · obtain ⟨_, hp⟩ := hp
            refine st_ldB hf (by decide) pl4 (wantY hf rfl rfl hb103) rfl (rl93.sl hp) hc104.1 hc104.2 ?_
            clear hf; intro a ha hf
            exact st_nil hf (th_n ⟨ha, rfl⟩)
          clear hf; intro a hf
          refine dr_take 22 (.bool (q57.2.1 != (gt u5 (IntKind.i64.wrap ((2 : Int) * i11))))) rfl (by kernel_rfl) (by kernel_rfl) (by kernel_rfl) (by kernel_rfl) rfl rfl hf (by decide) (wantY hf rfl rfl hb103) (fun w hp => ?_) ⟨_, hp⟩ ?_
          · obtain ⟨_, hp⟩ := hp
            refine st_bneq hf (by decide) Try.underlying4 (wantY hf rfl rfl hb103) rfl rfl ?_
            clear hf; intro a ha hf
            exact st_nil hf (th_n ⟨ha, rfl⟩)
          clear hf; intro a hf
          refine dr_take 23 (.bool z105) rfl (by kernel_rfl) (by kernel_rfl) (by kernel_rfl) (by kernel_rfl) rfl rfl hf (by decide) rfl (fun w hp => ?_) ⟨_, hp⟩ ?_
          · obtain ⟨_, hp⟩ := hp
            refine st_pick (v := .bool z105) hf rfl rfl (fun hb' => absurd (hb103.symm.trans hb') (by decide)) (fun _ => by rw [← hz102]; rfl) (by decide) ?_
            clear hf; intro a ha hf
            exact st_nil hf (th_n ⟨ha, rfl⟩)
          clear hf; intro a hf
          refine dr_take 24 (.bool z105) rfl (by kernel_rfl) (by kernel_rfl) (by kernel_rfl) (by kernel_rfl) rfl rfl hf (by decide) rfl (fun w hp => ?_) ⟨_, hp⟩ ?_
          · obtain ⟨_, hp⟩ := hp
            refine st_move hf rfl rfl (by decide) ?_
            clear hf; intro a ha hf
            exact st_nil hf (th_n ⟨ha, rfl⟩)
          clear hf; intro a hf
          refine dr_take 25 (.bool q57.2.2.1) rfl (by kernel_rfl) (by kernel_rfl) (by kernel_rfl) (by kernel_rfl) rfl rfl hf (by decide) (wantY hf rfl rfl hb107) (fun w hp => ?_) ⟨_, hp⟩ ?_
          · obtain ⟨_, hp⟩ := hp
            refine st_move hf (wantY hf rfl rfl hb107) rfl (by decide) ?_
            clear hf; intro a ha hf
            exact st_nil hf (th_n ⟨ha, rfl⟩)
          clear hf; intro a hf
          refine dr_take 26 (v35) rfl (by kernel_rfl) (by kernel_rfl) (by kernel_rfl) (by kernel_rfl) rfl rfl hf (by decide) (wantY hf rfl rfl hb107) (fun w hp => ?_) ⟨_, hp⟩ ?_
          · obtain ⟨_, hp⟩ := hp
            refine st_move hf (wantY hf rfl rfl hb107) rfl (by decide) ?_
            clear hf; intro a ha hf
            exact st_nil hf (th_n ⟨ha, rfl⟩)
          clear hf; intro a hf
          refine dr_take 27 (.int .i64 i11) rfl (by kernel_rfl) (by kernel_rfl) (by kernel_rfl) (by kernel_rfl) rfl rfl hf (by decide) (wantY hf rfl rfl hb107) (fun w hp => ?_) ⟨_, hp⟩ ?_
          · obtain ⟨_, hp⟩ := hp
            refine st_move hf (wantY hf rfl rfl hb107) rfl (by decide) ?_
            clear hf; intro a ha hf
            exact st_nil hf (th_n ⟨ha, rfl⟩)
          clear hf; intro a hf
          refine dr_take 28 (.int .i64 (IntKind.i64.wrap ((2 : Int) * i11))) rfl (by kernel_rfl) (by kernel_rfl) (by kernel_rfl) (by kernel_rfl) rfl rfl hf (by decide) (wantY hf rfl rfl hb107) (fun w hp => ?_) ⟨_, hp⟩ ?_
          · obtain ⟨_, hp⟩ := hp
            refine st_imul hf (by decide) (wantY hf rfl rfl hb107) rfl rfl ?_
            clear hf; intro a ha hf
            exact st_nil hf (th_n ⟨ha, rfl⟩)
          clear hf; intro a hf
          refine dr_take 29 (.int .i64 (IntKind.i64.wrap ((IntKind.i64.wrap ((2 : Int) * i11)) + (1 : Int)))) rfl (by kernel_rfl) (by kernel_rfl) (by kernel_rfl) (by kernel_rfl) rfl rfl hf (by decide) (wantY hf rfl rfl hb107) (fun w hp => ?_) ⟨_, hp⟩ ?_
          · obtain ⟨_, hp⟩ := hp
            refine st_iadd hf (by decide) (wantY hf rfl rfl hb107) rfl rfl ?_
            clear hf; intro a ha hf
            exact st_nil hf (th_n ⟨ha, rfl⟩)
          clear hf; intro a hf
          refine dr_take 30 (eptr v35 (IntKind.i64.wrap ((IntKind.i64.wrap ((2 : Int) * i11)) + (1 : Int))) 1) rfl (by kernel_rfl) (by kernel_rfl) (by kernel_rfl) (by kernel_rfl) rfl rfl hf (by decide) (wantY hf rfl rfl hb107) (fun w hp => ?_) ⟨_, hp⟩ ?_
          · obtain ⟨_, hp⟩ := hp
            refine st_index (E := Ek.bool) hf (by decide) Try.underlying25 elt4 (wantY hf rfl rfl hb107) rfl rfl (rl93.sl hp) hc108.1 hc108.2 ?_
            clear hf; intro a ha hf
            exact st_nil hf (th_n ⟨ha, rfl⟩)
          clear hf; intro a hf
          refine dr_take 31 (.bool (gt u5 (IntKind.i64.wrap ((IntKind.i64.wrap ((2 : Int) * i11)) + (1 : Int))))) rfl (by kernel_rfl) (by kernel_rfl) (by kernel_rfl) (by kernel_rfl) rfl rfl hf (by decide) (wantY hf rfl rfl hb107) (fun w hp => ?_) ⟨_, hp⟩ ?_
          · obtain ⟨_, hp⟩ := hp
            refine st_ldB hf (by decide) pl4 (wantY hf rfl rfl hb107) rfl (rl93.sl hp) hc108.1 hc108.2 ?_
            clear hf; intro a ha hf
            exact st_nil hf (th_n ⟨ha, rfl⟩)
          clear hf; intro a hf
          refine dr_take 32 (.bool (q57.2.2.1 != (gt u5 (IntKind.i64.wrap ((IntKind.i64.wrap ((2 : Int) * i11)) + (1 : Int)))))) rfl (by kernel_rfl) (by kernel_rfl) (by kernel_rfl) (by kernel_rfl) rfl rfl hf (by decide) (wantY hf rfl rfl hb107) (fun w hp => ?_) ⟨_, hp⟩ ?_
          · obtain ⟨_, hp⟩ := hp
            refine st_bneq hf (by decide) Try.underlying4 (wantY hf rfl rfl hb107) rfl rfl ?_
            clear hf; intro a ha hf
            exact st_nil hf (th_n ⟨ha, rfl⟩)
          clear hf; intro a hf
          refine dr_take 33 (.bool z109) rfl (by kernel_rfl) (by kernel_rfl) (by kernel_rfl) (by kernel_rfl) rfl rfl hf (by decide) rfl (fun w hp => ?_) ⟨_, hp⟩ ?_
          · obtain ⟨_, hp⟩ := hp
            refine st_pick (v := .bool z109) hf rfl rfl (fun hb' => absurd (hb107.symm.trans hb') (by decide)) (fun _ => by rw [← hz106]; rfl) (by decide) ?_
            clear hf; intro a ha hf
            exact st_nil hf (th_n ⟨ha, rfl⟩)
          clear hf; intro a hf
          refine dr_take 34 (.bool z109) rfl (by kernel_rfl) (by kernel_rfl) (by kernel_rfl) (by kernel_rfl) rfl rfl hf (by decide) rfl (fun w hp => ?_) ⟨_, hp⟩ ?_
          · obtain ⟨_, hp⟩ := hp
            refine st_move hf rfl rfl (by decide) ?_
            clear hf; intro a ha hf
            exact st_nil hf (th_n ⟨ha, rfl⟩)
          clear hf; intro a hf
          refine dr_out 35 rfl (by kernel_rfl) (by kernel_rfl) (by kernel_rfl) (by kernel_rfl) rfl hf (by decide) rfl (wantN hf rfl rfl hb111) ⟨_, hp⟩ ?_
          clear hf; intro a hf
          refine dr_out 36 rfl (by kernel_rfl) (by kernel_rfl) (by kernel_rfl) (by kernel_rfl) rfl hf (by decide) rfl (wantN hf rfl rfl hb111) ⟨_, hp⟩ ?_
          clear hf; intro a hf
          refine dr_out 37 rfl (by kernel_rfl) (by kernel_rfl) (by kernel_rfl) (by kernel_rfl) rfl hf (by decide) rfl (wantN hf rfl rfl hb111) ⟨_, hp⟩ ?_
          clear hf; intro a hf
          refine dr_out 38 rfl (by kernel_rfl) (by kernel_rfl) (by kernel_rfl) (by kernel_rfl) rfl hf (by decide) rfl (wantN hf rfl rfl hb111) ⟨_, hp⟩ ?_
          clear hf; intro a hf
          refine dr_out 39 rfl (by kernel_rfl) (by kernel_rfl) (by kernel_rfl) (by kernel_rfl) rfl hf (by decide) rfl (wantN hf rfl rfl hb111) ⟨_, hp⟩ ?_
          clear hf; intro a hf
          refine dr_take 40 (.bool (z109 || (decide (q73.1.2 ≤ q73.1.1)))) rfl (by kernel_rfl) (by kernel_rfl) (by kernel_rfl) (by kernel_rfl) rfl rfl hf (by decide) rfl (fun w hp => ?_) ⟨_, hp⟩ ?_
          · obtain ⟨_, hp⟩ := hp
            refine st_pick (v := .bool (z109 || (decide (q73.1.2 ≤ q73.1.1)))) hf rfl rfl (fun _ => by rw [show (z109 || (decide (q73.1.2 ≤ q73.1.1))) = true from by rw [hb111]; rfl]; rfl) (fun hb' => absurd (hb111.symm.trans hb') (by decide)) (by decide) ?_
            clear hf; intro a ha hf
            exact st_nil hf (th_n ⟨ha, rfl⟩)
          clear hf; intro a hf
          refine dr_take 41 (.bool (z109 || (decide (q73.1.2 ≤ q73.1.1)))) rfl (by kernel_rfl) (by kernel_rfl) (by kernel_rfl) (by kernel_rfl) rfl rfl hf (by decide) rfl (fun w hp => ?_) ⟨_, hp⟩ ?_
          · obtain ⟨_, hp⟩ := hp
            refine st_move hf rfl rfl (by decide) ?_
            clear hf; intro a ha hf
            exact st_nil hf (th_n ⟨ha, rfl⟩)
          clear hf; intro a hf
          refine dr_out 42 rfl (by kernel_rfl) (by kernel_rfl) (by kernel_rfl) (by kernel_rfl) rfl hf (by decide) rfl (wantN hf rfl rfl hb113) ⟨_, hp⟩ ?_
          clear hf; intro a hf
          refine dr_out 43 rfl (by kernel_rfl) (by kernel_rfl) (by kernel_rfl) (by kernel_rfl) rfl hf (by decide) rfl (wantN hf rfl rfl hb113) ⟨_, hp⟩ ?_
          clear hf; intro a hf
          refine dr_out 44 rfl (by kernel_rfl) (by kernel_rfl) (by kernel_rfl) (by kernel_rfl) rfl hf (by decide) rfl (wantN hf rfl rfl hb113) ⟨_, hp⟩ ?_
          clear hf; intro a hf
          refine dr_out 45 rfl (by kernel_rfl) (by kernel_rfl) (by kernel_rfl) (by kernel_rfl) rfl hf (by decide) rfl (wantN hf rfl rfl hb113) ⟨_, hp⟩ ?_
          clear hf; intro a hf
          refine dr_out 46 rfl (by kernel_rfl) (by kernel_rfl) (by kernel_rfl) (by kernel_rfl) rfl hf (by decide) rfl (wantN hf rfl rfl hb113) ⟨_, hp⟩ ?_
          clear hf; intro a hf
          refine dr_out 47 rfl (by kernel_rfl) (by kernel_rfl) (by kernel_rfl) (by kernel_rfl) rfl hf (by decide) rfl (wantN hf rfl rfl hb113) ⟨_, hp⟩ ?_
          clear hf; intro a hf
          refine dr_out 48 rfl (by kernel_rfl) (by kernel_rfl) (by kernel_rfl) (by kernel_rfl) rfl hf (by decide) rfl (wantN hf rfl rfl hb113) ⟨_, hp⟩ ?_
          clear hf; intro a hf
          refine dr_outU 49 rfl (by kernel_rfl) (by kernel_rfl) (by kernel_rfl) (by kernel_rfl) rfl hf (by decide) (wantN hf rfl rfl hb113) ⟨_, hp⟩ ?_
          clear hf; intro a hf
          refine dr_out 50 rfl (by kernel_rfl) (by kernel_rfl) (by kernel_rfl) (by kernel_rfl) rfl hf (by decide) rfl (wantU hf rfl rfl) ⟨_, hp⟩ ?_
          clear hf; intro a hf
          refine dr_out 51 rfl (by kernel_rfl) (by kernel_rfl) (by kernel_rfl) (by kernel_rfl) rfl hf (by decide) rfl (wantU hf rfl rfl) ⟨_, hp⟩ ?_
          clear hf; intro a hf
          refine dr_out 52 rfl (by kernel_rfl) (by kernel_rfl) (by kernel_rfl) (by kernel_rfl) rfl hf (by decide) rfl (wantU hf rfl rfl) ⟨_, hp⟩ ?_
          clear hf; intro a hf
          refine dr_out 53 rfl (by kernel_rfl) (by kernel_rfl) (by kernel_rfl) (by kernel_rfl) rfl hf (by decide) rfl (wantU hf rfl rfl) ⟨_, hp⟩ ?_
          clear hf; intro a hf
          refine dr_out 54 rfl (by kernel_rfl) (by kernel_rfl) (by kernel_rfl) (by kernel_rfl) rfl hf (by decide) rfl (wantU hf rfl rfl) ⟨_, hp⟩ ?_
          clear hf; intro a hf
          refine dr_out 55 rfl (by kernel_rfl) (by kernel_rfl) (by kernel_rfl) (by kernel_rfl) rfl hf (by decide) rfl (wantU hf rfl rfl) ⟨_, hp⟩ ?_
          clear hf; intro a hf
          refine dr_out 56 rfl (by kernel_rfl) (by kernel_rfl) (by kernel_rfl) (by kernel_rfl) rfl hf (by decide) rfl (wantU hf rfl rfl) ⟨_, hp⟩ ?_
          clear hf; intro a hf
          refine dr_out 57 rfl (by kernel_rfl) (by kernel_rfl) (by kernel_rfl) (by kernel_rfl) rfl hf (by decide) rfl (wantN hf rfl rfl hb113) ⟨_, hp⟩ ?_
          clear hf; intro a hf
          refine dr_take 58 (.bool z119) rfl (by kernel_rfl) (by kernel_rfl) (by kernel_rfl) (by kernel_rfl) rfl rfl hf (by decide) rfl (fun w hp => ?_) ⟨_, hp⟩ ?_
          · obtain ⟨_, hp⟩ := hp
            refine st_pick (v := .bool z119) hf rfl rfl (fun _ => by rw [← hz112]; rfl) (fun hb' => absurd (hb113.symm.trans hb') (by decide)) (by decide) ?_
            clear hf; intro a ha hf
            exact st_nil hf (th_n ⟨ha, rfl⟩)
          clear hf; intro a hf
          refine dr_end (by kernel_rfl) ?_ _
          have hp := bk91 _ _ hp
          have hp := bk86 _ _ hp
          have hp := bk81 _ _ hp
          exact ⟨hf.sub ⟨rfl, rfl, rfl, rfl, rfl, rfl, rfl, rfl, trivial⟩, hp⟩
        skip
        rcases Bool.eq_false_or_eq_true (z109 || (decide (q73.1.2 ≤ q73.1.1))) with hb113 | hb113
        · skip
          replace hz112 := ifT hz112 hb113
          replace hz112 := Option.some.inj hz112
          refine dr_begin' (fun a w => Fr 263 a [(3, optr v5 0), (4, (GL.cut vx0_A 0 (((imin (x0_A.length : Int) (60 : Int))).toNat) 1)), (5, v35), (7, v37), (9, .int .i64 q18.1), (11, .int .i64 i11), (16, optr v75 0), (190, .bool z119)] ∧ Hp S w0 w (Res.sl (Ek.int .i64) 3 v37 w7 :: Res.sl Ek.bool 4 v35 u5 :: Res.obj 46 v75 [.int .i64 q73.1.1, .int .i64 q73.1.2] :: Res.obj 34 v5 [.int .i64 c3c_0, .int .u32 c3c_1, .int .u32 c3c_2] :: ow)) (fun w' => ∃ l, Hp S87 w w' l) [] (by kernel_rfl) ?_
          refine dr_take 0 (.int .i64 q57.2.2.2) rfl (by kernel_rfl) (by kernel_rfl) (by kernel_rfl) (by kernel_rfl) rfl rfl hf (by decide) rfl (fun w hp => ?_) ⟨_, hp⟩ ?_
          · obtain ⟨_, hp⟩ := hp
            refine st_move hf rfl rfl (by decide) ?_
            clear hf; intro a ha hf
            exact st_nil hf (th_n ⟨ha, rfl⟩)
          clear hf; intro a hf
          refine dr_take 1 (.bool (q57.2.2.2 != (0 : Int))) rfl (by kernel_rfl) (by kernel_rfl) (by kernel_rfl) (by kernel_rfl) rfl rfl hf (by decide) rfl (fun w hp => ?_) ⟨_, hp⟩ ?_
          · obtain ⟨_, hp⟩ := hp
            refine st_ineq hf (by decide) rfl rfl rfl ?_
            clear hf; intro a ha hf
            exact st_nil hf (th_n ⟨ha, rfl⟩)
          clear hf; intro a hf
          refine dr_take 2 (.bool (q57.2.2.2 != (0 : Int))) rfl (by kernel_rfl) (by kernel_rfl) (by kernel_rfl) (by kernel_rfl) rfl rfl hf (by decide) rfl (fun w hp => ?_) ⟨_, hp⟩ ?_
          · obtain ⟨_, hp⟩ := hp
            refine st_move hf rfl rfl (by decide) ?_
            clear hf; intro a ha hf
            exact st_nil hf (th_n ⟨ha, rfl⟩)
          clear hf; intro a hf
          refine dr_take 3 (.int .i64 q73.2) rfl (by kernel_rfl) (by kernel_rfl) (by kernel_rfl) (by kernel_rfl) rfl rfl hf (by decide) (wantY hf rfl rfl hb97) (fun w hp => ?_) ⟨_, hp⟩ ?_
          · obtain ⟨_, hp⟩ := hp
            refine st_move hf (wantY hf rfl rfl hb97) rfl (by decide) ?_
            clear hf; intro a ha hf
            exact st_nil hf (th_n ⟨ha, rfl⟩)
          clear hf; intro a hf
          refine dr_take 4 (.bool (q73.2 != (0 : Int))) rfl (by kernel_rfl) (by kernel_rfl) (by kernel_rfl) (by kernel_rfl) rfl rfl hf (by decide) (wantY hf rfl rfl hb97) (fun w hp => ?_) ⟨_, hp⟩ ?_
          · obtain ⟨_, hp⟩ := hp
            refine st_ineq hf (by decide) (wantY hf rfl rfl hb97) rfl rfl ?_
            clear hf; intro a ha hf
            exact st_nil hf (th_n ⟨ha, rfl⟩)
          clear hf; intro a hf
          refine dr_take 5 (.bool ((q57.2.2.2 != (0 : Int)) || (q73.2 != (0 : Int)))) rfl (by kernel_rfl) (by kernel_rfl) (by kernel_rfl) (by kernel_rfl) rfl rfl hf (by decide) rfl (fun w hp => ?_) ⟨_, hp⟩ ?_
          · obtain ⟨_, hp⟩ := hp
            refine st_pick (v := .bool ((q57.2.2.2 != (0 : Int)) || (q73.2 != (0 : Int)))) hf rfl rfl (fun hb' => absurd (hb97.symm.trans hb') (by decide)) (fun _ => by rw [show ((q57.2.2.2 != (0 : Int)) || (q73.2 != (0 : Int))) = (q73.2 != (0 : Int)) from by rw [hb97]; rfl]; rfl) (by decide) ?_
            clear hf; intro a ha hf
            exact st_nil hf (th_n ⟨ha, rfl⟩)
          clear hf; intro a hf
          refine dr_take 6 (.bool ((q57.2.2.2 != (0 : Int)) || (q73.2 != (0 : Int)))) rfl (by kernel_rfl) (by kernel_rfl) (by kernel_rfl) (by kernel_rfl) rfl rfl hf (by decide) rfl (fun w hp => ?_) ⟨_, hp⟩ ?_
          · obtain ⟨_, hp⟩ := hp
            refine st_move hf rfl rfl (by decide) ?_
            clear hf; intro a ha hf
            exact st_nil hf (th_n ⟨ha, rfl⟩)
          clear hf; intro a hf
          refine dr_take 7 (.int .i64 q57.1) rfl (by kernel_rfl) (by kernel_rfl) (by kernel_rfl) (by kernel_rfl) rfl rfl hf (by decide) (wantY hf rfl rfl hb99) (fun w hp => ?_) ⟨_, hp⟩ ?_
          · obtain ⟨_, hp⟩ := hp
            refine st_move hf (wantY hf rfl rfl hb99) rfl (by decide) ?_
            clear hf; intro a ha hf
            exact st_nil hf (th_n ⟨ha, rfl⟩)
          clear hf; intro a hf
          refine dr_take 8 (v37) rfl (by kernel_rfl) (by kernel_rfl) (by kernel_rfl) (by kernel_rfl) rfl rfl hf (by decide) (wantY hf rfl rfl hb99) (fun w hp => ?_) ⟨_, hp⟩ ?_
          · obtain ⟨_, hp⟩ := hp
            refine st_move hf (wantY hf rfl rfl hb99) rfl (by decide) ?_
            clear hf; intro a ha hf
            exact st_nil hf (th_n ⟨ha, rfl⟩)
          clear hf; intro a hf
          refine dr_take 9 (.int .i64 i11) rfl (by kernel_rfl) (by kernel_rfl) (by kernel_rfl) (by kernel_rfl) rfl rfl hf (by decide) (wantY hf rfl rfl hb99) (fun w hp => ?_) ⟨_, hp⟩ ?_
          · obtain ⟨_, hp⟩ := hp
            refine st_move hf (wantY hf rfl rfl hb99) rfl (by decide) ?_
            clear hf; intro a ha hf
            exact st_nil hf (th_n ⟨ha, rfl⟩)
          clear hf; intro a hf
          refine dr_take 10 (.int .i64 (IntKind.i64.wrap (i11 + (1 : Int)))) rfl (by kernel_rfl) (by kernel_rfl) (by kernel_rfl) (by kernel_rfl) rfl rfl hf (by decide) (wantY hf rfl rfl hb99) (fun w hp => ?_) ⟨_, hp⟩ ?_
          · obtain ⟨_, hp⟩ := hp
            refine st_iadd hf (by decide) (wantY hf rfl rfl hb99) rfl rfl ?_
            clear hf; intro a ha hf
            exact st_nil hf (th_n ⟨ha, rfl⟩)
          clear hf; intro a hf
          refine dr_take 11 (eptr v37 (IntKind.i64.wrap (i11 + (1 : Int))) 1) rfl (by kernel_rfl) (by kernel_rfl) (by kernel_rfl) (by kernel_rfl) rfl rfl hf (by decide) (wantY hf rfl rfl hb99) (fun w hp => ?_) ⟨_, hp⟩ ?_
          · obtain ⟨_, hp⟩ := hp
            refine st_index (E := (Ek.int .i64)) hf (by decide) Try.underlying39 elt3 (wantY hf rfl rfl hb99) rfl rfl (rl94.sl hp) hc100.1 hc100.2 ?_
            clear hf; intro a ha hf
            exact st_nil hf (th_n ⟨ha, rfl⟩)
          clear hf; intro a hf
          refine dr_take 12 (.int .i64 (gt w7 (IntKind.i64.wrap (i11 + (1 : Int))))) rfl (by kernel_rfl) (by kernel_rfl) (by kernel_rfl) (by kernel_rfl) rfl rfl hf (by decide) (wantY hf rfl rfl hb99) (fun w hp => ?_) ⟨_, hp⟩ ?_
          · obtain ⟨_, hp⟩ := hp
            refine st_ldI hf (by decide) pl3 (wantY hf rfl rfl hb99) rfl (rl94.sl hp) hc100.1 hc100.2 ?_
            clear hf; intro a ha hf
            exact st_nil hf (th_n ⟨ha, rfl⟩)
          clear hf; intro a hf
          refine dr_take 13 (.bool (q57.1 != (gt w7 (IntKind.i64.wrap (i11 + (1 : Int)))))) rfl (by kernel_rfl) (by kernel_rfl) (by kernel_rfl) (by kernel_rfl) rfl rfl hf (by decide) (wantY hf rfl rfl hb99) (fun w hp => ?_) ⟨_, hp⟩ ?_
          · obtain ⟨_, hp⟩ := hp
            refine st_ineq hf (by decide) (wantY hf rfl rfl hb99) rfl rfl ?_
            clear hf; intro a ha hf
            exact st_nil hf (th_n ⟨ha, rfl⟩)
          clear hf; intro a hf
          refine dr_take 14 (.bool z101) rfl (by kernel_rfl) (by kernel_rfl) (by kernel_rfl) (by kernel_rfl) rfl rfl hf (by decide) rfl (fun w hp => ?_) ⟨_, hp⟩ ?_
          · obtain ⟨_, hp⟩ := hp
            refine st_pick (v := .bool z101) hf rfl rfl (fun hb' => absurd (hb99.symm.trans hb') (by decide)) (fun _ => by rw [← hz98]; rfl) (by decide) ?_
            clear hf; intro a ha hf
            exact st_nil hf (th_n ⟨ha, rfl⟩)
          clear hf; intro a hf
          refine dr_take 15 (.bool z101) rfl (by kernel_rfl) (by kernel_rfl) (by kernel_rfl) (by kernel_rfl) rfl rfl hf (by decide) rfl (fun w hp => ?_) ⟨_, hp⟩ ?_
          · obtain ⟨_, hp⟩ := hp
            refine st_move hf rfl rfl (by decide) ?_
            clear hf; intro a ha hf
            exact st_nil hf (th_n ⟨ha, rfl⟩)
          clear hf; intro a hf
          refine dr_take 16 (.bool q57.2.1) rfl (by kernel_rfl) (by kernel_rfl) (by kernel_rfl) (by kernel_rfl) rfl rfl hf (by decide) (wantY hf rfl rfl hb103) (fun w hp => ?_) ⟨_, hp⟩ ?_
          · obtain ⟨_, hp⟩ := hp
            refine st_move hf (wantY hf rfl rfl hb103) rfl (by decide) ?_
            clear hf; intro a ha hf
            exact st_nil hf (th_n ⟨ha, rfl⟩)
          clear hf; intro a hf
          refine dr_take 17 (v35) rfl (by kernel_rfl) (by kernel_rfl) (by kernel_rfl) (by kernel_rfl) rfl rfl hf (by decide) (wantY hf rfl rfl hb103) (fun w hp => ?_) ⟨_, hp⟩ ?_
          · obtain ⟨_, hp⟩ := hp
            refine st_move hf (wantY hf rfl rfl hb103) rfl (by decide) ?_
            clear hf; intro a ha hf
            exact st_nil hf (th_n ⟨ha, rfl⟩)
          clear hf; intro a hf
          refine dr_take 18 (.int .i64 i11) rfl (by kernel_rfl) (by kernel_rfl) (by kernel_rfl) (by kernel_rfl) rfl rfl hf (by decide) (wantY hf rfl rfl hb103) (fun w hp => ?_) ⟨_, hp⟩ ?_
          · obtain ⟨_, hp⟩ := hp
            refine st_move hf (wantY hf rfl rfl hb103) rfl (by decide) ?_
            clear hf; intro a ha hf
            exact st_nil hf (th_n ⟨ha, rfl⟩)
          clear hf; intro a hf
          refine dr_take 19 (.int .i64 (IntKind.i64.wrap ((2 : Int) * i11))) rfl (by kernel_rfl) (by kernel_rfl) (by kernel_rfl) (by kernel_rfl) rfl rfl hf (by decide) (wantY hf rfl rfl hb103) (fun w hp => ?_) ⟨_, hp⟩ ?_
          · obtain ⟨_, hp⟩ := hp
            refine st_imul hf (by decide) (wantY hf rfl rfl hb103) rfl rfl ?_
            clear hf; intro a ha hf
            exact st_nil hf (th_n ⟨ha, rfl⟩)
          clear hf; intro a hf
          refine dr_take 20 (eptr v35 (IntKind.i64.wrap ((2 : Int) * i11)) 1) rfl (by kernel_rfl) (by kernel_rfl) (by kernel_rfl) (by kernel_rfl) rfl rfl hf (by decide) (wantY hf rfl rfl hb103) (fun w hp => ?_) ⟨_, hp⟩ ?_
          · obtain ⟨_, hp⟩ := hp
            refine st_index (E := Ek.bool) hf (by decide) Try.underlying25 elt4 (wantY hf rfl rfl hb103) rfl rfl (rl93.sl hp) hc104.1 hc104.2 ?_
            clear hf; intro a ha hf
            exact st_nil hf (th_n ⟨ha, rfl⟩)
          clear hf; intro a hf
          refine dr_take 21 (.bool (gt u5 (IntKind.i64.wrap ((2 : Int) * i11)))) rfl (by kernel_rfl) (by kernel_rfl) (by kernel_rfl) (by kernel_rfl) rfl rfl hf (by decide) (wantY hf rfl rfl hb103) (fun w hp => ?_) ⟨_, hp⟩ ?_
          · obtain ⟨_, hp⟩ := hp
            refine st_ldB hf (by decide) pl4 (wantY hf rfl rfl hb103) rfl (rl93.sl hp) hc104.1 hc104.2 ?_
            clear hf; intro a ha hf
            exact st_nil hf (th_n ⟨ha, rfl⟩)
          clear hf; intro a hf
          refine dr_take 22 (.bool (q57.2.1 != (gt u5 (IntKind.i64.wrap ((2 : Int) * i11))))) rfl (by kernel_rfl) (by kernel_rfl) (by kernel_rfl) (by kernel_rfl) rfl rfl hf (by decide) (wantY hf rfl rfl hb103) (fun w hp => ?_) ⟨_, hp⟩ ?_
          · obtain ⟨_, hp⟩ := hp
            refine st_bneq hf (by decide) Try.underlying4 (wantY hf rfl rfl hb103) rfl rfl ?_
            clear hf; intro a ha hf
            exact st_nil hf (th_n ⟨ha, rfl⟩)
          clear hf; intro a hf
          refine dr_take 23 (.bool z105) rfl (by kernel_rfl) (by kernel_rfl) (by kernel_rfl) (by kernel_rfl) rfl rfl hf (by decide) rfl (fun w hp => ?_) ⟨_, hp⟩ ?_
          · obtain ⟨_, hp⟩ := hp
            refine st_pick (v := .bool z105) hf rfl rfl (fun hb' => absurd (hb103.symm.trans hb') (by decide)) (fun _ => by rw [← hz102]; rfl) (by decide) ?_
            clear hf; intro a ha hf
            exact st_nil hf (th_n ⟨ha, rfl⟩)
          clear hf; intro a hf
          refine dr_take 24 (.bool z105) rfl (by kernel_rfl) (by kernel_rfl) (by kernel_rfl) (by kernel_rfl) rfl rfl hf (by decide) rfl (fun w hp => ?_) ⟨_, hp⟩ ?_
          · obtain ⟨_, hp⟩ := hp
            refine st_move hf rfl rfl (by decide) ?_
            clear hf; intro a ha hf
            exact st_nil hf (th_n ⟨ha, rfl⟩)
          clear hf; intro a hf
          refine dr_take 25 (.bool q57.2.2.1) rfl (by kernel_rfl) (by kernel_rfl) (by kernel_rfl) (by kernel_rfl) rfl rfl hf (by decide) (wantY hf rfl rfl hb107) (fun w hp => ?_) ⟨_, hp⟩ ?_
          · obtain ⟨_, hp⟩ := hp
            refine st_move hf (wantY hf rfl rfl hb107) rfl (by decide) ?_
            clear hf; intro a ha hf
            exact st_nil hf (th_n ⟨ha, rfl⟩)
          clear hf; intro a hf
          refine dr_take 26 (v35) rfl (by kernel_rfl) (by kernel_rfl) (by kernel_rfl) (by kernel_rfl) rfl rfl hf (by decide) (wantY hf rfl rfl hb107) (fun w hp => ?_) ⟨_, hp⟩ ?_
          · obtain ⟨_, hp⟩ := hp
            refine st_move hf (wantY hf rfl rfl hb107) rfl (by decide) ?_
            clear hf; intro a ha hf
            exact st_nil hf (th_n ⟨ha, rfl⟩)
          clear hf; intro a hf
          refine dr_take 27 (.int .i64 i11) rfl (by kernel_rfl) (by kernel_rfl) (by kernel_rfl) (by kernel_rfl) rfl rfl hf (by decide) (wantY hf rfl rfl hb107) (fun w hp => ?_) ⟨_, hp⟩ ?_
          · obtain ⟨_, hp⟩ := hp
            refine st_move hf (wantY hf rfl rfl hb107) rfl (by decide) ?_
            clear hf; intro a ha hf
            exact st_nil hf (th_n ⟨ha, rfl⟩)
          clear hf; intro a hf
          refine dr_take 28 (.int .i64 (IntKind.i64.wrap ((2 : Int) * i11))) rfl (by kernel_rfl) (by kernel_rfl) (by kernel_rfl) (by kernel_rfl) rfl rfl hf (by decide) (wantY hf rfl rfl hb107) (fun w hp => ?_) ⟨_, hp⟩ ?_
          · obtain ⟨_, hp⟩ := hp
            refine st_imul hf (by decide) (wantY hf rfl rfl hb107) rfl rfl ?_
            clear hf; intro a ha hf
            exact st_nil hf (th_n ⟨ha, rfl⟩)
          clear hf; intro a hf
          refine dr_take 29 (.int .i64 (IntKind.i64.wrap ((IntKind.i64.wrap ((2 : Int) * i11)) + (1 : Int)))) rfl (by kernel_rfl) (by kernel_rfl) (by kernel_rfl) (by kernel_rfl) rfl rfl hf (by decide) (wantY hf rfl rfl hb107) (fun w hp => ?_) ⟨_, hp⟩ ?_
          · obtain ⟨_, hp⟩ := hp
            refine st_iadd hf (by decide) (wantY hf rfl rfl hb107) rfl rfl ?_
            clear hf; intro a ha hf
            exact st_nil hf (th_n ⟨ha, rfl⟩)
          clear hf; intro a hf
          refine dr_take 30 (eptr v35 (IntKind.i64.wrap ((IntKind.i64.wrap ((2 : Int) * i11)) + (1 : Int))) 1) rfl (by kernel_rfl) (by kernel_rfl) (by kernel_rfl) (by kernel_rfl) rfl rfl hf (by decide) (wantY hf rfl rfl hb107) (fun w hp => ?_) ⟨_, hp⟩ ?_
          · obtain ⟨_, hp⟩ := hp
            refine st_index (E := Ek.bool) hf (by decide) Try.underlying25 elt4 (wantY hf rfl rfl hb107) rfl rfl (rl93.sl hp) hc108.1 hc108.2 ?_
            clear hf; intro a ha hf
            exact st_nil hf (th_n ⟨ha, rfl⟩)
          clear hf; intro a hf
          refine dr_take 31 (.bool (gt u5 (IntKind.i64.wrap ((IntKind.i64.wrap ((2 : Int) * i11)) + (1 : Int))))) rfl (by kernel_rfl) (by kernel_rfl) (by kernel_rfl) (by kernel_rfl) rfl rfl hf (by decide) (wantY hf rfl rfl hb107) (fun w hp => ?_) ⟨_, hp⟩ ?_
          · obtain ⟨_, hp⟩ := hp
            refine st_ldB hf (by decide) pl4 (wantY hf rfl rfl hb107) rfl (rl93.sl hp) hc108.1 hc108.2 ?_
            clear hf; intro a ha hf
            exact st_nil hf (th_n ⟨ha, rfl⟩)
          clear hf; intro a hf
          refine dr_take 32 (.bool (q57.2.2.1 != (gt u5 (IntKind.i64.wrap ((IntKind.i64.wrap ((2 : Int) * i11)) + (1 : Int)))))) rfl (by kernel_rfl) (by kernel_rfl) (by kernel_rfl) (by kernel_rfl) rfl rfl hf (by decide) (wantY hf rfl rfl hb107) (fun w hp => ?_) ⟨_, hp⟩ ?_
          · obtain ⟨_, hp⟩ := hp
            refine st_bneq hf (by decide) Try.underlying4 (wantY hf rfl rfl hb107) rfl rfl ?_
            clear hf; intro a ha hf
            exact st_nil hf (th_n ⟨ha, rfl⟩)
          clear hf; intro a hf
          refine dr_take 33 (.bool z109) rfl (by kernel_rfl) (by kernel_rfl) (by kernel_rfl) (by kernel_rfl) rfl rfl hf (by decide) rfl (fun w hp => ?_) ⟨_, hp⟩ ?_
          · obtain ⟨_, hp⟩ := hp
            refine st_pick (v := .bool z109) hf rfl rfl (fun hb' => absurd (hb107.symm.trans hb') (by decide)) (fun _ => by rw [← hz106]; rfl) (by decide) ?_
            clear hf; intro a ha hf
            exact st_nil hf (th_n ⟨ha, rfl⟩)
          clear hf; intro a hf
          refine dr_take 34 (.bool z109) rfl (by kernel_rfl) (by kernel_rfl) (by kernel_rfl) (by kernel_rfl) rfl rfl hf (by decide) rfl (fun w hp => ?_) ⟨_, hp⟩ ?_
          · obtain ⟨_, hp⟩ := hp
            refine st_move hf rfl rfl (by decide) ?_
            clear hf; intro a ha hf
            exact st_nil hf (th_n ⟨ha, rfl⟩)
          clear hf; intro a hf
          refine dr_take 35 (optr v75 0) rfl (by kernel_rfl) (by kernel_rfl) (by kernel_rfl) (by kernel_rfl) rfl rfl hf (by decide) (wantY hf rfl rfl hb111) (fun w hp => ?_) ⟨_, hp⟩ ?_
          · obtain ⟨_, hp⟩ := hp
            refine st_ia (o' := 0) hf (by decide) Try.underlying46 (sz := 1) (by kernel_rfl) (wantY hf rfl rfl hb111) rfl rfl (rl95.ob hp) (by decide) (by decide) rfl ?_
            clear hf; intro a ha hf
            exact st_nil hf (th_n ⟨ha, rfl⟩)
          clear hf; intro a hf
          refine dr_take 36 (.int .i64 q73.1.1) rfl (by kernel_rfl) (by kernel_rfl) (by kernel_rfl) (by kernel_rfl) rfl rfl hf (by decide) (wantY hf rfl rfl hb111) (fun w hp => ?_) ⟨_, hp⟩ ?_
          · obtain ⟨_, hp⟩ := hp
            refine st_ldO (u := .int .i64 q73.1.1) hf (by decide) pl3 (wantY hf rfl rfl hb111) rfl (rl95.ob hp) rfl ?_
            clear hf; intro a ha hf
            exact st_nil hf (th_n ⟨ha, rfl⟩)
          clear hf; intro a hf
          refine dr_take 37 (optr v75 1) rfl (by kernel_rfl) (by kernel_rfl) (by kernel_rfl) (by kernel_rfl) rfl rfl hf (by decide) (wantY hf rfl rfl hb111) (fun w hp => ?_) ⟨_, hp⟩ ?_
          · obtain ⟨_, hp⟩ := hp
            refine st_ia (o' := 1) hf (by decide) Try.underlying46 (sz := 1) (by kernel_rfl) (wantY hf rfl rfl hb111) rfl rfl (rl95.ob hp) (by decide) (by decide) rfl ?_
            clear hf; intro a ha hf
            exact st_nil hf (th_n ⟨ha, rfl⟩)
          clear hf; intro a hf
          refine dr_take 38 (.int .i64 q73.1.2) rfl (by kernel_rfl) (by kernel_rfl) (by kernel_rfl) (by kernel_rfl) rfl rfl hf (by decide) (wantY hf rfl rfl hb111) (fun w hp => ?_) ⟨_, hp⟩ ?_
          · obtain ⟨_, hp⟩ := hp
            refine st_ldO (u := .int .i64 q73.1.2) hf (by decide) pl3 (wantY hf rfl rfl hb111) rfl (rl95.ob hp) rfl ?_
            clear hf; intro a ha hf
            exact st_nil hf (th_n ⟨ha, rfl⟩)
          clear hf; intro a hf
          refine dr_take 39 (.bool (decide (q73.1.2 ≤ q73.1.1))) rfl (by kernel_rfl) (by kernel_rfl) (by kernel_rfl) (by kernel_rfl) rfl rfl hf (by decide) (wantY hf rfl rfl hb111) (fun w hp => ?_) ⟨_, hp⟩ ?_
          · obtain ⟨_, hp⟩ := hp
            refine st_igeq hf (by decide) (wantY hf rfl rfl hb111) rfl rfl ?_
            clear hf; intro a ha hf
            exact st_nil hf (th_n ⟨ha, rfl⟩)
          clear hf; intro a hf
          refine dr_take 40 (.bool (z109 || (decide (q73.1.2 ≤ q73.1.1)))) rfl (by kernel_rfl) (by kernel_rfl) (by kernel_rfl) (by kernel_rfl) rfl rfl hf (by decide) rfl (fun w hp => ?_) ⟨_, hp⟩ ?_
          · obtain ⟨_, hp⟩ := hp
            refine st_pick (v := .bool (z109 || (decide (q73.1.2 ≤ q73.1.1)))) hf rfl rfl (fun hb' => absurd (hb111.symm.trans hb') (by decide)) (fun _ => by rw [show (z109 || (decide (q73.1.2 ≤ q73.1.1))) = (decide (q73.1.2 ≤ q73.1.1)) from by rw [hb111]; rfl]; rfl) (by decide) ?_
            clear hf; intro a ha hf
            exact st_nil hf (th_n ⟨ha, rfl⟩)
          clear hf; intro a hf
          refine dr_take 41 (.bool (z109 || (decide (q73.1.2 ≤ q73.1.1)))) rfl (by kernel_rfl) (by kernel_rfl) (by kernel_rfl) (by kernel_rfl) rfl rfl hf (by decide) rfl (fun w hp => ?_) ⟨_, hp⟩ ?_
          · obtain ⟨_, hp⟩ := hp
            refine st_move hf rfl rfl (by decide) ?_
            clear hf; intro a ha hf
            exact st_nil hf (th_n ⟨ha, rfl⟩)
          clear hf; intro a hf
          refine dr_out 42 rfl (by kernel_rfl) (by kernel_rfl) (by kernel_rfl) (by kernel_rfl) rfl hf (by decide) rfl (wantN hf rfl rfl hb113) ⟨_, hp⟩ ?_
          clear hf; intro a hf
          refine dr_out 43 rfl (by kernel_rfl) (by kernel_rfl) (by kernel_rfl) (by kernel_rfl) rfl hf (by decide) rfl (wantN hf rfl rfl hb113) ⟨_, hp⟩ ?_
          clear hf; intro a hf
          refine dr_out 44 rfl (by kernel_rfl) (by kernel_rfl) (by kernel_rfl) (by kernel_rfl) rfl hf (by decide) rfl (wantN hf rfl rfl hb113) ⟨_, hp⟩ ?_
          clear hf; intro a hf
          refine dr_out 45 rfl (by kernel_rfl) (by kernel_rfl) (by kernel_rfl) (by kernel_rfl) rfl hf (by decide) rfl (wantN hf rfl rfl hb113) ⟨_, hp⟩ ?_
          clear hf; intro a hf
          refine dr_out 46 rfl (by kernel_rfl) (by kernel_rfl) (by kernel_rfl) (by kernel_rfl) rfl hf (by decide) rfl (wantN hf rfl rfl hb113) ⟨_, hp⟩ ?_
          clear hf; intro a hf
          refine dr_out 47 rfl (by kernel_rfl) (by kernel_rfl) (by kernel_rfl) (by kernel_rfl) rfl hf (by decide) rfl (wantN hf rfl rfl hb113) ⟨_, hp⟩ ?_
          clear hf; intro a hf
          refine dr_out 48 rfl (by kernel_rfl) (by kernel_rfl) (by kernel_rfl) (by kernel_rfl) rfl hf (by decide) rfl (wantN hf rfl rfl hb113) ⟨_, hp⟩ ?_
          clear hf; intro a hf
          refine dr_outU 49 rfl (by kernel_rfl) (by kernel_rfl) (by kernel_rfl) (by kernel_rfl) rfl hf (by decide) (wantN hf rfl rfl hb113) ⟨_, hp⟩ ?_
          clear hf; intro a hf
          refine dr_out 50 rfl (by kernel_rfl) (by kernel_rfl) (by kernel_rfl) (by kernel_rfl) rfl hf (by decide) rfl (wantU hf rfl rfl) ⟨_, hp⟩ ?_
          clear hf; intro a hf
          refine dr_out 51 rfl (by kernel_rfl) (by kernel_rfl) (by kernel_rfl) (by kernel_rfl) rfl hf (by decide) rfl (wantU hf rfl rfl) ⟨_, hp⟩ ?_
          clear hf; intro a hf
          refine dr_out 52 rfl (by kernel_rfl) (by kernel_rfl) (by kernel_rfl) (by kernel_rfl) rfl hf (by decide) rfl (wantU hf rfl rfl) ⟨_, hp⟩ ?_
          clear hf; intro a hf
          refine dr_out 53 rfl (by kernel_rfl) (by kernel_rfl) (by kernel_rfl) (by kernel_rfl) rfl hf (by decide) rfl (wantU hf rfl rfl) ⟨_, hp⟩ ?_
          clear hf; intro a hf
          refine dr_out 54 rfl (by kernel_rfl) (by kernel_rfl) (by kernel_rfl) (by kernel_rfl) rfl hf (by decide) rfl (wantU hf rfl rfl) ⟨_, hp⟩ ?_
          clear hf; intro a hf
          refine dr_out 55 rfl (by kernel_rfl) (by kernel_rfl) (by kernel_rfl) (by kernel_rfl) rfl hf (by decide) rfl (wantU hf rfl rfl) ⟨_, hp⟩ ?_
          clear hf; intro a hf
          refine dr_out 56 rfl (by kernel_rfl) (by kernel_rfl) (by kernel_rfl) (by kernel_rfl) rfl hf (by decide) rfl (wantU hf rfl rfl) ⟨_, hp⟩ ?_
          clear hf; intro a hf
          refine dr_out 57 rfl (by kernel_rfl) (by kernel_rfl) (by kernel_rfl) (by kernel_rfl) rfl hf (by decide) rfl (wantN hf rfl rfl hb113) ⟨_, hp⟩ ?_
          clear hf; intro a hf
          refine dr_take 58 (.bool z119) rfl (by kernel_rfl) (by kernel_rfl) (by kernel_rfl) (by kernel_rfl) rfl rfl hf (by decide) rfl (fun w hp => ?_) ⟨_, hp⟩ ?_
          · obtain ⟨_, hp⟩ := hp
            refine st_pick (v := .bool z119) hf rfl rfl (fun _ => by rw [← hz112]; rfl) (fun hb' => absurd (hb113.symm.trans hb') (by decide)) (by decide) ?_
            clear hf; intro a ha hf
            exact st_nil hf (th_n ⟨ha, rfl⟩)
          clear hf; intro a hf
          refine dr_end (by kernel_rfl) ?_ _
          have hp := bk91 _ _ hp
          have hp := bk86 _ _ hp
          have hp := bk81 _ _ hp
          exact ⟨hf.sub ⟨rfl, rfl, rfl, rfl, rfl, rfl, rfl, rfl, trivial⟩, hp⟩
        skip
        replace hz112 := ifF hz112 hb113
        obtain ⟨hc114, hz112⟩ := chk hz112
        obtain ⟨z118, hz115, hz112⟩ := bnd hz112
        replace hz112 := Option.some.inj hz112
        rcases Bool.eq_false_or_eq_true (q73.1.1 != (gt w7 i11)) with hb116 | hb116
        · skip
          replace hz115 := ifT hz115 hb116
          obtain ⟨hc117, hz115⟩ := chk hz115
          replace hz115 := Option.some.inj hz115
          refine dr_begin' (fun a w => Fr 263 a [(3, optr v5 0), (4, (GL.cut vx0_A 0 (((imin (x0_A.length : Int) (60 : Int))).toNat) 1)), (5, v35), (7, v37), (9, .int .i64 q18.1), (11, .int .i64 i11), (16, optr v75 0), (190, .bool z119)] ∧ Hp S w0 w (Res.sl (Ek.int .i64) 3 v37 w7 :: Res.sl Ek.bool 4 v35 u5 :: Res.obj 46 v75 [.int .i64 q73.1.1, .int .i64 q73.1.2] :: Res.obj 34 v5 [.int .i64 c3c_0, .int .u32 c3c_1, .int .u32 c3c_2] :: ow)) (fun w' => ∃ l, Hp S87 w w' l) [] (by kernel_rfl) ?_
          refine dr_take 0 (.int .i64 q57.2.2.2) rfl (by kernel_rfl) (by kernel_rfl) (by kernel_rfl) (by kernel_rfl) rfl rfl hf (by decide) rfl (fun w hp => ?_) ⟨_, hp⟩ ?_
          · obtain ⟨_, hp⟩ := hp
            refine st_move hf rfl rfl (by decide) ?_
            clear hf; intro a ha hf
            exact st_nil hf (th_n ⟨ha, rfl⟩)
          clear hf; intro a hf
          refine dr_take 1 (.bool (q57.2.2.2 != (0 : Int))) rfl (by kernel_rfl) (by kernel_rfl) (by kernel_rfl) (by kernel_rfl) rfl rfl hf (by decide) rfl (fun w hp => ?_) ⟨_, hp⟩ ?_
          · obtain ⟨_, hp⟩ := hp
            refine st_ineq hf (by decide) rfl rfl rfl ?_
            clear hf; intro a ha hf
            exact st_nil hf (th_n ⟨ha, rfl⟩)
          clear hf; intro a hf
          refine dr_take 2 (.bool (q57.2.2.2 != (0 : Int))) rfl (by kernel_rfl) (by kernel_rfl) (by kernel_rfl) (by kernel_rfl) rfl rfl hf (by decide) rfl (fun w hp => ?_) ⟨_, hp⟩ ?_
          · obtain ⟨_, hp⟩ := hp
            refine st_move hf rfl rfl (by decide) ?_
            clear hf; intro a ha hf
            exact st_nil hf (th_n ⟨ha, rfl⟩)
          clear hf; intro a hf
          refine dr_take 3 (.int .i64 q73.2) rfl (by kernel_rfl) (by kernel_rfl) (by kernel_rfl) (by kernel_rfl) rfl rfl hf (by decide) (wantY hf rfl rfl hb97) (fun w hp => ?_) ⟨_, hp⟩ ?_
          · obtain ⟨_, hp⟩ := hp
            refine st_move hf (wantY hf rfl rfl hb97) rfl (by decide) ?_
            clear hf; intro a ha hf
            exact st_nil hf (th_n ⟨ha, rfl⟩)
          clear hf; intro a hf
          refine dr_take 4 (.bool (q73.2 != (0 : Int))) rfl (by kernel_rfl) (by kernel_rfl) (by kernel_rfl) (by kernel_rfl) rfl rfl hf (by decide) (wantY hf rfl rfl hb97) (fun w hp => ?_) ⟨_, hp⟩ ?_
          · obtain ⟨_, hp⟩ := hp
            refine st_ineq hf (by decide) (wantY hf rfl rfl hb97) rfl rfl ?_
            clear hf; intro a ha hf
            exact st_nil hf (th_n ⟨ha, rfl⟩)
          clear hf; intro a hf
          refine dr_take 5 (.bool ((q57.2.2.2 != (0 : Int)) || (q73.2 != (0 : Int)))) rfl (by kernel_rfl) (by kernel_rfl) (by kernel_rfl) (by kernel_rfl) rfl rfl hf (by decide) rfl (fun w hp => ?_) ⟨_, hp⟩ ?_
          · obtain ⟨_, hp⟩ := hp
            refine st_pick (v := .bool ((q57.2.2.2 != (0 : Int)) || (q73.2 != (0 : Int)))) hf rfl rfl (fun hb' => absurd (hb97.symm.trans hb') (by decide)) (fun _ => by rw [show ((q57.2.2.2 != (0 : Int)) || (q73.2 != (0 : Int))) = (q73.2 != (0 : Int)) from by rw [hb97]; rfl]; rfl) (by decide) ?_
            clear hf; intro a ha hf
            exact st_nil hf (th_n ⟨ha, rfl⟩)
          clear hf; intro a hf
          refine dr_take 6 (.bool ((q57.2.2.2 != (0 : Int)) || (q73.2 != (0 : Int)))) rfl (by kernel_rfl) (by kernel_rfl) (by kernel_rfl) (by kernel_rfl) rfl rfl hf (by decide) rfl (fun w hp => ?_) ⟨_, hp⟩ ?_
          · obtain ⟨_, hp⟩ := hp
            refine st_move hf rfl rfl (by decide) ?_
            clear hf; intro a ha hf
            exact st_nil hf (th_n ⟨ha, rfl⟩)
          clear hf; intro a hf
          refine dr_take 7 (.int .i64 q57.1) rfl (by kernel_rfl) (by kernel_rfl) (by kernel_rfl) (by kernel_rfl) rfl rfl hf (by decide) (wantY hf rfl rfl hb99) (fun w hp => ?_) ⟨_, hp⟩ ?_
          · obtain ⟨_, hp⟩ := hp
            refine st_move hf (wantY hf rfl rfl hb99) rfl (by decide) ?_
            clear hf; intro a ha hf
            exact st_nil hf (th_n ⟨ha, rfl⟩)
          clear hf; intro a hf
          refine dr_take 8 (v37) rfl (by kernel_rfl) (by kernel_rfl) (by kernel_rfl) (by kernel_rfl) rfl rfl hf (by decide) (wantY hf rfl rfl hb99) (fun w hp => ?_) ⟨_, hp⟩ ?_
          · obtain ⟨_, hp⟩ := hp
            refine st_move hf (wantY hf rfl rfl hb99) rfl (by decide) ?_
            clear hf; intro a ha hf
            exact st_nil hf (th_n ⟨ha, rfl⟩)
          clear hf; intro a hf
          refine dr_take 9 (.int .i64 i11) rfl (by kernel_rfl) (by kernel_rfl) (by kernel_rfl) (by kernel_rfl) rfl rfl hf (by decide) (wantY hf rfl rfl hb99) (fun w hp => ?_) ⟨_, hp⟩ ?_
          · obtain ⟨_, hp⟩ := hp
            refine st_move hf (wantY hf rfl rfl hb99) rfl (by decide) ?_
            clear hf; intro a ha hf
            exact st_nil hf (th_n ⟨ha, rfl⟩)
          clear hf; intro a hf
          refine dr_take 10 (.int .i64 (IntKind.i64.wrap (i11 + (1 : Int)))) rfl (by kernel_rfl) (by kernel_rfl) (by kernel_rfl) (by kernel_rfl) rfl rfl hf (by decide) (wantY hf rfl rfl hb99) (fun w hp => ?_) ⟨_, hp⟩ ?_
          · obtain ⟨_, hp⟩ := hp
            refine st_iadd hf (by decide) (wantY hf rfl rfl hb99) rfl rfl ?_
            clear hf; intro a ha hf
            exact st_nil hf (th_n ⟨ha, rfl⟩)
          clear hf; intro a hf
          refine dr_take 11 (eptr v37 (IntKind.i64.wrap (i11 + (1 : Int))) 1) rfl (by kernel_rfl) (by kernel_rfl) (by kernel_rfl) (by kernel_rfl) rfl rfl hf (by decide) (wantY hf rfl rfl hb99) (fun w hp => ?_) ⟨_, hp⟩ ?_
          · obtain ⟨_, hp⟩ := hp
            refine st_index (E := (Ek.int .i64)) hf (by decide) Try.underlying39 elt3 (wantY hf rfl rfl hb99) rfl rfl (rl94.sl hp) hc100.1 hc100.2 ?_
            clear hf; intro a ha hf
            exact st_nil hf (th_n ⟨ha, rfl⟩)
          clear hf; intro a hf
          refine dr_take 12 (.int .i64 (gt w7 (IntKind.i64.wrap (i11 + (1 : Int))))) rfl (by kernel_rfl) (by kernel_rfl) (by kernel_rfl) (by kernel_rfl) rfl rfl hf (by decide) (wantY hf rfl rfl hb99) (fun w hp => ?_) ⟨_, hp⟩ ?_
          · obtain ⟨_, hp⟩ := hp
            refine st_ldI hf (by decide) pl3 (wantY hf rfl rfl hb99) rfl (rl94.sl hp) hc100.1 hc100.2 ?_
            clear hf; intro a ha hf
            exact st_nil hf (th_n ⟨ha, rfl⟩)
          clear hf; intro a hf
          refine dr_take 13 (.bool (q57.1 != (gt w7 (IntKind.i64.wrap (i11 + (1 : Int)))))) rfl (by kernel_rfl) (by kernel_rfl) (by kernel_rfl) (by kernel_rfl) rfl rfl hf (by decide) (wantY hf rfl rfl hb99) (fun w hp => ?_) ⟨_, hp⟩ ?_
          · obtain ⟨_, hp⟩ := hp
            refine st_ineq hf (by decide) (wantY hf rfl rfl hb99) rfl rfl ?_
            clear hf; intro a ha hf
            exact st_nil hf (th_n ⟨ha, rfl⟩)
          clear hf; intro a hf
          refine dr_take 14 (.bool z101) rfl (by kernel_rfl) (by kernel_rfl) (by kernel_rfl) (by kernel_rfl) rfl rfl hf (by decide) rfl (fun w hp => ?_) ⟨_, hp⟩ ?_
          · obtain ⟨_, hp⟩ := hp
            refine st_pick (v := .bool z101) hf rfl rfl (fun hb' => absurd (hb99.symm.trans hb') (by decide)) (fun _ => by rw [← hz98]; rfl) (by decide) ?_
            clear hf; intro a ha hf
            exact st_nil hf (th_n ⟨ha, rfl⟩)
          clear hf; intro a hf
          refine dr_take 15 (.bool z101) rfl (by kernel_rfl) (by kernel_rfl) (by kernel_rfl) (by kernel_rfl) rfl rfl hf (by decide) rfl (fun w hp => ?_) ⟨_, hp⟩ ?_
          · obtain ⟨_, hp⟩ := hp
            refine st_move hf rfl rfl (by decide) ?_
            clear hf; intro a ha hf
            exact st_nil hf (th_n ⟨ha, rfl⟩)
          clear hf; intro a hf
          refine dr_take 16 (.bool q57.2.1) rfl (by kernel_rfl) (by kernel_rfl) (by kernel_rfl) (by kernel_rfl) rfl rfl hf (by decide) (wantY hf rfl rfl hb103) (fun w hp => ?_) ⟨_, hp⟩ ?_
          · obtain ⟨_, hp⟩ := hp
            refine st_move hf (wantY hf rfl rfl hb103) rfl (by decide) ?_
            clear hf; intro a ha hf
            exact st_nil hf (th_n ⟨ha, rfl⟩)
          clear hf; intro a hf
          refine dr_take 17 (v35) rfl (by kernel_rfl) (by kernel_rfl) (by kernel_rfl) (by kernel_rfl) rfl rfl hf (by decide) (wantY hf rfl rfl hb103) (fun w hp => ?_) ⟨_, hp⟩ ?_
          · obtain ⟨_, hp⟩ := hp
            refine st_move hf (wantY hf rfl rfl hb103) rfl (by decide) ?_
            clear hf; intro a ha hf
            exact st_nil hf (th_n ⟨ha, rfl⟩)
          clear hf; intro a hf
          refine dr_take 18 (.int .i64 i11) rfl (by kernel_rfl) (by kernel_rfl) (by kernel_rfl) (by kernel_rfl) rfl rfl hf (by decide) (wantY hf rfl rfl hb103) (fun w hp => ?_) ⟨_, hp⟩ ?_
          · obtain ⟨_, hp⟩ := hp
            refine st_move hf (wantY hf rfl rfl hb103) rfl (by decide) ?_
            clear hf; intro a ha hf
            exact st_nil hf (th_n ⟨ha, rfl⟩)
          clear hf; intro a hf
          refine dr_take 19 (.int .i64 (IntKind.i64.wrap ((2 : Int) * i11))) rfl (by kernel_rfl) (by kernel_rfl) (by kernel_rfl) (by kernel_rfl) rfl rfl hf (by decide) (wantY hf rfl rfl hb103) (fun w hp => ?_) ⟨_, hp⟩ ?_
          · obtain ⟨_, hp⟩ := hp
            refine st_imul hf (by decide) (wantY hf rfl rfl hb103) rfl rfl ?_
            clear hf; intro a ha hf
            exact st_nil hf (th_n ⟨ha, rfl⟩)
          clear hf; intro a hf
          refine dr_take 20 (eptr v35 (IntKind.i64.wrap ((2 : Int) * i11)) 1) rfl (by kernel_rfl) (by kernel_rfl) (by kernel_rfl) (by kernel_rfl) rfl rfl hf (by decide) (wantY hf rfl rfl hb103) (fun w hp => ?_) ⟨_, hp⟩ ?_
          · obtain ⟨_, hp⟩ := hp
            refine st_index (E := Ek.bool) hf (by decide) Try.underlying25 elt4 (wantY hf rfl rfl hb103) rfl rfl (rl93.sl hp) hc104.1 hc104.2 ?_
            clear hf; intro a ha hf
            exact st_nil hf (th_n ⟨ha, rfl⟩)
          clear hf; intro a hf
          refine dr_take 21 (.bool (gt u5 (IntKind.i64.wrap ((2 : Int) * i11)))) rfl (by kernel_rfl) (by kernel_rfl) (by kernel_rfl) (by kernel_rfl) rfl rfl hf (by decide) (wantY hf rfl rfl hb103) (fun w hp => ?_) ⟨_, hp⟩ ?_
          · obtain ⟨_, hp⟩ := hp
            refine st_ldB hf (by decide) pl4 (wantY hf rfl rfl hb103) rfl (rl93.sl hp) hc104.1 hc104.2 ?_
            clear hf; intro a ha hf
            exact st_nil hf (th_n ⟨ha, rfl⟩)
          clear hf; intro a hf
          refine dr_take 22 (.bool (q57.2.1 != (gt u5 (IntKind.i64.wrap ((2 : Int) * i11))))) rfl (by kernel_rfl) (by kernel_rfl) (by kernel_rfl) (by kernel_rfl) rfl rfl hf (by decide) (wantY hf rfl rfl hb103) (fun w hp => ?_) ⟨_, hp⟩ ?_
          · obtain ⟨_, hp⟩ := hp
            refine st_bneq hf (by decide) Try.underlying4 (wantY hf rfl rfl hb103) rfl rfl ?_
            clear hf; intro a ha hf
            exact st_nil hf (th_n ⟨ha, rfl⟩)
          clear hf; intro a hf
          refine dr_take 23 (.bool z105) rfl (by kernel_rfl) (by kernel_rfl) (by kernel_rfl) (by kernel_rfl) rfl rfl hf (by decide) rfl (fun w hp => ?_) ⟨_, hp⟩ ?_
          · obtain ⟨_, hp⟩ := hp
            refine st_pick (v := .bool z105) hf rfl rfl (fun hb' => absurd (hb103.symm.trans hb') (by decide)) (fun _ => by rw [← hz102]; rfl) (by decide) ?_
            clear hf; intro a ha hf
            exact st_nil hf (th_n ⟨ha, rfl⟩)
          clear hf; intro a hf
          refine dr_take 24 (.bool z105) rfl (by kernel_rfl) (by kernel_rfl) (by kernel_rfl) (by kernel_rfl) rfl rfl hf (by decide) rfl (fun w hp => ?_) ⟨_, hp⟩ ?_
          · obtain ⟨_, hp⟩ := hp
            refine st_move hf rfl rfl (by decide) ?_
            clear hf; intro a ha hf
            exact st_nil hf (th_n ⟨ha, rfl⟩)
          clear hf; intro a hf
          refine dr_take 25 (.bool q57.2.2.1) rfl (by kernel_rfl) (by kernel_rfl) (by kernel_rfl) (by kernel_rfl) rfl rfl hf (by decide) (wantY hf rfl rfl hb107) (fun w hp => ?_) ⟨_, hp⟩ ?_
          · obtain ⟨_, hp⟩ := hp
            refine st_move hf (wantY hf rfl rfl hb107) rfl (by decide) ?_
            clear hf; intro a ha hf
            exact st_nil hf (th_n ⟨ha, rfl⟩)
          clear hf; intro a hf
          refine dr_take 26 (v35) rfl (by kernel_rfl) (by kernel_rfl) (by kernel_rfl) (by kernel_rfl) rfl rfl hf (by decide) (wantY hf rfl rfl hb107) (fun w hp => ?_) ⟨_, hp⟩ ?_
          · obtain ⟨_, hp⟩ := hp
            refine st_move hf (wantY hf rfl rfl hb107) rfl (by decide) ?_
            clear hf; intro a ha hf
            exact st_nil hf (th_n ⟨ha, rfl⟩)
          clear hf; intro a hf
          refine dr_take 27 (.int .i64 i11) rfl (by kernel_rfl) (by kernel_rfl) (by kernel_rfl) (by kernel_rfl) rfl rfl hf (by decide) (wantY hf rfl rfl hb107) (fun w hp => ?_) ⟨_, hp⟩ ?_
          · obtain ⟨_, hp⟩ := hp
            refine st_move hf (wantY hf rfl rfl hb107) rfl (by decide) ?_
            clear hf; intro a ha hf
            exact st_nil hf (th_n ⟨ha, rfl⟩)
          clear hf; intro a hf
          refine dr_take 28 (.int .i64 (IntKind.i64.wrap ((2 : Int) * i11))) rfl (by kernel_rfl) (by kernel_rfl) (by kernel_rfl) (by kernel_rfl) rfl rfl hf (by decide) (wantY hf rfl rfl hb107) (fun w hp => ?_) ⟨_, hp⟩ ?_
          · obtain ⟨_, hp⟩ := hp
            refine st_imul hf (by decide) (wantY hf rfl rfl hb107) rfl rfl ?_
            clear hf; intro a ha hf
            exact st_nil hf (th_n ⟨ha, rfl⟩)
          clear hf; intro a hf
          refine dr_take 29 (.int .i64 (IntKind.i64.wrap ((IntKind.i64.wrap ((2 : Int) * i11)) + (1 : Int)))) rfl (by kernel_rfl) (by kernel_rfl) (by kernel_rfl) (by kernel_rfl) rfl rfl hf (by decide) (wantY hf rfl rfl hb107) (fun w hp => ?_) ⟨_, hp⟩ ?_
          · obtain ⟨_, hp⟩ := hp
            refine st_iadd hf (by decide) (wantY hf rfl rfl hb107) rfl rfl ?_
            clear hf; intro a ha hf
            exact st_nil hf (th_n ⟨ha, rfl⟩)
          clear hf; intro a hf
          refine dr_take 30 (eptr v35 (IntKind.i64.wrap ((IntKind.i64.wrap ((2 : Int) * i11)) + (1 : Int))) 1) rfl (by kernel_rfl) (by kernel_rfl) (by kernel_rfl) (by kernel_rfl) rfl rfl hf (by decide) (wantY hf rfl rfl hb107) (fun w hp => ?_) ⟨_, hp⟩ ?_
          · obtain ⟨_, hp⟩ := hp
            refine st_index (E := Ek.bool) hf (by decide) Try.underlying25 elt4 (wantY hf rfl rfl hb107) rfl rfl (rl93.sl hp) hc108.1 hc108.2 ?_
            clear hf; intro a ha hf
            exact st_nil hf (th_n ⟨ha, rfl⟩)
          clear hf; intro a hf
          refine dr_take 31 (.bool (gt u5 (IntKind.i64.wrap ((IntKind.i64.wrap ((2 : Int) * i11)) + (1 : Int))))) rfl (by kernel_rfl) (by kernel_rfl) (by kernel_rfl) (by kernel_rfl) rfl rfl hf (by decide) (wantY hf rfl rfl hb107) (fun w hp => ?_) ⟨_, hp⟩ ?_
          · obtain ⟨_, hp⟩ := hp
            refine st_ldB hf (by decide) pl4 (wantY hf rfl rfl hb107) rfl (rl93.sl hp) hc108.1 hc108.2 ?_
            clear hf; intro a ha hf
            exact st_nil hf (th_n ⟨ha, rfl⟩)
          clear hf; intro a hf
          refine dr_take 32 (.bool (q57.2.2.1 != (gt u5 (IntKind.i64.wrap ((IntKind.i64.wrap ((2 : Int) * i11)) + (1 : Int)))))) rfl (by kernel_rfl) (by kernel_rfl) (by kernel_rfl) (by kernel_rfl) rfl rfl hf (by decide) (wantY hf rfl rfl hb107) (fun w hp => ?_) ⟨_, hp⟩ ?_
          · obtain ⟨_, hp⟩ := hp
            refine st_bneq hf (by decide) Try.underlying4 (wantY hf rfl rfl hb107) rfl rfl ?_
            clear hf; intro a ha hf
            exact st_nil hf (th_n ⟨ha, rfl⟩)
          clear hf; intro a hf
          refine dr_take 33 (.bool z109) rfl (by kernel_rfl) (by kernel_rfl) (by kernel_rfl) (by kernel_rfl) rfl rfl hf (by decide) rfl (fun w hp => ?_) ⟨_, hp⟩ ?_
          · obtain ⟨_, hp⟩ := hp
            refine st_pick (v := .bool z109) hf rfl rfl (fun hb' => absurd (hb107.symm.trans hb') (by decide)) (fun _ => by rw [← hz106]; rfl) (by decide) ?_
            clear hf; intro a ha hf
            exact st_nil hf (th_n ⟨ha, rfl⟩)
          clear hf; intro a hf
          refine dr_take 34 (.bool z109) rfl (by kernel_rfl) (by kernel_rfl) (by kernel_rfl) (by kernel_rfl) rfl rfl hf (by decide) rfl (fun w hp => ?_) ⟨_, hp⟩ ?_
          · obtain ⟨_, hp⟩ := hp
            refine st_move hf rfl rfl (by decide) ?_
            clear hf; intro a ha hf
            exact st_nil hf (th_n ⟨ha, rfl⟩)
          clear hf; intro a hf
          refine dr_take 35 (optr v75 0) rfl (by kernel_rfl) (by kernel_rfl) (by kernel_rfl) (by kernel_rfl) rfl rfl hf (by decide) (wantY hf rfl rfl hb111) (fun w hp => ?_) ⟨_, hp⟩ ?_
          · obtain ⟨_, hp⟩ := hp
            refine st_ia (o' := 0) hf (by decide) Try.underlying46 (sz := 1) (by kernel_rfl) (wantY hf rfl rfl hb111) rfl rfl (rl95.ob hp) (by decide) (by decide) rfl ?_
            clear hf; intro a ha hf
            exact st_nil hf (th_n ⟨ha, rfl⟩)
          clear hf; intro a hf
          refine dr_take 36 (.int .i64 q73.1.1) rfl (by kernel_rfl) (by kernel_rfl) (by kernel_rfl) (by kernel_rfl) rfl rfl hf (by decide) (wantY hf rfl rfl hb111) (fun w hp => ?_) ⟨_, hp⟩ ?_
          · obtain ⟨_, hp⟩ := hp
            refine st_ldO (u := .int .i64 q73.1.1) hf (by decide) pl3 (wantY hf rfl rfl hb111) rfl (rl95.ob hp) rfl ?_
            clear hf; intro a ha hf
            exact st_nil hf (th_n ⟨ha, rfl⟩)
          clear hf; intro a hf
          refine dr_take 37 (optr v75 1) rfl (by kernel_rfl) (by kernel_rfl) (by kernel_rfl) (by kernel_rfl) rfl rfl hf (by decide) (wantY hf rfl rfl hb111) (fun w hp => ?_) ⟨_, hp⟩ ?_
          · obtain ⟨_, hp⟩ := hp
            refine st_ia (o' := 1) hf (by decide) Try.underlying46 (sz := 1) (by kernel_rfl) (wantY hf rfl rfl hb111) rfl rfl (rl95.ob hp) (by decide) (by decide) rfl ?_
            clear hf; intro a ha hf
            exact st_nil hf (th_n ⟨ha, rfl⟩)
          clear hf; intro a hf
          refine dr_take 38 (.int .i64 q73.1.2) rfl (by kernel_rfl) (by kernel_rfl) (by kernel_rfl) (by kernel_rfl) rfl rfl hf (by decide) (wantY hf rfl rfl hb111) (fun w hp => ?_) ⟨_, hp⟩ ?_
          · obtain ⟨_, hp⟩ := hp
            refine st_ldO (u := .int .i64 q73.1.2) hf (by decide) pl3 (wantY hf rfl rfl hb111) rfl (rl95.ob hp) rfl ?_
            clear hf; intro a ha hf
            exact st_nil hf (th_n ⟨ha, rfl⟩)
          clear hf; intro a hf
          refine dr_take 39 (.bool (decide (q73.1.2 ≤ q73.1.1))) rfl (by kernel_rfl) (by kernel_rfl) (by kernel_rfl) (by kernel_rfl) rfl rfl hf (by decide) (wantY hf rfl rfl hb111) (fun w hp => ?_) ⟨_, hp⟩ ?_
          · obtain ⟨_, hp⟩ := hp
            refine st_igeq hf (by decide) (wantY hf rfl rfl hb111) rfl rfl ?_
            clear hf; intro a ha hf
            exact st_nil hf (th_n ⟨ha, rfl⟩)
          clear hf; intro a hf
          refine dr_take 40 (.bool (z109 || (decide (q73.1.2 ≤ q73.1.1)))) rfl (by kernel_rfl) (by kernel_rfl) (by kernel_rfl) (by kernel_rfl) rfl rfl hf (by decide) rfl (fun w hp => ?_) ⟨_, hp⟩ ?_
          · obtain ⟨_, hp⟩ := hp
            refine st_pick (v := .bool (z109 || (decide (q73.1.2 ≤ q73.1.1)))) hf rfl rfl (fun hb' => absurd (hb111.symm.trans hb') (by decide)) (fun _ => by rw [show (z109 || (decide (q73.1.2 ≤ q73.1.1))) = (decide (q73.1.2 ≤ q73.1.1)) from by rw [hb111]; rfl]; rfl) (by decide) ?_
            clear hf; intro a ha hf
            exact st_nil hf (th_n ⟨ha, rfl⟩)
          clear hf; intro a hf
          refine dr_take 41 (.bool (z109 || (decide (q73.1.2 ≤ q73.1.1)))) rfl (by kernel_rfl) (by kernel_rfl) (by kernel_rfl) (by kernel_rfl) rfl rfl hf (by decide) rfl (fun w hp => ?_) ⟨_, hp⟩ ?_
          · obtain ⟨_, hp⟩ := hp
            refine st_move hf rfl rfl (by decide) ?_
            clear hf; intro a ha hf
            exact st_nil hf (th_n ⟨ha, rfl⟩)
          clear hf; intro a hf
          refine dr_take 42 (optr v75 0) rfl (by kernel_rfl) (by kernel_rfl) (by kernel_rfl) (by kernel_rfl) rfl rfl hf (by decide) (wantY hf rfl rfl hb113) (fun w hp => ?_) ⟨_, hp⟩ ?_
          · obtain ⟨_, hp⟩ := hp
            refine st_ia (o' := 0) hf (by decide) Try.underlying46 (sz := 1) (by kernel_rfl) (wantY hf rfl rfl hb113) rfl rfl (rl95.ob hp) (by decide) (by decide) rfl ?_
            clear hf; intro a ha hf
            exact st_nil hf (th_n ⟨ha, rfl⟩)
          clear hf; intro a hf
          refine dr_take 43 (.int .i64 q73.1.1) rfl (by kernel_rfl) (by kernel_rfl) (by kernel_rfl) (by kernel_rfl) rfl rfl hf (by decide) (wantY hf rfl rfl hb113) (fun w hp => ?_) ⟨_, hp⟩ ?_
          · obtain ⟨_, hp⟩ := hp
            refine st_ldO (u := .int .i64 q73.1.1) hf (by decide) pl3 (wantY hf rfl rfl hb113) rfl (rl95.ob hp) rfl ?_
            clear hf; intro a ha hf
            exact st_nil hf (th_n ⟨ha, rfl⟩)
          clear hf; intro a hf
          refine dr_take 44 (v37) rfl (by kernel_rfl) (by kernel_rfl) (by kernel_rfl) (by kernel_rfl) rfl rfl hf (by decide) (wantY hf rfl rfl hb113) (fun w hp => ?_) ⟨_, hp⟩ ?_
          · obtain ⟨_, hp⟩ := hp
            refine st_move hf (wantY hf rfl rfl hb113) rfl (by decide) ?_
            clear hf; intro a ha hf
            exact st_nil hf (th_n ⟨ha, rfl⟩)
          clear hf; intro a hf
          refine dr_take 45 (.int .i64 i11) rfl (by kernel_rfl) (by kernel_rfl) (by kernel_rfl) (by kernel_rfl) rfl rfl hf (by decide) (wantY hf rfl rfl hb113) (fun w hp => ?_) ⟨_, hp⟩ ?_
          · obtain ⟨_, hp⟩ := hp
            refine st_move hf (wantY hf rfl rfl hb113) rfl (by decide) ?_
            clear hf; intro a ha hf
            exact st_nil hf (th_n ⟨ha, rfl⟩)
          clear hf; intro a hf
          refine dr_take 46 (eptr v37 i11 1) rfl (by kernel_rfl) (by kernel_rfl) (by kernel_rfl) (by kernel_rfl) rfl rfl hf (by decide) (wantY hf rfl rfl hb113) (fun w hp => ?_) ⟨_, hp⟩ ?_
          · obtain ⟨_, hp⟩ := hp
            refine st_index (E := (Ek.int .i64)) hf (by decide) Try.underlying39 elt3 (wantY hf rfl rfl hb113) rfl rfl (rl94.sl hp) hc114.1 hc114.2 ?_
            clear hf; intro a ha hf
            exact st_nil hf (th_n ⟨ha, rfl⟩)
          clear hf; intro a hf
          refine dr_take 47 (.int .i64 (gt w7 i11)) rfl (by kernel_rfl) (by kernel_rfl) (by kernel_rfl) (by kernel_rfl) rfl rfl hf (by decide) (wantY hf rfl rfl hb113) (fun w hp => ?_) ⟨_, hp⟩ ?_
          · obtain ⟨_, hp⟩ := hp
            refine st_ldI hf (by decide) pl3 (wantY hf rfl rfl hb113) rfl (rl94.sl hp) hc114.1 hc114.2 ?_
            clear hf; intro a ha hf
            exact st_nil hf (th_n ⟨ha, rfl⟩)
          clear hf; intro a hf
          refine dr_take 48 (.bool (q73.1.1 != (gt w7 i11))) rfl (by kernel_rfl) (by kernel_rfl) (by kernel_rfl) (by kernel_rfl) rfl rfl hf (by decide) (wantY hf rfl rfl hb113) (fun w hp => ?_) ⟨_, hp⟩ ?_
          · obtain ⟨_, hp⟩ := hp
            refine st_ineq hf (by decide) (wantY hf rfl rfl hb113) rfl rfl ?_
            clear hf; intro a ha hf
            exact st_nil hf (th_n ⟨ha, rfl⟩)
          clear hf; intro a hf
          refine dr_take 49 (.bool (q73.1.1 != (gt w7 i11))) rfl (by kernel_rfl) (by kernel_rfl) (by kernel_rfl) (by kernel_rfl) rfl rfl hf (by decide) (wantY hf rfl rfl hb113) (fun w hp => ?_) ⟨_, hp⟩ ?_
          · obtain ⟨_, hp⟩ := hp
            refine st_move hf (wantY hf rfl rfl hb113) rfl (by decide) ?_
            clear hf; intro a ha hf
            exact st_nil hf (th_n ⟨ha, rfl⟩)
          clear hf; intro a hf
          refine dr_take 50 (optr v75 1) rfl (by kernel_rfl) (by kernel_rfl) (by kernel_rfl) (by kernel_rfl) rfl rfl hf (by decide) (wantY hf rfl rfl hb116) (fun w hp => ?_) ⟨_, hp⟩ ?_
          · obtain ⟨_, hp⟩ := hp
            refine st_ia (o' := 1) hf (by decide) Try.underlying46 (sz := 1) (by kernel_rfl) (wantY hf rfl rfl hb116) rfl rfl (rl95.ob hp) (by decide) (by decide) rfl ?_
            clear hf; intro a ha hf
            exact st_nil hf (th_n ⟨ha, rfl⟩)
          clear hf; intro a hf
          refine dr_take 51 (.int .i64 q73.1.2) rfl (by kernel_rfl) (by kernel_rfl) (by kernel_rfl) (by kernel_rfl) rfl rfl hf (by decide) (wantY hf rfl rfl hb116) (fun w hp => ?_) ⟨_, hp⟩ ?_
          · obtain ⟨_, hp⟩ := hp
            refine st_ldO (u := .int .i64 q73.1.2) hf (by decide) pl3 (wantY hf rfl rfl hb116) rfl (rl95.ob hp) rfl ?_
            clear hf; intro a ha hf
            exact st_nil hf (th_n ⟨ha, rfl⟩)
          clear hf; intro a hf
          refine dr_take 52 (v37) rfl (by kernel_rfl) (by kernel_rfl) (by kernel_rfl) (by kernel_rfl) rfl rfl hf (by decide) (wantY hf rfl rfl hb116) (fun w hp => ?_) ⟨_, hp⟩ ?_
          · obtain ⟨_, hp⟩ := hp
            refine st_move hf (wantY hf rfl rfl hb116) rfl (by decide) ?_
            clear hf; intro a ha hf
            exact st_nil hf (th_n ⟨ha, rfl⟩)
          clear hf; intro a hf
          refine dr_take 53 (.int .i64 i11) rfl (by kernel_rfl) (by kernel_rfl) (by kernel_rfl) (by kernel_rfl) rfl rfl hf (by decide) (wantY hf rfl rfl hb116) (fun w hp => ?_) ⟨_, hp⟩ ?_
          · obtain ⟨_, hp⟩ := hp
            refine st_move hf (wantY hf rfl rfl hb116) rfl (by decide) ?_
            clear hf; intro a ha hf
            exact st_nil hf (th_n ⟨ha, rfl⟩)
          clear hf; intro a hf
          refine dr_take 54 (eptr v37 i11 1) rfl (by kernel_rfl) (by kernel_rfl) (by kernel_rfl) (by kernel_rfl) rfl rfl hf (by decide) (wantY hf rfl rfl hb116) (fun w hp => ?_) ⟨_, hp⟩ ?_
          · obtain ⟨_, hp⟩ := hp
            refine st_index (E := (Ek.int .i64)) hf (by decide) Try.underlying39 elt3 (wantY hf rfl rfl hb116) rfl rfl (rl94.sl hp) hc117.1 hc117.2 ?_
            clear hf; intro a ha hf
            exact st_nil hf (th_n ⟨ha, rfl⟩)
          clear hf; intro a hf
          refine dr_take 55 (.int .i64 (gt w7 i11)) rfl (by kernel_rfl) (by kernel_rfl) (by kernel_rfl) (by kernel_rfl) rfl rfl hf (by decide) (wantY hf rfl rfl hb116) (fun w hp => ?_) ⟨_, hp⟩ ?_
          · obtain ⟨_, hp⟩ := hp
            refine st_ldI hf (by decide) pl3 (wantY hf rfl rfl hb116) rfl (rl94.sl hp) hc117.1 hc117.2 ?_
            clear hf; intro a ha hf
            exact st_nil hf (th_n ⟨ha, rfl⟩)
          clear hf; intro a hf
          refine dr_take 56 (.bool (q73.1.2 != (gt w7 i11))) rfl (by kernel_rfl) (by kernel_rfl) (by kernel_rfl) (by kernel_rfl) rfl rfl hf (by decide) (wantY hf rfl rfl hb116) (fun w hp => ?_) ⟨_, hp⟩ ?_
          · obtain ⟨_, hp⟩ := hp
            refine st_ineq hf (by decide) (wantY hf rfl rfl hb116) rfl rfl ?_
            clear hf; intro a ha hf
            exact st_nil hf (th_n ⟨ha, rfl⟩)
          clear hf; intro a hf
          refine dr_take 57 (.bool z118) rfl (by kernel_rfl) (by kernel_rfl) (by kernel_rfl) (by kernel_rfl) rfl rfl hf (by decide) (wantY hf rfl rfl hb113) (fun w hp => ?_) ⟨_, hp⟩ ?_
          · obtain ⟨_, hp⟩ := hp
            refine st_pick (v := .bool z118) hf (wantY hf rfl rfl hb113) rfl (fun _ => by rw [← hz115]; rfl) (fun hb' => absurd (hb116.symm.trans hb') (by decide)) (by decide) ?_
            clear hf; intro a ha hf
            exact st_nil hf (th_n ⟨ha, rfl⟩)
          clear hf; intro a hf
          refine dr_take 58 (.bool z119) rfl (by kernel_rfl) (by kernel_rfl) (by kernel_rfl) (by kernel_rfl) rfl rfl hf (by decide) rfl (fun w hp => ?_) ⟨_, hp⟩ ?_
          · obtain ⟨_, hp⟩ := hp
            refine st_pick (v := .bool z119) hf rfl rfl (fun hb' => absurd (hb113.symm.trans hb') (by decide)) (fun _ => by rw [← hz112]; rfl) (by decide) ?_
            clear hf; intro a ha hf
            exact st_nil hf (th_n ⟨ha, rfl⟩)
          clear hf; intro a hf
          refine dr_end (by kernel_rfl) ?_ _
          have hp := bk91 _ _ hp
          have hp := bk86 _ _ hp
          have hp := bk81 _ _ hp
          exact ⟨hf.sub ⟨rfl, rfl, rfl, rfl, rfl, rfl, rfl, rfl, trivial⟩, hp⟩
        skip
        replace hz115 := ifF hz115 hb116
        replace hz115 := Option.some.inj hz115
        refine dr_begin' (fun a w => Fr 263 a [(3, optr v5 0), (4, (GL.cut vx0_A 0 (((imin (x0_A.length : Int) (60 : Int))).toNat) 1)), (5, v35), (7, v37), (9, .int .i64 q18.1), (11, .int .i64 i11), (16, optr v75 0), (190, .bool z119)] ∧ Hp S w0 w (Res.sl (Ek.int .i64) 3 v37 w7 :: Res.sl Ek.bool 4 v35 u5 :: Res.obj 46 v75 [.int .i64 q73.1.1, .int .i64 q73.1.2] :: Res.obj 34 v5 [.int .i64 c3c_0, .int .u32 c3c_1, .int .u32 c3c_2] :: ow)) (fun w' => ∃ l, Hp S87 w w' l) [] (by kernel_rfl) ?_
        refine dr_take 0 (.int .i64 q57.2.2.2) rfl (by kernel_rfl) (by kernel_rfl) (by kernel_rfl) (by kernel_rfl) rfl rfl hf (by decide) rfl (fun w hp => ?_) ⟨_, hp⟩ ?_
        · obtain ⟨_, hp⟩ := hp
          refine st_move hf rfl rfl (by decide) ?_
          clear hf; intro a ha hf
          exact st_nil hf (th_n ⟨ha, rfl⟩)
        clear hf; intro a hf
        refine dr_take 1 (.bool (q57.2.2.2 != (0 : Int))) rfl (by kernel_rfl) (by kernel_rfl) (by kernel_rfl) (by kernel_rfl) rfl rfl hf (by decide) rfl (fun w hp => ?_) ⟨_, hp⟩ ?_
        · obtain ⟨_, hp⟩ := hp
          refine st_ineq hf (by decide) rfl rfl rfl ?_
          clear hf; intro a ha hf
          exact st_nil hf (th_n ⟨ha, rfl⟩)
        clear hf; intro a hf
        refine dr_take 2 (.bool (q57.2.2.2 != (0 : Int))) rfl (by kernel_rfl) (by kernel_rfl) (by kernel_rfl) (by kernel_rfl) rfl rfl hf (by decide) rfl (fun w hp => ?_) ⟨_, hp⟩ ?_
        · obtain ⟨_, hp⟩ := hp
          refine st_move hf rfl rfl (by decide) ?_
          clear hf; intro a ha hf
          exact st_nil hf (th_n ⟨ha, rfl⟩)
        clear hf; intro a hf
        refine dr_take 3 (.int .i64 q73.2) rfl (by kernel_rfl) (by kernel_rfl) (by kernel_rfl) (by kernel_rfl) rfl rfl hf (by decide) (wantY hf rfl rfl hb97) (fun w hp => ?_) ⟨_, hp⟩ ?_
        · obtain ⟨_, hp⟩ := hp
          refine st_move hf (wantY hf rfl rfl hb97) rfl (by decide) ?_
          clear hf; intro a ha hf
          exact st_nil hf (th_n ⟨ha, rfl⟩)
        clear hf; intro a hf
        refine dr_take 4 (.bool (q73.2 != (0 : Int))) rfl (by kernel_rfl) (by kernel_rfl) (by kernel_rfl) (by kernel_rfl) rfl rfl hf (by decide) (wantY hf rfl rfl hb97) (fun w hp => ?_) ⟨_, hp⟩ ?_
        · obtain ⟨_, hp⟩ := hp
          refine st_ineq hf (by decide) (wantY hf rfl rfl hb97) rfl rfl ?_
          clear hf; intro a ha hf
          exact st_nil hf (th_n ⟨ha, rfl⟩)
        clear hf; intro a hf
        refine dr_take 5 (.bool ((q57.2.2.2 != (0 : Int)) || (q73.2 != (0 : Int)))) rfl (by kernel_rfl) (by kernel_rfl) (by kernel_rfl) (by kernel_rfl) rfl rfl hf (by decide) rfl (fun w hp => ?_) ⟨_, hp⟩ ?_
        · obtain ⟨_, hp⟩ := hp
          refine st_pick (v := .bool ((q57.2.2.2 != (0 : Int)) || (q73.2 != (0 : Int)))) hf rfl rfl (fun hb' => absurd (hb97.symm.trans hb') (by decide)) (fun _ => by rw [show ((q57.2.2.2 != (0 : Int)) || (q73.2 != (0 : Int))) = (q73.2 != (0 : Int)) from by rw [hb97]; rfl]; rfl) (by decide) ?_
          clear hf; intro a ha hf
          exact st_nil hf (th_n ⟨ha, rfl⟩)
        clear hf; intro a hf
        refine dr_take 6 (.bool ((q57.2.2.2 != (0 : Int)) || (q73.2 != (0 : Int)))) rfl (by kernel_rfl) (by kernel_rfl) (by kernel_rfl) (by kernel_rfl) rfl rfl hf (by decide) rfl (fun w hp => ?_) ⟨_, hp⟩ ?_
        · obtain ⟨_, hp⟩ := hp
          refine st_move hf rfl rfl (by decide) ?_
          clear hf; intro a ha hf
          exact st_nil hf (th_n ⟨ha, rfl⟩)
        clear hf; intro a hf
        refine dr_take 7 (.int .i64 q57.1) rfl (by kernel_rfl) (by kernel_rfl) (by kernel_rfl) (by kernel_rfl) rfl rfl hf (by decide) (wantY hf rfl rfl hb99) (fun w hp => ?_) ⟨_, hp⟩ ?_
        · obtain ⟨_, hp⟩ := hp
          refine st_move hf (wantY hf rfl rfl hb99) rfl (by decide) ?_
          clear hf; intro a ha hf
          exact st_nil hf (th_n ⟨ha, rfl⟩)
        clear hf; intro a hf
        refine dr_take 8 (v37) rfl (by kernel_rfl) (by kernel_rfl) (by kernel_rfl) (by kernel_rfl) rfl rfl hf (by decide) (wantY hf rfl rfl hb99) (fun w hp => ?_) ⟨_, hp⟩ ?_
        · obtain ⟨_, hp⟩ := hp
          refine st_move hf (wantY hf rfl rfl hb99) rfl (by decide) ?_
          clear hf; intro a ha hf
          exact st_nil hf (th_n ⟨ha, rfl⟩)
        clear hf; intro a hf
        refine dr_take 9 (.int .i64 i11) rfl (by kernel_rfl) (by kernel_rfl) (by kernel_rfl) (by kernel_rfl) rfl rfl hf (by decide) (wantY hf rfl rfl hb99) (fun w hp => ?_) ⟨_, hp⟩ ?_
        · obtain ⟨_, hp⟩ := hp
          refine st_move hf (wantY hf rfl rfl hb99) rfl (by decide) ?_
          clear hf; intro a ha hf
          exact st_nil hf (th_n ⟨ha, rfl⟩)
        clear hf; intro a hf
        refine dr_take 10 (.int .i64 (IntKind.i64.wrap (i11 + (1 : Int)))) rfl (by kernel_rfl) (by kernel_rfl) (by kernel_rfl) (by kernel_rfl) rfl rfl hf (by decide) (wantY hf rfl rfl hb99) (fun w hp => ?_) ⟨_, hp⟩ ?_
        · obtain ⟨_, hp⟩ := hp
          refine st_iadd hf (by decide) (wantY hf rfl rfl hb99) rfl rfl ?_
          clear hf; intro a ha hf
          exact st_nil hf (th_n ⟨ha, rfl⟩)
        clear hf; intro a hf
        refine dr_take 11 (eptr v37 (IntKind.i64.wrap (i11 + (1 : Int))) 1) rfl (by kernel_rfl) (by kernel_rfl) (by kernel_rfl) (by kernel_rfl) rfl rfl hf (by decide) (wantY hf rfl rfl hb99) (fun w hp => ?_) ⟨_, hp⟩ ?_
        · obtain ⟨_, hp⟩ := hp
          refine st_index (E := (Ek.int .i64)) hf (by decide) Try.underlying39 elt3 (wantY hf rfl rfl hb99) rfl rfl (rl94.sl hp) hc100.1 hc100.2 ?_
          clear hf; intro a ha hf
          exact st_nil hf (th_n ⟨ha, rfl⟩)
        clear hf; intro a hf
        refine dr_take 12 (.int .i64 (gt w7 (IntKind.i64.wrap (i11 + (1 : Int))))) rfl (by kernel_rfl) (by kernel_rfl) (by kernel_rfl) (by kernel_rfl) rfl rfl hf (by decide) (wantY hf rfl rfl hb99) (fun w hp => ?_) ⟨_, hp⟩ ?_
        · obtain ⟨_, hp⟩ := hp
          refine st_ldI hf (by decide) pl3 (wantY hf rfl rfl hb99) rfl (rl94.sl hp) hc100.1 hc100.2 ?_
          clear hf; intro a ha hf
          exact st_nil hf (th_n ⟨ha, rfl⟩)
        clear hf; intro a hf
        refine dr_take 13 (.bool (q57.1 != (gt w7 (IntKind.i64.wrap (i11 + (1 : Int)))))) rfl (by kernel_rfl) (by kernel_rfl) (by kernel_rfl) (by kernel_rfl) rfl rfl hf (by decide) (wantY hf rfl rfl hb99) (fun w hp => ?_) ⟨_, hp⟩ ?_
        · obtain ⟨_, hp⟩ := hp
          refine st_ineq hf (by decide) (wantY hf rfl rfl hb99) rfl rfl ?_
          clear hf; intro a ha hf
          exact st_nil hf (th_n ⟨ha, rfl⟩)
        clear hf; intro a hf
        refine dr_take 14 (.bool z101) rfl (by kernel_rfl) (by kernel_rfl) (by kernel_rfl) (by kernel_rfl) rfl rfl hf (by decide) rfl (fun w hp => ?_) ⟨_, hp⟩ ?_
        · obtain ⟨_, hp⟩ := hp
          refine st_pick (v := .bool z101) hf rfl rfl (fun hb' => absurd (hb99.symm.trans hb') (by decide)) (fun _ => by rw [← hz98]; rfl) (by decide) ?_
          clear hf; intro a ha hf
          exact st_nil hf (th_n ⟨ha, rfl⟩)
        clear hf; intro a hf
        refine dr_take 15 (.bool z101) rfl (by kernel_rfl) (by kernel_rfl) (by kernel_rfl) (by kernel_rfl) rfl rfl hf (by decide) rfl (fun w hp => ?_) ⟨_, hp⟩ ?_
        · obtain ⟨_, hp⟩ := hp
          refine st_move hf rfl rfl (by decide) ?_
          clear hf; intro a ha hf
          exact st_nil hf (th_n ⟨ha, rfl⟩)
        clear hf; intro a hf
        refine dr_take 16 (.bool q57.2.1) rfl (by kernel_rfl) (by kernel_rfl) (by kernel_rfl) (by kernel_rfl) rfl rfl hf (by decide) (wantY hf rfl rfl hb103) (fun w hp => ?_) ⟨_, hp⟩ ?_
        · obtain ⟨_, hp⟩ := hp
          refine st_move hf (wantY hf rfl rfl hb103) rfl (by decide) ?_
          clear hf; intro a ha hf
          exact st_nil hf (th_n ⟨ha, rfl⟩)
        clear hf; intro a hf
        refine dr_take 17 (v35) rfl (by kernel_rfl) (by kernel_rfl) (by kernel_rfl) (by kernel_rfl) rfl rfl hf (by decide) (wantY hf rfl rfl hb103) (fun w hp => ?_) ⟨_, hp⟩ ?_
        · obtain ⟨_, hp⟩ := hp
          refine st_move hf (wantY hf rfl rfl hb103) rfl (by decide) ?_
          clear hf; intro a ha hf
          exact st_nil hf (th_n ⟨ha, rfl⟩)
        clear hf; intro a hf
        refine dr_take 18 (.int .i64 i11) rfl (by kernel_rfl) (by kernel_rfl) (by kernel_rfl) (by kernel_rfl) rfl rfl hf (by decide) (wantY hf rfl rfl hb103) (fun w hp => ?_) ⟨_, hp⟩ ?_
        · obtain ⟨_, hp⟩ := hp
          refine st_move hf (wantY hf rfl rfl hb103) rfl (by decide) ?_
          clear hf; intro a ha hf
          exact st_nil hf (th_n ⟨ha, rfl⟩)
        clear hf; intro a hf
        refine dr_take 19 (.int .i64 (IntKind.i64.wrap ((2 : Int) * i11))) rfl (by kernel_rfl) (by kernel_rfl) (by kernel_rfl) (by kernel_rfl) rfl rfl hf (by decide) (wantY hf rfl rfl hb103) (fun w hp => ?_) ⟨_, hp⟩ ?_
        · obtain ⟨_, hp⟩ := hp
          refine st_imul hf (by decide) (wantY hf rfl rfl hb103) rfl rfl ?_
          clear hf; intro a ha hf
          exact st_nil hf (th_n ⟨ha, rfl⟩)
        clear hf; intro a hf
        refine dr_take 20 (eptr v35 (IntKind.i64.wrap ((2 : Int) * i11)) 1) rfl (by kernel_rfl) (by kernel_rfl) (by kernel_rfl) (by kernel_rfl) rfl rfl hf (by decide) (wantY hf rfl rfl hb103) (fun w hp => ?_) ⟨_, hp⟩ ?_
        · obtain ⟨_, hp⟩ := hp
          refine st_index (E := Ek.bool) hf (by decide) Try.underlying25 elt4 (wantY hf rfl rfl hb103) rfl rfl (rl93.sl hp) hc104.1 hc104.2 ?_
          clear hf; intro a ha hf
          exact st_nil hf (th_n ⟨ha, rfl⟩)
        clear hf; intro a hf
        refine dr_take 21 (.bool (gt u5 (IntKind.i64.wrap ((2 : Int) * i11)))) rfl (by kernel_rfl) (by kernel_rfl) (by kernel_rfl) (by kernel_rfl) rfl rfl hf (by decide) (wantY hf rfl rfl hb103) (fun w hp => ?_) ⟨_, hp⟩ ?_
        · obtain ⟨_, hp⟩ := hp
          refine st_ldB hf (by decide) pl4 (wantY hf rfl rfl hb103) rfl (rl93.sl hp) hc104.1 hc104.2 ?_
          clear hf; intro a ha hf
          exact st_nil hf (th_n ⟨ha, rfl⟩)
        clear hf; intro a hf
        refine dr_take 22 (.bool (q57.2.1 != (gt u5 (IntKind.i64.wrap ((2 : Int) * i11))))) rfl (by kernel_rfl) (by kernel_rfl) (by kernel_rfl) (by kernel_rfl) rfl rfl hf (by decide) (wantY hf rfl rfl hb103) (fun w hp => ?_) ⟨_, hp⟩ ?_
        · obtain ⟨_, hp⟩ := hp
          refine st_bneq hf (by decide) Try.underlying4 (wantY hf rfl rfl hb103) rfl rfl ?_
          clear hf; intro a ha hf
          exact st_nil hf (th_n ⟨ha, rfl⟩)
        clear hf; intro a hf
        refine dr_take 23 (.bool z105) rfl (by kernel_rfl) (by kernel_rfl) (by kernel_rfl) (by kernel_rfl) rfl rfl hf (by decide) rfl (fun w hp => ?_) ⟨_, hp⟩ ?_
        · obtain ⟨_, hp⟩ := hp
          refine st_pick (v := .bool z105) hf rfl rfl (fun hb' => absurd (hb103.symm.trans hb') (by decide)) (fun _ => by rw [← hz102]; rfl) (by decide) ?_
          clear hf; intro a ha hf
          exact st_nil hf (th_n ⟨ha, rfl⟩)
        clear hf; intro a hf
        refine dr_take 24 (.bool z105) rfl (by kernel_rfl) (by kernel_rfl) (by kernel_rfl) (by kernel_rfl) rfl rfl hf (by decide) rfl (fun w hp => ?_) ⟨_, hp⟩ ?_
        · obtain ⟨_, hp⟩ := hp
          refine st_move hf rfl rfl (by decide) ?_
          clear hf; intro a ha hf
          exact st_nil hf (th_n ⟨ha, rfl⟩)
        clear hf; intro a hf
        refine dr_take 25 (.bool q57.2.2.1) rfl (by kernel_rfl) (by kernel_rfl) (by kernel_rfl) (by kernel_rfl) rfl rfl hf (by decide) (wantY hf rfl rfl hb107) (fun w hp => ?_) ⟨_, hp⟩ ?_
        · obtain ⟨_, hp⟩ := hp
          refine st_move hf (wantY hf rfl rfl hb107) rfl (by decide) ?_
          clear hf; intro a ha hf
          exact st_nil hf (th_n ⟨ha, rfl⟩)
        clear hf; intro a hf
        refine dr_take 26 (v35) rfl (by kernel_rfl) (by kernel_rfl) (by kernel_rfl) (by kernel_rfl) rfl rfl hf (by decide) (wantY hf rfl rfl hb107) (fun w hp => ?_) ⟨_, hp⟩ ?_
        · obtain ⟨_, hp⟩ := hp
          refine st_move hf (wantY hf rfl rfl hb107) rfl (by decide) ?_
          clear hf; intro a ha hf
          exact st_nil hf (th_n ⟨ha, rfl⟩)
        clear hf; intro a hf
        refine dr_take 27 (.int .i64 i11) rfl (by kernel_rfl) (by kernel_rfl) (by kernel_rfl) (by kernel_rfl) rfl rfl hf (by decide) (wantY hf rfl rfl hb107) (fun w hp => ?_) ⟨_, hp⟩ ?_
        · obtain ⟨_, hp⟩ := hp
          refine st_move hf (wantY hf rfl rfl hb107) rfl (by decide) ?_
          clear hf; intro a ha hf
          exact st_nil hf (th_n ⟨ha, rfl⟩)
        clear hf; intro a hf
        refine dr_take 28 (.int .i64 (IntKind.i64.wrap ((2 : Int) * i11))) rfl (by kernel_rfl) (by kernel_rfl) (by kernel_rfl) (by kernel_rfl) rfl rfl hf (by decide) (wantY hf rfl rfl hb107) (fun w hp => ?_) ⟨_, hp⟩ ?_
        · obtain ⟨_, hp⟩ := hp
          refine st_imul hf (by decide) (wantY hf rfl rfl hb107) rfl rfl ?_
          clear hf; intro a ha hf
          exact st_nil hf (th_n ⟨ha, rfl⟩)
        clear hf; intro a hf
        refine dr_take 29 (.int .i64 (IntKind.i64.wrap ((IntKind.i64.wrap ((2 : Int) * i11)) + (1 : Int)))) rfl (by kernel_rfl) (by kernel_rfl) (by kernel_rfl) (by kernel_rfl) rfl rfl hf (by decide) (wantY hf rfl rfl hb107) (fun w hp => ?_) ⟨_, hp⟩ ?_
        · obtain ⟨_, hp⟩ := hp
          refine st_iadd hf (by decide) (wantY hf rfl rfl hb107) rfl rfl ?_
          clear hf; intro a ha hf
          exact st_nil hf (th_n ⟨ha, rfl⟩)
        clear hf; intro a hf
        refine dr_take 30 (eptr v35 (IntKind.i64.wrap ((IntKind.i64.wrap ((2 : Int) * i11)) + (1 : Int))) 1) rfl (by kernel_rfl) (by kernel_rfl) (by kernel_rfl) (by kernel_rfl) rfl rfl hf (by decide) (wantY hf rfl rfl hb107) (fun w hp => ?_) ⟨_, hp⟩ ?_
        · obtain ⟨_, hp⟩ := hp
          refine st_index (E := Ek.bool) hf (by decide) Try.underlying25 elt4 (wantY hf rfl rfl hb107) rfl rfl (rl93.sl hp) hc108.1 hc108.2 ?_
          clear hf; intro a ha hf
          exact st_nil hf (th_n ⟨ha, rfl⟩)
        clear hf; intro a hf
        refine dr_take 31 (.bool (gt u5 (IntKind.i64.wrap ((IntKind.i64.wrap ((2 : Int) * i11)) + (1 : Int))))) rfl (by kernel_rfl) (by kernel_rfl) (by kernel_rfl) (by kernel_rfl) rfl rfl hf (by decide) (wantY hf rfl rfl hb107) (fun w hp => ?_) ⟨_, hp⟩ ?_
        · obtain ⟨_, hp⟩ := hp
          refine st_ldB hf (by decide) pl4 (wantY hf rfl rfl hb107) rfl (rl93.sl hp) hc108.1 hc108.2 ?_
          clear hf; intro a ha hf
          exact st_nil hf (th_n ⟨ha, rfl⟩)
        clear hf; intro a hf
        refine dr_take 32 (.bool (q57.2.2.1 != (gt u5 (IntKind.i64.wrap ((IntKind.i64.wrap ((2 : Int) * i11)) + (1 : Int)))))) rfl (by kernel_rfl) (by kernel_rfl) (by kernel_rfl) (by kernel_rfl) rfl rfl hf (by decide) (wantY hf rfl rfl hb107) (fun w hp => ?_) ⟨_, hp⟩ ?_
        · obtain ⟨_, hp⟩ := hp
          refine st_bneq hf (by decide) Try.underlying4 (wantY hf rfl rfl hb107) rfl rfl ?_
          clear hf; intro a ha hf
          exact st_nil hf (th_n ⟨ha, rfl⟩)
        clear hf; intro a hf
        refine dr_take 33 (.bool z109) rfl (by kernel_rfl) (by kernel_rfl) (by kernel_rfl) (by kernel_rfl) rfl rfl hf (by decide) rfl (fun w hp => ?_) ⟨_, hp⟩ ?_
        · obtain ⟨_, hp⟩ := hp
          refine st_pick (v := .bool z109) hf rfl rfl (fun hb' => absurd (hb107.symm.trans hb') (by decide)) (fun _ => by rw [← hz106]; rfl) (by decide) ?_
          clear hf; intro a ha hf
          exact st_nil hf (th_n ⟨ha, rfl⟩)
        clear hf; intro a hf
        refine dr_take 34 (.bool z109) rfl (by kernel_rfl) (by kernel_rfl) (by kernel_rfl) (by kernel_rfl) rfl rfl hf (by decide) rfl (fun w hp => ?_) ⟨_, hp⟩ ?_
        · obtain ⟨_, hp⟩ := hp
          refine st_move hf rfl rfl (by decide) ?_
          clear hf; intro a ha hf
          exact st_nil hf (th_n ⟨ha, rfl⟩)
        clear hf; intro a hf
        refine dr_take 35 (optr v75 0) rfl (by kernel_rfl) (by kernel_rfl) (by kernel_rfl) (by kernel_rfl) rfl rfl hf (by decide) (wantY hf rfl rfl hb111) (fun w hp => ?_) ⟨_, hp⟩ ?_
        · obtain ⟨_, hp⟩ := hp
          refine st_ia (o' := 0) hf (by decide) Try.underlying46 (sz := 1) (by kernel_rfl) (wantY hf rfl rfl hb111) rfl rfl (rl95.ob hp) (by decide) (by decide) rfl ?_
          clear hf; intro a ha hf
          exact st_nil hf (th_n ⟨ha, rfl⟩)
        clear hf; intro a hf
        refine dr_take 36 (.int .i64 q73.1.1) rfl (by kernel_rfl) (by kernel_rfl) (by kernel_rfl) (by kernel_rfl) rfl rfl hf (by decide) (wantY hf rfl rfl hb111) (fun w hp => ?_) ⟨_, hp⟩ ?_
        · obtain ⟨_, hp⟩ := hp
          refine st_ldO (u := .int .i64 q73.1.1) hf (by decide) pl3 (wantY hf rfl rfl hb111) rfl (rl95.ob hp) rfl ?_
          clear hf; intro a ha hf
          exact st_nil hf (th_n ⟨ha, rfl⟩)
        clear hf; intro a hf
        refine dr_take 37 (optr v75 1) rfl (by kernel_rfl) (by kernel_rfl) (by kernel_rfl) (by kernel_rfl) rfl rfl hf (by decide) (wantY hf rfl rfl hb111) (fun w hp => ?_) ⟨_, hp⟩ ?_
        · obtain ⟨_, hp⟩ := hp
          refine st_ia (o' := 1) hf (by decide) Try.underlying46 (sz := 1) (by kernel_rfl) (wantY hf rfl rfl hb111) rfl rfl (rl95.ob hp) (by decide) (by decide) rfl ?_
          clear hf; intro a ha hf
          exact st_nil hf (th_n ⟨ha, rfl⟩)
        clear hf; intro a hf
        refine dr_take 38 (.int .i64 q73.1.2) rfl (by kernel_rfl) (by kernel_rfl) (by kernel_rfl) (by kernel_rfl) rfl rfl hf (by decide) (wantY hf rfl rfl hb111) (fun w hp => ?_) ⟨_, hp⟩ ?_
        · obtain ⟨_, hp⟩ := hp
          refine st_ldO (u := .int .i64 q73.1.2) hf (by decide) pl3 (wantY hf rfl rfl hb111) rfl (rl95.ob hp) rfl ?_
          clear hf; intro a ha hf
          exact st_nil hf (th_n ⟨ha, rfl⟩)
        clear hf; intro a hf
        refine dr_take 39 (.bool (decide (q73.1.2 ≤ q73.1.1))) rfl (by kernel_rfl) (by kernel_rfl) (by kernel_rfl) (by kernel_rfl) rfl rfl hf (by decide) (wantY hf rfl rfl hb111) (fun w hp => ?_) ⟨_, hp⟩ ?_
        · obtain ⟨_, hp⟩ := hp
          refine st_igeq hf (by decide) (wantY hf rfl rfl hb111) rfl rfl ?_
          clear hf; intro a ha hf
          exact st_nil hf (th_n ⟨ha, rfl⟩)
        clear hf; intro a hf
        refine dr_take 40 (.bool (z109 || (decide (q73.1.2 ≤ q73.1.1)))) rfl (by kernel_rfl) (by kernel_rfl) (by kernel_rfl) (by kernel_rfl) rfl rfl hf (by decide) rfl (fun w hp => ?_) ⟨_, hp⟩ ?_
        · obtain ⟨_, hp⟩ := hp
          refine st_pick (v := .bool (z109 || (decide (q73.1.2 ≤ q73.1.1)))) hf rfl rfl (fun hb' => absurd (hb111.symm.trans hb') (by decide)) (fun _ => by rw [show (z109 || (decide (q73.1.2 ≤ q73.1.1))) = (decide (q73.1.2 ≤ q73.1.1)) from by rw [hb111]; rfl]; rfl) (by decide) ?_
          clear hf; intro a ha hf
          exact st_nil hf (th_n ⟨ha, rfl⟩)
        clear hf; intro a hf
        refine dr_take 41 (.bool (z109 || (decide (q73.1.2 ≤ q73.1.1)))) rfl (by kernel_rfl) (by kernel_rfl) (by kernel_rfl) (by kernel_rfl) rfl rfl hf (by decide) rfl (fun w hp => ?_) ⟨_, hp⟩ ?_
        · obtain ⟨_, hp⟩ := hp
          refine st_move hf rfl rfl (by decide) ?_
          clear hf; intro a ha hf
          exact st_nil hf (th_n ⟨ha, rfl⟩)
        clear hf; intro a hf
        refine dr_take 42 (optr v75 0) rfl (by kernel_rfl) (by kernel_rfl) (by kernel_rfl) (by kernel_rfl) rfl rfl hf (by decide) (wantY hf rfl rfl hb113) (fun w hp => ?_) ⟨_, hp⟩ ?_
        · obtain ⟨_, hp⟩ := hp
          refine st_ia (o' := 0) hf (by decide) Try.underlying46 (sz := 1) (by kernel_rfl) (wantY hf rfl rfl hb113) rfl rfl (rl95.ob hp) (by decide) (by decide) rfl ?_
          clear hf; intro a ha hf
          exact st_nil hf (th_n ⟨ha, rfl⟩)
        clear hf; intro a hf
        refine dr_take 43 (.int .i64 q73.1.1) rfl (by kernel_rfl) (by kernel_rfl) (by kernel_rfl) (by kernel_rfl) rfl rfl hf (by decide) (wantY hf rfl rfl hb113) (fun w hp => ?_) ⟨_, hp⟩ ?_
        · obtain ⟨_, hp⟩ := hp
          refine st_ldO (u := .int .i64 q73.1.1) hf (by decide) pl3 (wantY hf rfl rfl hb113) rfl (rl95.ob hp) rfl ?_
          clear hf; intro a ha hf
          exact st_nil hf (th_n ⟨ha, rfl⟩)
        clear hf; intro a hf
        refine dr_take 44 (v37) rfl (by kernel_rfl) (by kernel_rfl) (by kernel_rfl) (by kernel_rfl) rfl rfl hf (by decide) (wantY hf rfl rfl hb113) (fun w hp => ?_) ⟨_, hp⟩ ?_
        · obtain ⟨_, hp⟩ := hp
          refine st_move hf (wantY hf rfl rfl hb113) rfl (by decide) ?_
          clear hf; intro a ha hf
          exact st_nil hf (th_n ⟨ha, rfl⟩)
        clear hf; intro a hf
        refine dr_take 45 (.int .i64 i11) rfl (by kernel_rfl) (by kernel_rfl) (by kernel_rfl) (by kernel_rfl) rfl rfl hf (by decide) (wantY hf rfl rfl hb113) (fun w hp => ?_) ⟨_, hp⟩ ?_
        · obtain ⟨_, hp⟩ := hp
          refine st_move hf (wantY hf rfl rfl hb113) rfl (by decide) ?_
          clear hf; intro a ha hf
          exact st_nil hf (th_n ⟨ha, rfl⟩)
        clear hf; intro a hf
        refine dr_take 46 (eptr v37 i11 1) rfl (by kernel_rfl) (by kernel_rfl) (by kernel_rfl) (by kernel_rfl) rfl rfl hf (by decide) (wantY hf rfl rfl hb113) (fun w hp => ?_) ⟨_, hp⟩ ?_
        · obtain ⟨_, hp⟩ := hp
          refine st_index (E := (Ek.int .i64)) hf (by decide) Try.underlying39 elt3 (wantY hf rfl rfl hb113) rfl rfl (rl94.sl hp) hc114.1 hc114.2 ?_
          clear hf; intro a ha hf
          exact st_nil hf (th_n ⟨ha, rfl⟩)
        clear hf; intro a hf
        refine dr_take 47 (.int .i64 (gt w7 i11)) rfl (by kernel_rfl) (by kernel_rfl) (by kernel_rfl) (by kernel_rfl) rfl rfl hf (by decide) (wantY hf rfl rfl hb113) (fun w hp => ?_) ⟨_, hp⟩ ?_
        · obtain ⟨_, hp⟩ := hp
          refine st_ldI hf (by decide) pl3 (wantY hf rfl rfl hb113) rfl (rl94.sl hp) hc114.1 hc114.2 ?_
          clear hf; intro a ha hf
          exact st_nil hf (th_n ⟨ha, rfl⟩)
        clear hf; intro a hf
        refine dr_take 48 (.bool (q73.1.1 != (gt w7 i11))) rfl (by kernel_rfl) (by kernel_rfl) (by kernel_rfl) (by kernel_rfl) rfl rfl hf (by decide) (wantY hf rfl rfl hb113) (fun w hp => ?_) ⟨_, hp⟩ ?_
        · obtain ⟨_, hp⟩ := hp
          refine st_ineq hf (by decide) (wantY hf rfl rfl hb113) rfl rfl ?_
          clear hf; intro a ha hf
          exact st_nil hf (th_n ⟨ha, rfl⟩)
        clear hf; intro a hf
        refine dr_take 49 (.bool (q73.1.1 != (gt w7 i11))) rfl (by kernel_rfl) (by kernel_rfl) (by kernel_rfl) (by kernel_rfl) rfl rfl hf (by decide) (wantY hf rfl rfl hb113) (fun w hp => ?_) ⟨_, hp⟩ ?_
        · obtain ⟨_, hp⟩ := hp
          refine st_move hf (wantY hf rfl rfl hb113) rfl (by decide) ?_
          clear hf; intro a ha hf
          exact st_nil hf (th_n ⟨ha, rfl⟩)
        clear hf; intro a hf
        refine dr_out 50 rfl (by kernel_rfl) (by kernel_rfl) (by kernel_rfl) (by kernel_rfl) rfl hf (by decide) rfl (wantN hf rfl rfl hb116) ⟨_, hp⟩ ?_
        clear hf; intro a hf
        refine dr_out 51 rfl (by kernel_rfl) (by kernel_rfl) (by kernel_rfl) (by kernel_rfl) rfl hf (by decide) rfl (wantN hf rfl rfl hb116) ⟨_, hp⟩ ?_
        clear hf; intro a hf
        refine dr_out 52 rfl (by kernel_rfl) (by kernel_rfl) (by kernel_rfl) (by kernel_rfl) rfl hf (by decide) rfl (wantN hf rfl rfl hb116) ⟨_, hp⟩ ?_
        clear hf; intro a hf
        refine dr_out 53 rfl (by kernel_rfl) (by kernel_rfl) (by kernel_rfl) (by kernel_rfl) rfl hf (by decide) rfl (wantN hf rfl rfl hb116) ⟨_, hp⟩ ?_
        clear hf; intro a hf
        refine dr_out 54 rfl (by kernel_rfl) (by kernel_rfl) (by kernel_rfl) (by kernel_rfl) rfl hf (by decide) rfl (wantN hf rfl rfl hb116) ⟨_, hp⟩ ?_
        clear hf; intro a hf
        refine dr_out 55 rfl (by kernel_rfl) (by kernel_rfl) (by kernel_rfl) (by kernel_rfl) rfl hf (by decide) rfl (wantN hf rfl rfl hb116) ⟨_, hp⟩ ?_
        clear hf; intro a hf
        refine dr_out 56 rfl (by kernel_rfl) (by kernel_rfl) (by kernel_rfl) (by kernel_rfl) rfl hf (by decide) rfl (wantN hf rfl rfl hb116) ⟨_, hp⟩ ?_
        clear hf; intro a hf
        refine dr_take 57 (.bool z118) rfl (by kernel_rfl) (by kernel_rfl) (by kernel_rfl) (by kernel_rfl) rfl rfl hf (by decide) (wantY hf rfl rfl hb113) (fun w hp => ?_) ⟨_, hp⟩ ?_
        · obtain ⟨_, hp⟩ := hp
          refine st_pick (v := .bool z118) hf (wantY hf rfl rfl hb113) rfl (fun hb' => absurd (hb116.symm.trans hb') (by decide)) (fun _ => by rw [← hz115]; rfl) (by decide) ?_
          clear hf; intro a ha hf
          exact st_nil hf (th_n ⟨ha, rfl⟩)
        clear hf; intro a hf
        refine dr_take 58 (.bool z119) rfl (by kernel_rfl) (by kernel_rfl) (by kernel_rfl) (by kernel_rfl) rfl rfl hf (by decide) rfl (fun w hp => ?_) ⟨_, hp⟩ ?_
        · obtain ⟨_, hp⟩ := hp
          refine st_pick (v := .bool z119) hf rfl rfl (fun hb' => absurd (hb113.symm.trans hb') (by decide)) (fun _ => by rw [← hz112]; rfl) (by decide) ?_
          clear hf; intro a ha hf
          exact st_nil hf (th_n ⟨ha, rfl⟩)
        clear hf; intro a hf
        refine dr_end (by kernel_rfl) ?_ _
        have hp := bk91 _ _ hp
        have hp := bk86 _ _ hp
        have hp := bk81 _ _ hp
        exact ⟨hf.sub ⟨rfl, rfl, rfl, rfl, rfl, rfl, rfl, rfl, trivial⟩, hp⟩
      rintro a w ⟨hf, hp⟩
      refine th_n ?_
      refine wp_if hf rfl (fun hb => ?_) (fun hb => ?_)
      · replace h := ifT h hb
        refine wp_seq ?_
        refine wp_reg ?_
        refine st_assign hf rfl rfl (by decide) ?_
        clear hf; intro a ha hf; clear ha
        refine st_nil hf ?_
        refine th_n ?_
        refine wp_ret ?_
        refine th_r ?_
        refine ib_r ?_
        refine th_r ?_
        obtain rfl := Option.some.inj h
        have hp : Hp _ _ _ (ow) := Hp.sel (pre := [Res.sl (Ek.int .i64) 3 v37 w7, Res.sl Ek.bool 4 v35 u5, Res.obj 46 v75 [.int .i64 q73.1.1, .int .i64 q73.1.2], Res.obj 34 v5 [.int .i64 c3c_0, .int .u32 c3c_1, .int .u32 c3c_2]]) (tail := ow) (rs' := []) hp [] (by decide) (by simp) rfl
        exact rnd_r (by simp) ⟨rfl, ⟨hf.sub ⟨rfl, trivial⟩, hp⟩⟩
      replace h := ifF h hb
      refine wp_skip ?_
      refine th_n ?_
      refine wp_seq ?_
      refine wp_reg ?_
      refine st_assign hf rfl rfl (by decide) ?_
      clear hf; intro a ha hf; clear ha
      refine st_nil hf ?_
      refine th_n ?_
      refine wp_block ?_
      obtain ⟨q172, hl, h⟩ := bnd h
      have hp : Hp _ _ _ (Res.obj 34 v5 [.int .i64 c3c_0, .int .u32 c3c_1, .int .u32 c3c_2] :: Res.sl Ek.bool 4 v35 u5 :: Res.sl (Ek.int .i64) 3 v37 w7 :: Res.obj 46 v75 [.int .i64 q73.1.1, .int .i64 q73.1.2] :: ow) := Hp.sel (pre := [Res.sl (Ek.int .i64) 3 v37 w7, Res.sl Ek.bool 4 v35 u5, Res.obj 46 v75 [.int .i64 q73.1.1, .int .i64 q73.1.2], Res.obj 34 v5 [.int .i64 c3c_0, .int .u32 c3c_1, .int .u32 c3c_2]]) (tail := ow) (rs' := [Res.obj 34 v5 [.int .i64 c3c_0, .int .u32 c3c_1, .int .u32 c3c_2], Res.sl Ek.bool 4 v35 u5, Res.sl (Ek.int .i64) 3 v37 w7, Res.obj 46 v75 [.int .i64 q73.1.1, .int .i64 q73.1.2]]) hp [3, 1, 0, 2] (by decide) (by simp) rfl
      refine wp_loop_pure (f := (f_foghornlaw21_TrellisWalks.s2 q18 c3c_0 c3c_1 c3c_2 w7 i11 q73)) (s := (0 : Int)) (fun s a w => Fr 263 a [(3, optr v5 0), (4, (GL.cut vx0_A 0 (((imin (x0_A.length : Int) (60 : Int))).toNat) 1)), (5, v35), (7, v37), (9, .int .i64 q18.1), (11, .int .i64 i11), (16, optr v75 0), (18, .int .i64 s)] ∧ Hp S w0 w (Res.obj 34 v5 [.int .i64 c3c_0, .int .u32 c3c_1, .int .u32 c3c_2] :: Res.sl Ek.bool 4 v35 u5 :: Res.sl (Ek.int .i64) 3 v37 w7 :: Res.obj 46 v75 [.int .i64 q73.1.1, .int .i64 q73.1.2] :: ow)) (fun q e a w => match q with | (Sum.inl q) => e = .exit 2 ∧ Fr 263 a [(3, optr v5 0), (4, (GL.cut vx0_A 0 (((imin (x0_A.length : Int) (60 : Int))).toNat) 1)), (5, v35), (7, v37), (9, .int .i64 q18.1), (11, .int .i64 i11)] ∧ Hp S w0 w (Res.obj 34 v5 [.int .i64 c3c_0, .int .u32 c3c_1, .int .u32 c3c_2] :: Res.sl Ek.bool 4 v35 u5 :: Res.sl (Ek.int .i64) 3 v37 w7 :: ow) | (Sum.inr q) => e = .ret ∧ Fr 263 a [(2, .bool q)] ∧ Hp S w0 w (ow)) ?_ hl ⟨hf.sub ⟨rfl, rfl, rfl, rfl, rfl, rfl, rfl, rfl, trivial⟩, hp⟩ ?_
      · clear hl hf hp
        intro s x a w h hI
        obtain ⟨k18, hs⟩ : ∃ z, z = s := ⟨s, rfl⟩; subst hs
        obtain ⟨hf, hp⟩ : Fr 263 a [(3, optr v5 0), (4, (GL.cut vx0_A 0 (((imin (x0_A.length : Int) (60 : Int))).toNat) 1)), (5, v35), (7, v37), (9, .int .i64 q18.1), (11, .int .i64 i11), (16, optr v75 0), (18, .int .i64 k18)] ∧ Hp S w0 w (Res.obj 34 v5 [.int .i64 c3c_0, .int .u32 c3c_1, .int .u32 c3c_2] :: Res.sl Ek.bool 4 v35 u5 :: Res.sl (Ek.int .i64) 3 v37 w7 :: Res.obj 46 v75 [.int .i64 q73.1.1, .int .i64 q73.1.2] :: ow) := hI
        replace h : f_foghornlaw21_TrellisWalks.s2c q18 c3c_0 c3c_1 c3c_2 w7 i11 q73 k18 = some x := h
        unfold f_foghornlaw21_TrellisWalks.s2c at h
        refine wp_seq ?_
        refine wp_seq ?_
        refine wp_reg ?_
        refine st_move hf rfl rfl (by decide) ?_
        clear hf; intro a ha hf; clear ha
        refine st_ilss hf (by decide) rfl rfl rfl ?_
        clear hf; intro a ha hf; clear ha
        refine st_nil hf ?_
        refine th_n ?_
        refine wp_if hf rfl (fun hb => ?_) (fun hb => ?_)
        · replace h := ifT h hb
          refine wp_skip ?_
          refine th_n ?_
          refine wp_seq ?_
          refine wp_block ?_
          refine wp_seq ?_
          obtain ⟨S120, hp121, rd122, up123, bk124⟩ := Hp.lendO hp (i := 0) rfl
          obtain ⟨S125, hp126, rd127, up128, bk129⟩ := Hp.lendO hp121 (i := 2) rfl
          have rl130 := ((rd122.now hp121).mono up128)
          have rl131 := (((((RdS.cut hx0_A hc8 hc9).now hp).mono up123).now hp121).mono up128)
          have rl132 := rd127
          obtain ⟨hc133, h⟩ := chk h
          obtain ⟨q134, hcall135, h⟩ := bnd h
          refine wp_cutN (fun a w => Fr 263 a [(3, optr v5 0), (4, (GL.cut vx0_A 0 (((imin (x0_A.length : Int) (60 : Int))).toNat) 1)), (5, v35), (7, v37), (9, .int .i64 q18.1), (11, .int .i64 i11), (16, optr v75 0), (18, .int .i64 k18), (19, .int .i64 q134.1), (22, .int .i64 q134.2.2.2)] ∧ Hp S w0 w (Res.obj 34 v5 [.int .i64 c3c_0, .int .u32 c3c_1, .int .u32 c3c_2] :: Res.obj 46 v75 [.int .i64 q73.1.1, .int .i64 q73.1.2] :: Res.sl Ek.bool 4 v35 u5 :: Res.sl (Ek.int .i64) 3 v37 w7 :: ow)) ?_ ?_
          · have hp := hp126.same (Same.drew w)
            refine dr_begin' (fun a w => Fr 263 a [(3, optr v5 0), (4, (GL.cut vx0_A 0 (((imin (x0_A.length : Int) (60 : Int))).toNat) 1)), (5, v35), (7, v37), (9, .int .i64 q18.1), (11, .int .i64 i11), (16, optr v75 0), (18, .int .i64 k18), (19, .int .i64 q134.1), (22, .int .i64 q134.2.2.2)] ∧ Hp S w0 w (Res.obj 34 v5 [.int .i64 c3c_0, .int .u32 c3c_1, .int .u32 c3c_2] :: Res.obj 46 v75 [.int .i64 q73.1.1, .int .i64 q73.1.2] :: Res.sl Ek.bool 4 v35 u5 :: Res.sl (Ek.int .i64) 3 v37 w7 :: ow)) (fun w' => ∃ l, Hp S125 w w' l) [] (by kernel_rfl) ?_
            refine dr_take 0 (.agg #[.int .i64 c3c_0, .int .u32 c3c_1, .int .u32 c3c_2]) rfl (by kernel_rfl) (by kernel_rfl) (by kernel_rfl) (by kernel_rfl) rfl rfl hf (by decide) rfl (fun w hp => ?_) ⟨_, hp⟩ ?_
            · obtain ⟨_, hp⟩ := hp
              refine st_ldOA (m := 3) (us := [.int .i64 c3c_0, .int .u32 c3c_1, .int .u32 c3c_2]) hf (by decide) (by kernel_rfl) rfl rfl (rl130.ob hp) rfl rfl ?_
              clear hf; intro a ha hf
              exact st_nil hf (th_n ⟨ha, rfl⟩)
            clear hf; intro a hf
            refine dr_take 1 (.int .i64 k18) rfl (by kernel_rfl) (by kernel_rfl) (by kernel_rfl) (by kernel_rfl) rfl rfl hf (by decide) rfl (fun w hp => ?_) ⟨_, hp⟩ ?_
            · obtain ⟨_, hp⟩ := hp
              refine st_move hf rfl rfl (by decide) ?_
              clear hf; intro a ha hf
              exact st_nil hf (th_n ⟨ha, rfl⟩)
            clear hf; intro a hf
            refine dr_take 2 (optr v75 (0 + (k18).toNat * 1)) rfl (by kernel_rfl) (by kernel_rfl) (by kernel_rfl) (by kernel_rfl) rfl rfl hf (by decide) rfl (fun w hp => ?_) ⟨_, hp⟩ ?_
            · obtain ⟨_, hp⟩ := hp
              refine st_ia (o' := 0 + (k18).toNat * 1) hf (by decide) Try.underlying46 (sz := 1) (by kernel_rfl) rfl rfl rfl (rl132.ob hp) hc133.1 hc133.2 rfl ?_
              clear hf; intro a ha hf
              exact st_nil hf (th_n ⟨ha, rfl⟩)
            clear hf; intro a hf
            refine dr_take 3 (.int .i64 (gt [q73.1.1, q73.1.2] k18)) rfl (by kernel_rfl) (by kernel_rfl) (by kernel_rfl) (by kernel_rfl) rfl rfl hf (by decide) rfl (fun w hp => ?_) ⟨_, hp⟩ ?_
            · obtain ⟨_, hp⟩ := hp
              refine st_ldO (u := .int .i64 (gt [q73.1.1, q73.1.2] k18)) hf (by decide) pl3 rfl rfl (rl132.ob hp) (sel_int (xs := [q73.1.1, q73.1.2]) (N := 2) hc133 rfl) ?_
              clear hf; intro a ha hf
              exact st_nil hf (th_n ⟨ha, rfl⟩)
            clear hf; intro a hf
            refine dr_one 4 rfl (by kernel_rfl) ?_
            refine st_call hf (by decide) Try.func16 rfl rfl rfl rfl rfl (f_trellis_Code_Step_c hp _ _ _ _ _ hcall135) ?_
            rintro _ w ⟨rfl, hp0⟩
            clear hp; have hp := hp0; clear hp0
            replace hp : Hp _ _ _ (Res.sl Ek.bool 4 v35 u5 :: Res.sl (Ek.int .i64) 3 v37 w7 :: ow) := hp
            refine ⟨_, rfl, ?_⟩
            clear hf; intro a hf
            refine st_nil hf (th_n ⟨fun _ _ => ⟨_, hp⟩, ?_⟩)
            refine dr_take 5 (.tuple #[.int .i64 q134.1, .bool q134.2.1, .bool q134.2.2.1, .int .i64 q134.2.2.2]) rfl (by kernel_rfl) (by kernel_rfl) (by kernel_rfl) (by kernel_rfl) rfl rfl hf (by decide) rfl (fun w hp => ?_) ⟨_, hp⟩ ?_
            · obtain ⟨_, hp⟩ := hp
              refine st_move hf rfl rfl (by decide) ?_
              clear hf; intro a ha hf
              exact st_nil hf (th_n ⟨ha, rfl⟩)
            clear hf; intro a hf
            refine dr_take 6 (.int .i64 q134.1) rfl (by kernel_rfl) (by kernel_rfl) (by kernel_rfl) (by kernel_rfl) rfl rfl hf (by decide) rfl (fun w hp => ?_) ⟨_, hp⟩ ?_
            · obtain ⟨_, hp⟩ := hp
              refine st_extract hf (by decide) rfl rfl rfl ?_
              clear hf; intro a ha hf
              exact st_nil hf (th_n ⟨ha, rfl⟩)
            clear hf; intro a hf
            refine dr_take 7 (.bool q134.2.1) rfl (by kernel_rfl) (by kernel_rfl) (by kernel_rfl) (by kernel_rfl) rfl rfl hf (by decide) rfl (fun w hp => ?_) ⟨_, hp⟩ ?_
            · obtain ⟨_, hp⟩ := hp
              refine st_extract hf (by decide) rfl rfl rfl ?_
              clear hf; intro a ha hf
              exact st_nil hf (th_n ⟨ha, rfl⟩)
            clear hf; intro a hf
            refine dr_take 8 (.bool q134.2.2.1) rfl (by kernel_rfl) (by kernel_rfl) (by kernel_rfl) (by kernel_rfl) rfl rfl hf (by decide) rfl (fun w hp => ?_) ⟨_, hp⟩ ?_
            · obtain ⟨_, hp⟩ := hp
              refine st_extract hf (by decide) rfl rfl rfl ?_
              clear hf; intro a ha hf
              exact st_nil hf (th_n ⟨ha, rfl⟩)
            clear hf; intro a hf
            refine dr_take 9 (.int .i64 q134.2.2.2) rfl (by kernel_rfl) (by kernel_rfl) (by kernel_rfl) (by kernel_rfl) rfl rfl hf (by decide) rfl (fun w hp => ?_) ⟨_, hp⟩ ?_
            · obtain ⟨_, hp⟩ := hp
              refine st_extract hf (by decide) rfl rfl rfl ?_
              clear hf; intro a ha hf
              exact st_nil hf (th_n ⟨ha, rfl⟩)
            clear hf; intro a hf
            refine dr_take 10 (.int .i64 q134.1) rfl (by kernel_rfl) (by kernel_rfl) (by kernel_rfl) (by kernel_rfl) rfl rfl hf (by decide) rfl (fun w hp => ?_) ⟨_, hp⟩ ?_
            · obtain ⟨_, hp⟩ := hp
              refine st_assign hf rfl rfl (by decide) ?_
              clear hf; intro a ha hf
              exact st_nil hf (th_n ⟨ha, rfl⟩)
            clear hf; intro a hf
            refine dr_take 11 (.bool q134.2.1) rfl (by kernel_rfl) (by kernel_rfl) (by kernel_rfl) (by kernel_rfl) rfl rfl hf (by decide) rfl (fun w hp => ?_) ⟨_, hp⟩ ?_
            · obtain ⟨_, hp⟩ := hp
              refine st_assign hf rfl rfl (by decide) ?_
              clear hf; intro a ha hf
              exact st_nil hf (th_n ⟨ha, rfl⟩)
            clear hf; intro a hf
            refine dr_take 12 (.bool q134.2.2.1) rfl (by kernel_rfl) (by kernel_rfl) (by kernel_rfl) (by kernel_rfl) rfl rfl hf (by decide) rfl (fun w hp => ?_) ⟨_, hp⟩ ?_
            · obtain ⟨_, hp⟩ := hp
              refine st_assign hf rfl rfl (by decide) ?_
              clear hf; intro a ha hf
              exact st_nil hf (th_n ⟨ha, rfl⟩)
            clear hf; intro a hf
            refine dr_take 13 (.int .i64 q134.2.2.2) rfl (by kernel_rfl) (by kernel_rfl) (by kernel_rfl) (by kernel_rfl) rfl rfl hf (by decide) rfl (fun w hp => ?_) ⟨_, hp⟩ ?_
            · obtain ⟨_, hp⟩ := hp
              refine st_assign hf rfl rfl (by decide) ?_
              clear hf; intro a ha hf
              exact st_nil hf (th_n ⟨ha, rfl⟩)
            clear hf; intro a hf
            refine dr_end (by kernel_rfl) ?_ _
            have hp := bk129 _ _ hp
            have hp := bk124 _ _ hp
            exact ⟨hf.sub ⟨rfl, rfl, rfl, rfl, rfl, rfl, rfl, rfl, rfl, rfl, trivial⟩, hp⟩
          rintro a w ⟨hf, hp⟩
          refine th_n ?_
          refine wp_seq ?_
          obtain ⟨S136, hp137, rd138, up139, bk140⟩ := Hp.lendO hp (i := 0) rfl
          obtain ⟨S141, hp142, rd143, up144, bk145⟩ := Hp.lendO hp137 (i := 0) rfl
          have rl146 := ((rd138.now hp137).mono up144)
          have rl147 := (((((RdS.cut hx0_A hc8 hc9).now hp).mono up139).now hp137).mono up144)
          have rl148 := rd143
          obtain ⟨hc149, h⟩ := chk h
          obtain ⟨q150, hcall151, h⟩ := bnd h
          refine wp_cutN (fun a w => Fr 263 a [(3, optr v5 0), (4, (GL.cut vx0_A 0 (((imin (x0_A.length : Int) (60 : Int))).toNat) 1)), (5, v35), (7, v37), (9, .int .i64 q18.1), (11, .int .i64 i11), (16, optr v75 0), (18, .int .i64 k18), (19, .int .i64 q134.1), (22, .int .i64 q134.2.2.2), (23, .int .i64 q150.1), (26, .int .i64 q150.2.2.2)] ∧ Hp S w0 w (Res.obj 34 v5 [.int .i64 c3c_0, .int .u32 c3c_1, .int .u32 c3c_2] :: Res.obj 46 v75 [.int .i64 q73.1.1, .int .i64 q73.1.2] :: Res.sl Ek.bool 4 v35 u5 :: Res.sl (Ek.int .i64) 3 v37 w7 :: ow)) ?_ ?_
          · have hp := hp142.same (Same.drew w)
            refine dr_begin' (fun a w => Fr 263 a [(3, optr v5 0), (4, (GL.cut vx0_A 0 (((imin (x0_A.length : Int) (60 : Int))).toNat) 1)), (5, v35), (7, v37), (9, .int .i64 q18.1), (11, .int .i64 i11), (16, optr v75 0), (18, .int .i64 k18), (19, .int .i64 q134.1), (22, .int .i64 q134.2.2.2), (23, .int .i64 q150.1), (26, .int .i64 q150.2.2.2)] ∧ Hp S w0 w (Res.obj 34 v5 [.int .i64 c3c_0, .int .u32 c3c_1, .int .u32 c3c_2] :: Res.obj 46 v75 [.int .i64 q73.1.1, .int .i64 q73.1.2] :: Res.sl Ek.bool 4 v35 u5 :: Res.sl (Ek.int .i64) 3 v37 w7 :: ow)) (fun w' => ∃ l, Hp S141 w w' l) [] (by kernel_rfl) ?_
            refine dr_take 0 (.agg #[.int .i64 c3c_0, .int .u32 c3c_1, .int .u32 c3c_2]) rfl (by kernel_rfl) (by kernel_rfl) (by kernel_rfl) (by kernel_rfl) rfl rfl hf (by decide) rfl (fun w hp => ?_) ⟨_, hp⟩ ?_
            · obtain ⟨_, hp⟩ := hp
              refine st_ldOA (m := 3) (us := [.int .i64 c3c_0, .int .u32 c3c_1, .int .u32 c3c_2]) hf (by decide) (by kernel_rfl) rfl rfl (rl146.ob hp) rfl rfl ?_
              clear hf; intro a ha hf
              exact st_nil hf (th_n ⟨ha, rfl⟩)
            clear hf; intro a hf
            refine dr_take 1 (.int .i64 k18) rfl (by kernel_rfl) (by kernel_rfl) (by kernel_rfl) (by kernel_rfl) rfl rfl hf (by decide) rfl (fun w hp => ?_) ⟨_, hp⟩ ?_
            · obtain ⟨_, hp⟩ := hp
              refine st_move hf rfl rfl (by decide) ?_
              clear hf; intro a ha hf
              exact st_nil hf (th_n ⟨ha, rfl⟩)
            clear hf; intro a hf
            refine dr_take 2 (optr v75 (0 + (k18).toNat * 1)) rfl (by kernel_rfl) (by kernel_rfl) (by kernel_rfl) (by kernel_rfl) rfl rfl hf (by decide) rfl (fun w hp => ?_) ⟨_, hp⟩ ?_
            · obtain ⟨_, hp⟩ := hp
              refine st_ia (o' := 0 + (k18).toNat * 1) hf (by decide) Try.underlying46 (sz := 1) (by kernel_rfl) rfl rfl rfl (rl148.ob hp) hc149.1 hc149.2 rfl ?_
              clear hf; intro a ha hf
              exact st_nil hf (th_n ⟨ha, rfl⟩)
            clear hf; intro a hf
            refine dr_take 3 (.int .i64 (gt [q73.1.1, q73.1.2] k18)) rfl (by kernel_rfl) (by kernel_rfl) (by kernel_rfl) (by kernel_rfl) rfl rfl hf (by decide) rfl (fun w hp => ?_) ⟨_, hp⟩ ?_
            · obtain ⟨_, hp⟩ := hp
              refine st_ldO (u := .int .i64 (gt [q73.1.1, q73.1.2] k18)) hf (by decide) pl3 rfl rfl (rl148.ob hp) (sel_int (xs := [q73.1.1, q73.1.2]) (N := 2) hc149 rfl) ?_
              clear hf; intro a ha hf
              exact st_nil hf (th_n ⟨ha, rfl⟩)
            clear hf; intro a hf
            refine dr_one 4 rfl (by kernel_rfl) ?_
            refine st_call hf (by decide) Try.func16 rfl rfl rfl rfl rfl (f_trellis_Code_Step_c hp _ _ _ _ _ hcall151) ?_
            rintro _ w ⟨rfl, hp0⟩
            clear hp; have hp := hp0; clear hp0
            replace hp : Hp _ _ _ (Res.sl Ek.bool 4 v35 u5 :: Res.sl (Ek.int .i64) 3 v37 w7 :: ow) := hp
            refine ⟨_, rfl, ?_⟩
            clear hf; intro a hf
            refine st_nil hf (th_n ⟨fun _ _ => ⟨_, hp⟩, ?_⟩)
            refine dr_take 5 (.tuple #[.int .i64 q150.1, .bool q150.2.1, .bool q150.2.2.1, .int .i64 q150.2.2.2]) rfl (by kernel_rfl) (by kernel_rfl) (by kernel_rfl) (by kernel_rfl) rfl rfl hf (by decide) rfl (fun w hp => ?_) ⟨_, hp⟩ ?_
            · obtain ⟨_, hp⟩ := hp
              refine st_move hf rfl rfl (by decide) ?_
              clear hf; intro a ha hf
              exact st_nil hf (th_n ⟨ha, rfl⟩)
            clear hf; intro a hf
            refine dr_take 6 (.int .i64 q150.1) rfl (by kernel_rfl) (by kernel_rfl) (by kernel_rfl) (by kernel_rfl) rfl rfl hf (by decide) rfl (fun w hp => ?_) ⟨_, hp⟩ ?_
            · obtain ⟨_, hp⟩ := hp
              refine st_extract hf (by decide) rfl rfl rfl ?_
              clear hf; intro a ha hf
              exact st_nil hf (th_n ⟨ha, rfl⟩)
            clear hf; intro a hf
            refine dr_take 7 (.bool q150.2.1) rfl (by kernel_rfl) (by kernel_rfl) (by kernel_rfl) (by kernel_rfl) rfl rfl hf (by decide) rfl (fun w hp => ?_) ⟨_, hp⟩ ?_
            · obtain ⟨_, hp⟩ := hp
              refine st_extract hf (by decide) rfl rfl rfl ?_
              clear hf; intro a ha hf
              exact st_nil hf (th_n ⟨ha, rfl⟩)
            clear hf; intro a hf
            refine dr_take 8 (.bool q150.2.2.1) rfl (by kernel_rfl) (by kernel_rfl) (by kernel_rfl) (by kernel_rfl) rfl rfl hf (by decide) rfl (fun w hp => ?_) ⟨_, hp⟩ ?_
            · obtain ⟨_, hp⟩ := hp
              refine st_extract hf (by decide) rfl rfl rfl ?_
              clear hf; intro a ha hf
              exact st_nil hf (th_n ⟨ha, rfl⟩)
            clear hf; intro a hf
            refine dr_take 9 (.int .i64 q150.2.2.2) rfl (by kernel_rfl) (by kernel_rfl) (by kernel_rfl) (by kernel_rfl) rfl rfl hf (by decide) rfl (fun w hp => ?_) ⟨_, hp⟩ ?_
            · obtain ⟨_, hp⟩ := hp
              refine st_extract hf (by decide) rfl rfl rfl ?_
              clear hf; intro a ha hf
              exact st_nil hf (th_n ⟨ha, rfl⟩)
            clear hf; intro a hf
            refine dr_take 10 (.int .i64 q150.1) rfl (by kernel_rfl) (by kernel_rfl) (by kernel_rfl) (by kernel_rfl) rfl rfl hf (by decide) rfl (fun w hp => ?_) ⟨_, hp⟩ ?_
            · obtain ⟨_, hp⟩ := hp
              refine st_assign hf rfl rfl (by decide) ?_
              clear hf; intro a ha hf
              exact st_nil hf (th_n ⟨ha, rfl⟩)
            clear hf; intro a hf
            refine dr_take 11 (.bool q150.2.1) rfl (by kernel_rfl) (by kernel_rfl) (by kernel_rfl) (by kernel_rfl) rfl rfl hf (by decide) rfl (fun w hp => ?_) ⟨_, hp⟩ ?_
            · obtain ⟨_, hp⟩ := hp
              refine st_assign hf rfl rfl (by decide) ?_
              clear hf; intro a ha hf
              exact st_nil hf (th_n ⟨ha, rfl⟩)
            clear hf; intro a hf
            refine dr_take 12 (.bool q150.2.2.1) rfl (by kernel_rfl) (by kernel_rfl) (by kernel_rfl) (by kernel_rfl) rfl rfl hf (by decide) rfl (fun w hp => ?_) ⟨_, hp⟩ ?_
            · obtain ⟨_, hp⟩ := hp
              refine st_assign hf rfl rfl (by decide) ?_
              clear hf; intro a ha hf
              exact st_nil hf (th_n ⟨ha, rfl⟩)
            clear hf; intro a hf
            refine dr_take 13 (.int .i64 q150.2.2.2) rfl (by kernel_rfl) (by kernel_rfl) (by kernel_rfl) (by kernel_rfl) rfl rfl hf (by decide) rfl (fun w hp => ?_) ⟨_, hp⟩ ?_
            · obtain ⟨_, hp⟩ := hp
              refine st_assign hf rfl rfl (by decide) ?_
              clear hf; intro a ha hf
              exact st_nil hf (th_n ⟨ha, rfl⟩)
            clear hf; intro a hf
            refine dr_end (by kernel_rfl) ?_ _
            have hp := bk145 _ _ hp
            have hp := bk140 _ _ hp
            exact ⟨hf.sub ⟨rfl, rfl, rfl, rfl, rfl, rfl, rfl, rfl, rfl, rfl, rfl, rfl, trivial⟩, hp⟩
          rintro a w ⟨hf, hp⟩
          refine th_n ?_
          refine wp_seq ?_
          refine wp_reg ?_
          refine st_move hf rfl rfl (by decide) ?_
          clear hf; intro a ha hf; clear ha
          refine st_ineq hf (by decide) rfl rfl rfl ?_
          clear hf; intro a ha hf; clear ha
          refine st_move hf rfl rfl (by decide) ?_
          clear hf; intro a ha hf; clear ha
          refine wpList_cut 3 (fun a w => Fr 263 a [(3, optr v5 0), (4, (GL.cut vx0_A 0 (((imin (x0_A.length : Int) (60 : Int))).toNat) 1)), (5, v35), (7, v37), (9, .int .i64 q18.1), (11, .int .i64 i11), (16, optr v75 0), (18, .int .i64 k18), (19, .int .i64 q134.1), (23, .int .i64 q150.1), (220, .bool ((q134.2.2.2 != (0 : Int)) || (q150.2.2.2 != (0 : Int))))] ∧ Hp S w0 w (Res.obj 34 v5 [.int .i64 c3c_0, .int .u32 c3c_1, .int .u32 c3c_2] :: Res.obj 46 v75 [.int .i64 q73.1.1, .int .i64 q73.1.2] :: Res.sl Ek.bool 4 v35 u5 :: Res.sl (Ek.int .i64) 3 v37 w7 :: ow)) ?_ ?_
          · rcases Bool.eq_false_or_eq_true (q134.2.2.2 != (0 : Int)) with hb153 | hb153
            · skip
              refine st_skip hf (wantN hf rfl rfl hb153) rfl (by decide) ?_ rfl
              clear hf; intro a hf
              refine st_skip hf (wantN hf rfl rfl hb153) rfl (by decide) ?_ rfl
              clear hf; intro a hf
              refine st_pick (v := .bool true) hf rfl rfl (fun hb' => ?_) (fun hb' => ?_) (by decide) ?_
              · rfl
              · exact absurd (hb153.symm.trans hb') (by decide)
              clear hf; intro a ha hf; clear ha
              refine st_nil hf (th_n ?_)
              exact ⟨hf.sub ⟨rfl, rfl, rfl, rfl, rfl, rfl, rfl, rfl, rfl, rfl, (by rw [hb153]; rfl), trivial⟩, hp⟩
            refine st_move hf (wantY hf rfl rfl hb153) rfl (by decide) ?_
            clear hf; intro a ha hf; clear ha
            refine st_ineq hf (by decide) (wantY hf rfl rfl hb153) rfl rfl ?_
            clear hf; intro a ha hf; clear ha
            refine st_pick (v := .bool (q150.2.2.2 != (0 : Int))) hf rfl rfl (fun hb' => ?_) (fun hb' => ?_) (by decide) ?_
            · exact absurd (hb153.symm.trans hb') (by decide)
            · rfl
            clear hf; intro a ha hf; clear ha
            refine st_nil hf (th_n ?_)
            exact ⟨hf.sub ⟨rfl, rfl, rfl, rfl, rfl, rfl, rfl, rfl, rfl, rfl, (by rw [hb153]; rfl), trivial⟩, hp⟩
          rintro a w ⟨hf, hp⟩
          refine st_move hf rfl rfl (by decide) ?_
          clear hf; intro a ha hf; clear ha
          obtain ⟨z156, hz154, h⟩ := bnd h
          refine wpList_cut 17 (fun a w => Fr 263 a [(3, optr v5 0), (4, (GL.cut vx0_A 0 (((imin (x0_A.length : Int) (60 : Int))).toNat) 1)), (5, v35), (7, v37), (9, .int .i64 q18.1), (11, .int .i64 i11), (16, optr v75 0), (18, .int .i64 k18), (19, .int .i64 q134.1), (23, .int .i64 q150.1), (238, .bool z156)] ∧ Hp S w0 w (Res.obj 34 v5 [.int .i64 c3c_0, .int .u32 c3c_1, .int .u32 c3c_2] :: Res.obj 46 v75 [.int .i64 q73.1.1, .int .i64 q73.1.2] :: Res.sl Ek.bool 4 v35 u5 :: Res.sl (Ek.int .i64) 3 v37 w7 :: ow)) ?_ ?_
          · rcases Bool.eq_false_or_eq_true ((q134.2.2.2 != (0 : Int)) || (q150.2.2.2 != (0 : Int))) with hb155 | hb155
            · skip
              replace hz154 := ifT hz154 hb155
              refine st_skip hf (wantN hf rfl rfl hb155) rfl (by decide) ?_ rfl
              clear hf; intro a hf
              refine st_skip hf (wantN hf rfl rfl hb155) rfl (by decide) ?_ rfl
              clear hf; intro a hf
              refine st_skip hf (wantN hf rfl rfl hb155) rfl (by decide) ?_ rfl
              clear hf; intro a hf
              refine st_skip hf (wantN hf rfl rfl hb155) rfl (by decide) ?_ rfl
              clear hf; intro a hf
              refine st_skip hf (wantN hf rfl rfl hb155) rfl (by decide) ?_ rfl
              clear hf; intro a hf
              refine st_skip hf (wantN hf rfl rfl hb155) rfl (by decide) ?_ rfl
              clear hf; intro a hf
              refine st_skip hf (wantN hf rfl rfl hb155) rfl (by decide) ?_ rfl
              clear hf; intro a hf
              refine st_skipU hf (wantN hf rfl rfl hb155) rfl (by decide) ?_
              clear hf; intro a hf
              refine st_skip hf (wantU hf rfl rfl) rfl (by decide) ?_ rfl
              clear hf; intro a hf
              refine st_skip hf (wantU hf rfl rfl) rfl (by decide) ?_ rfl
              clear hf; intro a hf
              refine st_skip hf (wantU hf rfl rfl) rfl (by decide) ?_ rfl
              clear hf; intro a hf
              refine st_skip hf (wantU hf rfl rfl) rfl (by decide) ?_ rfl
              clear hf; intro a hf
              refine st_skip hf (wantU hf rfl rfl) rfl (by decide) ?_ rfl
              clear hf; intro a hf
              refine st_skip hf (wantU hf rfl rfl) rfl (by decide) ?_ rfl
              clear hf; intro a hf
              refine st_skip hf (wantU hf rfl rfl) rfl (by decide) ?_ rfl
              clear hf; intro a hf
              refine st_skip hf (wantN hf rfl rfl hb155) rfl (by decide) ?_ rfl
              clear hf; intro a hf
              obtain rfl := Option.some.inj hz154
              refine st_pick (v := .bool true) hf rfl rfl (fun hb' => ?_) (fun hb' => ?_) (by decide) ?_
              · rfl
              · exact absurd (hb155.symm.trans hb') (by decide)
              clear hf; intro a ha hf; clear ha
              refine st_nil hf (th_n ?_)
              exact ⟨hf.sub ⟨rfl, rfl, rfl, rfl, rfl, rfl, rfl, rfl, rfl, rfl, rfl, trivial⟩, hp⟩
            replace hz154 := ifF hz154 hb155
            refine st_move hf (wantY hf rfl rfl hb155) rfl (by decide) ?_
            clear hf; intro a ha hf; clear ha
            refine st_move hf (wantY hf rfl rfl hb155) rfl (by decide) ?_
            clear hf; intro a ha hf; clear ha
            refine st_move hf (wantY hf rfl rfl hb155) rfl (by decide) ?_
            clear hf; intro a ha hf; clear ha
            refine st_iadd hf (by decide) (wantY hf rfl rfl hb155) rfl rfl ?_
            clear hf; intro a ha hf; clear ha
            obtain ⟨hc157, hz154⟩ := chk hz154
            refine st_index (E := (Ek.int .i64)) hf (by decide) Try.underlying39 elt3 (wantY hf rfl rfl hb155) rfl rfl (hp.sl (i := 3) rfl) hc157.1 hc157.2 ?_
            clear hf; intro a ha hf; clear ha
            refine st_ldI hf (by decide) pl3 (wantY hf rfl rfl hb155) rfl (hp.sl (i := 3) rfl) hc157.1 hc157.2 ?_
            clear hf; intro a ha hf; clear ha
            refine st_ineq hf (by decide) (wantY hf rfl rfl hb155) rfl rfl ?_
            clear hf; intro a ha hf; clear ha
            refine st_move hf (wantY hf rfl rfl hb155) rfl (by decide) ?_
            clear hf; intro a ha hf; clear ha
            obtain ⟨z160, hz158, hz154⟩ := bnd hz154
            refine wpList_cut 8 (fun a w => Fr 263 a [(3, optr v5 0), (4, (GL.cut vx0_A 0 (((imin (x0_A.length : Int) (60 : Int))).toNat) 1)), (5, v35), (7, v37), (9, .int .i64 q18.1), (11, .int .i64 i11), (16, optr v75 0), (18, .int .i64 k18), (19, .int .i64 q134.1), (23, .int .i64 q150.1), (221, .bool ((q134.2.2.2 != (0 : Int)) || (q150.2.2.2 != (0 : Int)))), (237, .bool z160)] ∧ Hp S w0 w (Res.obj 34 v5 [.int .i64 c3c_0, .int .u32 c3c_1, .int .u32 c3c_2] :: Res.obj 46 v75 [.int .i64 q73.1.1, .int .i64 q73.1.2] :: Res.sl Ek.bool 4 v35 u5 :: Res.sl (Ek.int .i64) 3 v37 w7 :: ow)) ?_ ?_
            · rcases Bool.eq_false_or_eq_true (q134.1 != (gt w7 (IntKind.i64.wrap (i11 + (1 : Int))))) with hb159 | hb159
              · skip
                replace hz158 := ifT hz158 hb159
                refine st_move hf (wantY hf rfl rfl hb159) rfl (by decide) ?_
                clear hf; intro a ha hf; clear ha
                refine st_move hf (wantY hf rfl rfl hb159) rfl (by decide) ?_
                clear hf; intro a ha hf; clear ha
                refine st_move hf (wantY hf rfl rfl hb159) rfl (by decide) ?_
                clear hf; intro a ha hf; clear ha
                refine st_iadd hf (by decide) (wantY hf rfl rfl hb159) rfl rfl ?_
                clear hf; intro a ha hf; clear ha
                obtain ⟨hc161, hz158⟩ := chk hz158
                refine st_index (E := (Ek.int .i64)) hf (by decide) Try.underlying39 elt3 (wantY hf rfl rfl hb159) rfl rfl (hp.sl (i := 3) rfl) hc161.1 hc161.2 ?_
                clear hf; intro a ha hf; clear ha
                refine st_ldI hf (by decide) pl3 (wantY hf rfl rfl hb159) rfl (hp.sl (i := 3) rfl) hc161.1 hc161.2 ?_
                clear hf; intro a ha hf; clear ha
                refine st_ineq hf (by decide) (wantY hf rfl rfl hb159) rfl rfl ?_
                clear hf; intro a ha hf; clear ha
                obtain rfl := Option.some.inj hz158
                refine st_pick (v := .bool (q150.1 != (gt w7 (IntKind.i64.wrap (i11 + (1 : Int)))))) hf (wantY hf rfl rfl hb155) rfl (fun hb' => ?_) (fun hb' => ?_) (by decide) ?_
                · rfl
                · exact absurd (hb159.symm.trans hb') (by decide)
                clear hf; intro a ha hf; clear ha
                refine st_nil hf (th_n ?_)
                exact ⟨hf.sub ⟨rfl, rfl, rfl, rfl, rfl, rfl, rfl, rfl, rfl, rfl, rfl, rfl, trivial⟩, hp⟩
              replace hz158 := ifF hz158 hb159
              refine st_skip hf (wantN hf rfl rfl hb159) rfl (by decide) ?_ rfl
              clear hf; intro a hf
              refine st_skip hf (wantN hf rfl rfl hb159) rfl (by decide) ?_ rfl
              clear hf; intro a hf
              refine st_skip hf (wantN hf rfl rfl hb159) rfl (by decide) ?_ rfl
              clear hf; intro a hf
              refine st_skip hf (wantN hf rfl rfl hb159) rfl (by decide) ?_ rfl
              clear hf; intro a hf
              refine st_skip hf (wantN hf rfl rfl hb159) rfl (by decide) ?_ rfl
              clear hf; intro a hf
              refine st_skip hf (wantN hf rfl rfl hb159) rfl (by decide) ?_ rfl
              clear hf; intro a hf
              refine st_skip hf (wantN hf rfl rfl hb159) rfl (by decide) ?_ rfl
              clear hf; intro a hf
              obtain rfl := Option.some.inj hz158
              refine st_pick (v := .bool false) hf (wantY hf rfl rfl hb155) rfl (fun hb' => ?_) (fun hb' => ?_) (by decide) ?_
              · exact absurd (hb159.symm.trans hb') (by decide)
              · rfl
              clear hf; intro a ha hf; clear ha
              refine st_nil hf (th_n ?_)
              exact ⟨hf.sub ⟨rfl, rfl, rfl, rfl, rfl, rfl, rfl, rfl, rfl, rfl, rfl, rfl, trivial⟩, hp⟩
            rintro a w ⟨hf, hp⟩
            obtain rfl := Option.some.inj hz154
            refine st_pick (v := .bool z160) hf rfl rfl (fun hb' => ?_) (fun hb' => ?_) (by decide) ?_
            · exact absurd (hb155.symm.trans hb') (by decide)
            · rfl
            clear hf; intro a ha hf; clear ha
            refine st_nil hf (th_n ?_)
            exact ⟨hf.sub ⟨rfl, rfl, rfl, rfl, rfl, rfl, rfl, rfl, rfl, rfl, rfl, trivial⟩, hp⟩
          rintro a w ⟨hf, hp⟩
          refine st_move hf rfl rfl (by decide) ?_
          clear hf; intro a ha hf; clear ha
          refine wpList_cut 4 (fun a w => Fr 263 a [(3, optr v5 0), (4, (GL.cut vx0_A 0 (((imin (x0_A.length : Int) (60 : Int))).toNat) 1)), (5, v35), (7, v37), (9, .int .i64 q18.1), (11, .int .i64 i11), (16, optr v75 0), (18, .int .i64 k18), (19, .int .i64 q134.1), (23, .int .i64 q150.1), (243, .bool (z156 || (q134.1 == q150.1)))] ∧ Hp S w0 w (Res.obj 34 v5 [.int .i64 c3c_0, .int .u32 c3c_1, .int .u32 c3c_2] :: Res.obj 46 v75 [.int .i64 q73.1.1, .int .i64 q73.1.2] :: Res.sl Ek.bool 4 v35 u5 :: Res.sl (Ek.int .i64) 3 v37 w7 :: ow)) ?_ ?_
          · rcases Bool.eq_false_or_eq_true z156 with hb163 | hb163
            · skip
              refine st_skip hf (wantN hf rfl rfl hb163) rfl (by decide) ?_ rfl
              clear hf; intro a hf
              refine st_skip hf (wantN hf rfl rfl hb163) rfl (by decide) ?_ rfl
              clear hf; intro a hf
              refine st_skip hf (wantN hf rfl rfl hb163) rfl (by decide) ?_ rfl
              clear hf; intro a hf
              refine st_pick (v := .bool true) hf rfl rfl (fun hb' => ?_) (fun hb' => ?_) (by decide) ?_
              · rfl
              · exact absurd (hb163.symm.trans hb') (by decide)
              clear hf; intro a ha hf; clear ha
              refine st_nil hf (th_n ?_)
              exact ⟨hf.sub ⟨rfl, rfl, rfl, rfl, rfl, rfl, rfl, rfl, rfl, rfl, (by rw [hb163]; rfl), trivial⟩, hp⟩
            refine st_move hf (wantY hf rfl rfl hb163) rfl (by decide) ?_
            clear hf; intro a ha hf; clear ha
            refine st_move hf (wantY hf rfl rfl hb163) rfl (by decide) ?_
            clear hf; intro a ha hf; clear ha
            refine st_ieql hf (by decide) (wantY hf rfl rfl hb163) rfl rfl ?_
            clear hf; intro a ha hf; clear ha
            refine st_pick (v := .bool (q134.1 == q150.1)) hf rfl rfl (fun hb' => ?_) (fun hb' => ?_) (by decide) ?_
            · exact absurd (hb163.symm.trans hb') (by decide)
            · rfl
            clear hf; intro a ha hf; clear ha
            refine st_nil hf (th_n ?_)
            exact ⟨hf.sub ⟨rfl, rfl, rfl, rfl, rfl, rfl, rfl, rfl, rfl, rfl, (by rw [hb163]; rfl), trivial⟩, hp⟩
          rintro a w ⟨hf, hp⟩
          refine st_move hf rfl rfl (by decide) ?_
          clear hf; intro a ha hf; clear ha
          refine wpList_cut 3 (fun a w => Fr 263 a [(3, optr v5 0), (4, (GL.cut vx0_A 0 (((imin (x0_A.length : Int) (60 : Int))).toNat) 1)), (5, v35), (7, v37), (9, .int .i64 q18.1), (11, .int .i64 i11), (16, optr v75 0), (18, .int .i64 k18), (19, .int .i64 q134.1), (23, .int .i64 q150.1), (247, .bool ((z156 || (q134.1 == q150.1)) || (decide (q134.1 < (0 : Int)))))] ∧ Hp S w0 w (Res.obj 34 v5 [.int .i64 c3c_0, .int .u32 c3c_1, .int .u32 c3c_2] :: Res.obj 46 v75 [.int .i64 q73.1.1, .int .i64 q73.1.2] :: Res.sl Ek.bool 4 v35 u5 :: Res.sl (Ek.int .i64) 3 v37 w7 :: ow)) ?_ ?_
          · rcases Bool.eq_false_or_eq_true (z156 || (q134.1 == q150.1)) with hb165 | hb165
            · skip
              refine st_skip hf (wantN hf rfl rfl hb165) rfl (by decide) ?_ rfl
              clear hf; intro a hf
              refine st_skip hf (wantN hf rfl rfl hb165) rfl (by decide) ?_ rfl
              clear hf; intro a hf
              refine st_pick (v := .bool true) hf rfl rfl (fun hb' => ?_) (fun hb' => ?_) (by decide) ?_
              · rfl
              · exact absurd (hb165.symm.trans hb') (by decide)
              clear hf; intro a ha hf; clear ha
              refine st_nil hf (th_n ?_)
              exact ⟨hf.sub ⟨rfl, rfl, rfl, rfl, rfl, rfl, rfl, rfl, rfl, rfl, (by rw [hb165]; rfl), trivial⟩, hp⟩
            refine st_move hf (wantY hf rfl rfl hb165) rfl (by decide) ?_
            clear hf; intro a ha hf; clear ha
            refine st_ilss hf (by decide) (wantY hf rfl rfl hb165) rfl rfl ?_
            clear hf; intro a ha hf; clear ha
            refine st_pick (v := .bool (decide (q134.1 < (0 : Int)))) hf rfl rfl (fun hb' => ?_) (fun hb' => ?_) (by decide) ?_
            · exact absurd (hb165.symm.trans hb') (by decide)
            · rfl
            clear hf; intro a ha hf; clear ha
            refine st_nil hf (th_n ?_)
            exact ⟨hf.sub ⟨rfl, rfl, rfl, rfl, rfl, rfl, rfl, rfl, rfl, rfl, (by rw [hb165]; rfl), trivial⟩, hp⟩
          rintro a w ⟨hf, hp⟩
          refine st_move hf rfl rfl (by decide) ?_
          clear hf; intro a ha hf; clear ha
          refine wpList_cut 4 (fun a w => Fr 263 a [(3, optr v5 0), (4, (GL.cut vx0_A 0 (((imin (x0_A.length : Int) (60 : Int))).toNat) 1)), (5, v35), (7, v37), (9, .int .i64 q18.1), (11, .int .i64 i11), (16, optr v75 0), (18, .int .i64 k18), (23, .int .i64 q150.1), (252, .bool (((z156 || (q134.1 == q150.1)) || (decide (q134.1 < (0 : Int)))) || (decide (q18.1 ≤ q134.1))))] ∧ Hp S w0 w (Res.obj 34 v5 [.int .i64 c3c_0, .int .u32 c3c_1, .int .u32 c3c_2] :: Res.obj 46 v75 [.int .i64 q73.1.1, .int .i64 q73.1.2] :: Res.sl Ek.bool 4 v35 u5 :: Res.sl (Ek.int .i64) 3 v37 w7 :: ow)) ?_ ?_
          · rcases Bool.eq_false_or_eq_true ((z156 || (q134.1 == q150.1)) || (decide (q134.1 < (0 : Int)))) with hb167 | hb167
            · skip
              refine st_skip hf (wantN hf rfl rfl hb167) rfl (by decide) ?_ rfl
              clear hf; intro a hf
              refine st_skip hf (wantN hf rfl rfl hb167) rfl (by decide) ?_ rfl
              clear hf; intro a hf
              refine st_skip hf (wantN hf rfl rfl hb167) rfl (by decide) ?_ rfl
              clear hf; intro a hf
              refine st_pick (v := .bool true) hf rfl rfl (fun hb' => ?_) (fun hb' => ?_) (by decide) ?_
              · rfl
              · exact absurd (hb167.symm.trans hb') (by decide)
              clear hf; intro a ha hf; clear ha
              refine st_nil hf (th_n ?_)
              exact ⟨hf.sub ⟨rfl, rfl, rfl, rfl, rfl, rfl, rfl, rfl, rfl, (by rw [hb167]; rfl), trivial⟩, hp⟩
            refine st_move hf (wantY hf rfl rfl hb167) rfl (by decide) ?_
            clear hf; intro a ha hf; clear ha
            refine st_move hf (wantY hf rfl rfl hb167) rfl (by decide) ?_
            clear hf; intro a ha hf; clear ha
            refine st_igeq hf (by decide) (wantY hf rfl rfl hb167) rfl rfl ?_
            clear hf; intro a ha hf; clear ha
            refine st_pick (v := .bool (decide (q18.1 ≤ q134.1))) hf rfl rfl (fun hb' => ?_) (fun hb' => ?_) (by decide) ?_
            · exact absurd (hb167.symm.trans hb') (by decide)
            · rfl
            clear hf; intro a ha hf; clear ha
            refine st_nil hf (th_n ?_)
            exact ⟨hf.sub ⟨rfl, rfl, rfl, rfl, rfl, rfl, rfl, rfl, rfl, (by rw [hb167]; rfl), trivial⟩, hp⟩
          rintro a w ⟨hf, hp⟩
          refine st_move hf rfl rfl (by decide) ?_
          clear hf; intro a ha hf; clear ha
          refine wpList_cut 3 (fun a w => Fr 263 a [(3, optr v5 0), (4, (GL.cut vx0_A 0 (((imin (x0_A.length : Int) (60 : Int))).toNat) 1)), (5, v35), (7, v37), (9, .int .i64 q18.1), (11, .int .i64 i11), (16, optr v75 0), (18, .int .i64 k18), (23, .int .i64 q150.1), (256, .bool ((((z156 || (q134.1 == q150.1)) || (decide (q134.1 < (0 : Int)))) || (decide (q18.1 ≤ q134.1))) || (decide (q150.1 < (0 : Int)))))] ∧ Hp S w0 w (Res.obj 34 v5 [.int .i64 c3c_0, .int .u32 c3c_1, .int .u32 c3c_2] :: Res.obj 46 v75 [.int .i64 q73.1.1, .int .i64 q73.1.2] :: Res.sl Ek.bool 4 v35 u5 :: Res.sl (Ek.int .i64) 3 v37 w7 :: ow)) ?_ ?_
          · rcases Bool.eq_false_or_eq_true (((z156 || (q134.1 == q150.1)) || (decide (q134.1 < (0 : Int)))) || (decide (q18.1 ≤ q134.1))) with hb169 | hb169
            · skip
              refine st_skip hf (wantN hf rfl rfl hb169) rfl (by decide) ?_ rfl
              clear hf; intro a hf
              refine st_skip hf (wantN hf rfl rfl hb169) rfl (by decide) ?_ rfl
              clear hf; intro a hf
              refine st_pick (v := .bool true) hf rfl rfl (fun hb' => ?_) (fun hb' => ?_) (by decide) ?_
              · rfl
              · exact absurd (hb169.symm.trans hb') (by decide)
              clear hf; intro a ha hf; clear ha
              refine st_nil hf (th_n ?_)
              exact ⟨hf.sub ⟨rfl, rfl, rfl, rfl, rfl, rfl, rfl, rfl, rfl, (by rw [hb169]; rfl), trivial⟩, hp⟩
            refine st_move hf (wantY hf rfl rfl hb169) rfl (by decide) ?_
            clear hf; intro a ha hf; clear ha
            refine st_ilss hf (by decide) (wantY hf rfl rfl hb169) rfl rfl ?_
            clear hf; intro a ha hf; clear ha
            refine st_pick (v := .bool (decide (q150.1 < (0 : Int)))) hf rfl rfl (fun hb' => ?_) (fun hb' => ?_) (by decide) ?_
            · exact absurd (hb169.symm.trans hb') (by decide)
            · rfl
            clear hf; intro a ha hf; clear ha
            refine st_nil hf (th_n ?_)
            exact ⟨hf.sub ⟨rfl, rfl, rfl, rfl, rfl, rfl, rfl, rfl, rfl, (by rw [hb169]; rfl), trivial⟩, hp⟩
          rintro a w ⟨hf, hp⟩
          refine st_move hf rfl rfl (by decide) ?_
          clear hf; intro a ha hf; clear ha
          refine wpList_cut 4 (fun a w => Fr 263 a [(3, optr v5 0), (4, (GL.cut vx0_A 0 (((imin (x0_A.length : Int) (60 : Int))).toNat) 1)), (5, v35), (7, v37), (9, .int .i64 q18.1), (11, .int .i64 i11), (16, optr v75 0), (18, .int .i64 k18), (261, .bool (((((z156 || (q134.1 == q150.1)) || (decide (q134.1 < (0 : Int)))) || (decide (q18.1 ≤ q134.1))) || (decide (q150.1 < (0 : Int)))) || (decide (q18.1 ≤ q150.1))))] ∧ Hp S w0 w (Res.obj 34 v5 [.int .i64 c3c_0, .int .u32 c3c_1, .int .u32 c3c_2] :: Res.obj 46 v75 [.int .i64 q73.1.1, .int .i64 q73.1.2] :: Res.sl Ek.bool 4 v35 u5 :: Res.sl (Ek.int .i64) 3 v37 w7 :: ow)) ?_ ?_
          · rcases Bool.eq_false_or_eq_true ((((z156 || (q134.1 == q150.1)) || (decide (q134.1 < (0 : Int)))) || (decide (q18.1 ≤ q134.1))) || (decide (q150.1 < (0 : Int)))) with hb171 | hb171
            · skip
              refine st_skip hf (wantN hf rfl rfl hb171) rfl (by decide) ?_ rfl
              clear hf; intro a hf
              refine st_skip hf (wantN hf rfl rfl hb171) rfl (by decide) ?_ rfl
              clear hf; intro a hf
              refine st_skip hf (wantN hf rfl rfl hb171) rfl (by decide) ?_ rfl
              clear hf; intro a hf
              refine st_pick (v := .bool true) hf rfl rfl (fun hb' => ?_) (fun hb' => ?_) (by decide) ?_
              · rfl
              · exact absurd (hb171.symm.trans hb') (by decide)
              clear hf; intro a ha hf; clear ha
              refine st_nil hf (th_n ?_)
              exact ⟨hf.sub ⟨rfl, rfl, rfl, rfl, rfl, rfl, rfl, rfl, (by rw [hb171]; rfl), trivial⟩, hp⟩
            refine st_move hf (wantY hf rfl rfl hb171) rfl (by decide) ?_
            clear hf; intro a ha hf; clear ha
            refine st_move hf (wantY hf rfl rfl hb171) rfl (by decide) ?_
            clear hf; intro a ha hf; clear ha
            refine st_igeq hf (by decide) (wantY hf rfl rfl hb171) rfl rfl ?_
            clear hf; intro a ha hf; clear ha
            refine st_pick (v := .bool (decide (q18.1 ≤ q150.1))) hf rfl rfl (fun hb' => ?_) (fun hb' => ?_) (by decide) ?_
            · exact absurd (hb171.symm.trans hb') (by decide)
            · rfl
            clear hf; intro a ha hf; clear ha
            refine st_nil hf (th_n ?_)
            exact ⟨hf.sub ⟨rfl, rfl, rfl, rfl, rfl, rfl, rfl, rfl, (by rw [hb171]; rfl), trivial⟩, hp⟩
          rintro a w ⟨hf, hp⟩
          refine st_nil hf ?_
          refine th_n ?_
          refine wp_if hf rfl (fun hb => ?_) (fun hb => ?_)
          · replace h := ifT h hb
            refine wp_seq ?_
            refine wp_reg ?_
            refine st_assign hf rfl rfl (by decide) ?_
            clear hf; intro a ha hf; clear ha
            refine st_nil hf ?_
            refine th_n ?_
            refine wp_ret ?_
            refine ib_r ?_
            refine th_r ?_
            obtain rfl := Option.some.inj h
            have hp : Hp _ _ _ (ow) := Hp.sel (pre := [Res.obj 34 v5 [.int .i64 c3c_0, .int .u32 c3c_1, .int .u32 c3c_2], Res.obj 46 v75 [.int .i64 q73.1.1, .int .i64 q73.1.2], Res.sl Ek.bool 4 v35 u5, Res.sl (Ek.int .i64) 3 v37 w7]) (tail := ow) (rs' := []) hp [] (by decide) (by simp) rfl
            exact rnd_r (by simp) ⟨rfl, ⟨hf.sub ⟨rfl, trivial⟩, hp⟩⟩
          replace h := ifF h hb
          refine wp_skip ?_
          refine ib_n ?_
          refine th_n ?_
          refine wp_reg ?_
          refine st_move hf rfl rfl (by decide) ?_
          clear hf; intro a ha hf; clear ha
          refine st_iadd hf (by decide) rfl rfl rfl ?_
          clear hf; intro a ha hf; clear ha
          refine st_assign hf rfl rfl (by decide) ?_
          clear hf; intro a ha hf; clear ha
          refine st_nil hf ?_
          obtain rfl := Option.some.inj h
          have hp : Hp _ _ _ (Res.obj 34 v5 [.int .i64 c3c_0, .int .u32 c3c_1, .int .u32 c3c_2] :: Res.sl Ek.bool 4 v35 u5 :: Res.sl (Ek.int .i64) 3 v37 w7 :: Res.obj 46 v75 [.int .i64 q73.1.1, .int .i64 q73.1.2] :: ow) := Hp.sel (pre := [Res.obj 34 v5 [.int .i64 c3c_0, .int .u32 c3c_1, .int .u32 c3c_2], Res.obj 46 v75 [.int .i64 q73.1.1, .int .i64 q73.1.2], Res.sl Ek.bool 4 v35 u5, Res.sl (Ek.int .i64) 3 v37 w7]) (tail := ow) (rs' := [Res.obj 34 v5 [.int .i64 c3c_0, .int .u32 c3c_1, .int .u32 c3c_2], Res.sl Ek.bool 4 v35 u5, Res.sl (Ek.int .i64) 3 v37 w7, Res.obj 46 v75 [.int .i64 q73.1.1, .int .i64 q73.1.2]]) hp [0, 2, 3, 1] (by decide) (by simp) rfl
          exact rnd_l ⟨hf.sub ⟨rfl, rfl, rfl, rfl, rfl, rfl, rfl, rfl, trivial⟩, hp⟩
        replace h := ifF h hb
        refine wp_exit ?_
        refine th_e ?_
        obtain rfl := Option.some.inj h
        have hp : Hp _ _ _ (Res.obj 34 v5 [.int .i64 c3c_0, .int .u32 c3c_1, .int .u32 c3c_2] :: Res.sl Ek.bool 4 v35 u5 :: Res.sl (Ek.int .i64) 3 v37 w7 :: ow) := Hp.sel (pre := [Res.obj 34 v5 [.int .i64 c3c_0, .int .u32 c3c_1, .int .u32 c3c_2], Res.sl Ek.bool 4 v35 u5, Res.sl (Ek.int .i64) 3 v37 w7, Res.obj 46 v75 [.int .i64 q73.1.1, .int .i64 q73.1.2]]) (tail := ow) (rs' := [Res.obj 34 v5 [.int .i64 c3c_0, .int .u32 c3c_1, .int .u32 c3c_2], Res.sl Ek.bool 4 v35 u5, Res.sl (Ek.int .i64) 3 v37 w7]) hp [0, 1, 2] (by decide) (by simp) rfl
        exact rnd_r (by simp) ⟨rfl, hf.sub ⟨rfl, rfl, rfl, rfl, rfl, rfl, trivial⟩, hp⟩
      clear hl hf hp
      intro e a w hne hO
      rcases q172 with q173 | q174
      · replace h := smL h
        obtain ⟨rfl, hf, hp⟩ := hO
        refine ib_same ?_
        refine ib_n ?_
        refine th_n ?_
        refine wp_reg ?_
        refine st_move hf rfl rfl (by decide) ?_
        clear hf; intro a ha hf; clear ha
        refine st_iadd hf (by decide) rfl rfl rfl ?_
        clear hf; intro a ha hf; clear ha
        refine st_assign hf rfl rfl (by decide) ?_
        clear hf; intro a ha hf; clear ha
        refine st_nil hf ?_
        obtain rfl := Option.some.inj h
        exact rnd_l ⟨_, _, hf.sub ⟨rfl, rfl, rfl, rfl, rfl, rfl, trivial⟩, hp⟩
      replace h := smR h
      obtain ⟨rfl, hf, hp⟩ := hO
      refine ib_r ?_
      refine ib_r ?_
      refine th_r ?_
      obtain rfl := Option.some.inj h
      exact rnd_r (by simp) ⟨rfl, ⟨hf.sub ⟨rfl, trivial⟩, hp⟩⟩
    replace h := ifF h hb
    refine wp_exit ?_
    refine th_e ?_
    obtain rfl := Option.some.inj h
    have hp : Hp _ _ _ (ow) := Hp.sel (pre := [Res.obj 34 v5 [.int .i64 c3c_0, .int .u32 c3c_1, .int .u32 c3c_2], Res.sl Ek.bool 4 v35 u5, Res.sl (Ek.int .i64) 3 v37 w7]) (tail := ow) (rs' := []) hp [] (by decide) (by simp) rfl
    exact rnd_r (by simp) ⟨rfl, hf.sub trivial, hp⟩
  clear hl hf hp
  intro e a w hne hO
  rcases q175 with q176 | q177
  · replace h := smL h
    obtain ⟨rfl, hf, hp⟩ := hO
    refine ib_same ?_
    refine th_n ?_
    refine wp_seq ?_
    refine wp_reg ?_
    obtain ⟨q178, hcall179, h⟩ := bnd h
    refine st_call hf (by decide) Try.func11 rfl rfl rfl rfl rfl (f_foghornlaw21_awake_c hp  hcall179) ?_
    rintro _ w ⟨rfl, hp0⟩
    clear hp; have hp := hp0; clear hp0
    replace hp : Hp _ _ _ (ow) := hp
    refine ⟨_, rfl, ?_⟩
    clear hf; intro a hf
    refine st_assign hf rfl rfl (by decide) ?_
    clear hf; intro a ha hf; clear ha
    refine st_nil hf ?_
    refine th_n ?_
    refine wp_ret ?_
    obtain rfl := Option.some.inj h
    exact ⟨rfl, ⟨hf.sub ⟨rfl, trivial⟩, hp⟩⟩
  replace h := smR h
  obtain ⟨rfl, hf, hp⟩ := hO
  refine ib_r ?_
  refine th_r ?_
  obtain rfl := Option.some.inj h
  exact ⟨rfl, ⟨hf.sub ⟨rfl, trivial⟩, hp⟩⟩

end Go.Proofs.Ytilodendgbjelaa
