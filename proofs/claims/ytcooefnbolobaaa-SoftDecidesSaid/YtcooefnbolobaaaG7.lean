/- The functions foghorn foghornlaw23.SoftDecides: what each answers, as a plain function, and that its call answers it; printed by gen.py. -/
import Derived.Test.YtcooefnbolobaaaProg
import Derived.Test.YtcooefnbolobaaaGlUd
import Derived.KernelRfl
import Derived.Test.YtcooefnbolobaaaG7p3
set_option linter.unusedVariables false
set_option linter.unusedSimpArgs false
set_option maxRecDepth 100000
set_option maxHeartbeats 4000000
namespace Go.Proofs.Ytcooefnbolobaaa
open GL
noncomputable def f_foghornlaw23_SoftDecides.s2c (q94 : ((List Fl) × Int)) (q116 : ((List Fl) × Int)) (ux23 : (List Fl)) (k27 : Int) : Option (((List Fl) × Int) ⊕ ((List Fl) ⊕ Bool)) := (if (decide (k27 < (q94.1.length : Int))) = true then (if 0 ≤ k27 ∧ k27 < (ux23.length : Int) then (if 0 ≤ k27 ∧ k27 < (q94.1.length : Int) then (if (fne (gt ux23 k27) (gt q94.1 k27)) = true then (some (Sum.inr (Sum.inr false))) else (if 0 ≤ k27 ∧ k27 < (ux23.length : Int) then (if 0 ≤ k27 ∧ k27 < (q116.1.length : Int) then (if 0 ≤ k27 ∧ k27 < (q94.1.length : Int) then (if (fne (gt q116.1 k27) (gt q94.1 k27)) = true then (some (Sum.inr (Sum.inr false))) else (some (Sum.inl ((ux23.set (k27).toNat (Fl.bits 4632937379169042432)), (IntKind.i64.wrap (k27 + (1 : Int))))))) else none) else none) else none)) else none) else none) else (some (Sum.inr (Sum.inl ux23))))
noncomputable def f_foghornlaw23_SoftDecides.s2 (q94 : ((List Fl) × Int)) (q116 : ((List Fl) × Int)) (s : ((List Fl) × Int)) : Option (((List Fl) × Int) ⊕ ((List Fl) ⊕ Bool)) := f_foghornlaw23_SoftDecides.s2c q94 q116 s.1 s.2
noncomputable def f_foghornlaw23_SoftDecides.s3c (ax13 : (List Bool)) (k28 : Int) : Option (((List Bool) × Int) ⊕ (List Bool)) := (if (decide (k28 < (ax13.length : Int))) = true then (if 0 ≤ k28 ∧ k28 < (ax13.length : Int) then (if 0 ≤ k28 ∧ k28 < (ax13.length : Int) then (some (Sum.inl ((ax13.set (k28).toNat (!(gt ax13 k28))), (IntKind.i64.wrap (k28 + (1 : Int)))))) else none) else none) else (some (Sum.inr ax13)))
noncomputable def f_foghornlaw23_SoftDecides.s3  (s : ((List Bool) × Int)) : Option (((List Bool) × Int) ⊕ (List Bool)) := f_foghornlaw23_SoftDecides.s3c s.1 s.2
noncomputable def f_foghornlaw23_SoftDecides.s4c (ax13 : (List Bool)) (ux23 : (List Fl)) (k29 : Int) : Option (((List Bool) × (List Fl) × Int) ⊕ Unit) := (if (decide (k29 < (20 : Int))) = true then (if (ax13.length + ([true]).length) * 1 ≤ 140737488355328 then (if (ux23.length + ([(Fl.bits 4634344754052595712)]).length) * 8 ≤ 140737488355328 then (some (Sum.inl ((ax13 ++ [true]), (ux23 ++ [(Fl.bits 4634344754052595712)]), (IntKind.i64.wrap (k29 + (1 : Int)))))) else none) else none) else (some (Sum.inr ())))
noncomputable def f_foghornlaw23_SoftDecides.s4  (s : ((List Bool) × (List Fl) × Int)) : Option (((List Bool) × (List Fl) × Int) ⊕ Unit) := f_foghornlaw23_SoftDecides.s4c s.1 s.2.1 s.2.2
noncomputable def f_foghornlaw23_SoftDecides.s5c (l1 : (List (Int × Int × Bool))) (xx5 : (List ((Fl × Fl) × Bool))) (k30 : Int) : Option (((List ((Fl × Fl) × Bool)) × Int) ⊕ (List ((Fl × Fl) × Bool))) := (if (decide (k30 < (l1.length : Int))) = true then (if 0 ≤ k30 ∧ k30 < (xx5.length : Int) then (if 0 ≤ k30 ∧ k30 < (xx5.length : Int) then (if 0 ≤ k30 ∧ k30 < (xx5.length : Int) then (some (Sum.inl ((xx5.set (k30).toNat (((gt xx5 k30).1.2, (fsub (Fl.bits 0) ((gt xx5 k30).1.1))), (gt xx5 k30).2)), (IntKind.i64.wrap (k30 + (1 : Int)))))) else none) else none) else none) else (some (Sum.inr xx5)))
noncomputable def f_foghornlaw23_SoftDecides.s5 (l1 : (List (Int × Int × Bool))) (s : ((List ((Fl × Fl) × Bool)) × Int)) : Option (((List ((Fl × Fl) × Bool)) × Int) ⊕ (List ((Fl × Fl) × Bool))) := f_foghornlaw23_SoftDecides.s5c l1 s.1 s.2
noncomputable def f_foghornlaw23_SoftDecides.j2 (l1 : (List (Int × Int × Bool))) (q5 : ((List ((Fl × Fl) × Bool)) × (List ((Fl × Fl) × Bool)))) (cx2c_0 : Int) (cx2c_1 : Int) (cx2c_2 : Int) (xx5 : (List ((Fl × Fl) × Bool))) (round7 : Int) (q12 : ((List Bool) × Fl × Fl × Bool × Int)) (q27 : ((List Bool) × Fl × Int)) (q40 : ((List Bool) × Fl × Int)) : Option ((Int × Int × Int × (List ((Fl × Fl) × Bool)) × Int) ⊕ (Unit ⊕ Bool)) := ((f_foghornref23_Ends cx2c_0 cx2c_1 cx2c_2 xx5).bind fun q94 => ((f_foghornlaw23_code cx2c_0 cx2c_1 cx2c_2).bind fun q103 => ((f_soft_Ends q103.1 q103.2.1 q103.2.2 xx5).bind fun q105 => ((f_foghornlaw23_code cx2c_0 cx2c_1 cx2c_2).bind fun q114 => ((f_soft_Ends q114.1 q114.2.1 q114.2.2 xx5).bind fun q116 => (if (((q105.2 != q94.2) || ((q105.1.length : Int) != (q94.1.length : Int))) || ((q116.1.length : Int) != (q94.1.length : Int))) = true then (some (Sum.inr (Sum.inr false))) else ((loop (f_foghornlaw23_SoftDecides.s2 q94 q116) (q105.1, (0 : Int))).bind (fun q176 => sm q176 (fun q177 => ((loop f_foghornlaw23_SoftDecides.s3 (q27.1, (0 : Int))).bind (fun q185 => ((loop f_foghornlaw23_SoftDecides.s4 (q185, q177, (0 : Int))).bind (fun q198 => ((f_foghornref21_Same q40.1 q12.1).bind fun q199 => ((if (!q199) = true then (some true) else (if 0 ≤ (IntKind.i64.wrap ((l1.length : Int) + (1 : Int))) ∧ (IntKind.i64.wrap ((l1.length : Int) + (1 : Int))) ≤ ((xx5 ++ q5.2).length : Int) then (if 0 ≤ (l1.length : Int) ∧ (l1.length : Int) < (((xx5 ++ q5.2).take (((IntKind.i64.wrap ((l1.length : Int) + (1 : Int)))).toNat)).length : Int) then (some (!ceq ((gt ((xx5 ++ q5.2).take (((IntKind.i64.wrap ((l1.length : Int) + (1 : Int)))).toNat)) (l1.length : Int)).1) (Fl.bits 4651892959631900672, Fl.bits 0))) else none) else none)).bind fun z213 => ((if z213 = true then (some true) else ((if (round7 == (0 : Int)) = true then ((f_foghornlaw23_samples l1).bind fun q228 => ((f_foghornref02_Same xx5 q228.1).bind fun q232 => (some (!q232)))) else (some false)).bind fun z227 => (some z227))).bind fun z224 => (if z224 = true then (some (Sum.inr (Sum.inr false))) else ((loop (f_foghornlaw23_SoftDecides.s5 l1) (xx5, (0 : Int))).bind (fun q270 => (some (Sum.inl (cx2c_0, cx2c_1, cx2c_2, q270, (IntKind.i64.wrap (round7 + (1 : Int))))))))))))))))) (fun q178 => (some (Sum.inr (Sum.inr q178))))))))))))
noncomputable def f_foghornlaw23_SoftDecides.s1c (l1 : (List (Int × Int × Bool))) (q5 : ((List ((Fl × Fl) × Bool)) × (List ((Fl × Fl) × Bool)))) (cx2c_0 : Int) (cx2c_1 : Int) (cx2c_2 : Int) (xx5 : (List ((Fl × Fl) × Bool))) (round7 : Int) : Option ((Int × Int × Int × (List ((Fl × Fl) × Bool)) × Int) ⊕ (Unit ⊕ Bool)) := (if (decide (round7 < (2 : Int))) = true then ((f_foghornref23_Decode cx2c_0 cx2c_1 cx2c_2 xx5).bind fun q12 => ((f_foghornlaw23_code cx2c_0 cx2c_1 cx2c_2).bind fun q25 => ((f_soft_Decode q25.1 q25.2.1 q25.2.2 xx5).bind fun q27 => ((f_foghornlaw23_code cx2c_0 cx2c_1 cx2c_2).bind fun q38 => ((f_soft_Decode q38.1 q38.2.1 q38.2.2 xx5).bind fun q40 => ((if ((q27.2.2 != q12.2.2.2.2) || (fne q27.2.1 q12.2.1)) = true then (some true) else ((f_foghornref21_Same q27.1 q12.1).bind fun q56 => (some (!q56)))).bind fun z55 => ((if z55 = true then (some true) else ((f_foghornref21_Same q40.1 q12.1).bind fun q71 => (some (!q71)))).bind fun z70 => (if z70 = true then (some (Sum.inr (Sum.inr false))) else ((f_foghornlaw23_code cx2c_0 cx2c_1 cx2c_2).bind fun q83 => ((f_soft_Margin q83.1 q83.2.1 q83.2.2 xx5).bind fun q85 => (if (q12.2.2.2.2 != (0 : Int)) = true then (if ((q85.2 != q12.2.2.2.2) || (fne q85.1 (Fl.bits 0))) = true then (some (Sum.inr (Sum.inr false))) else (f_foghornlaw23_SoftDecides.j2 l1 q5 cx2c_0 cx2c_1 cx2c_2 xx5 round7 q12 q27 q40)) else (if (!q12.2.2.2.1) = true then (if ((q85.2 != (6 : Int)) || (fne q85.1 (Fl.bits 0))) = true then (some (Sum.inr (Sum.inr false))) else (f_foghornlaw23_SoftDecides.j2 l1 q5 cx2c_0 cx2c_1 cx2c_2 xx5 round7 q12 q27 q40)) else (if ((q85.2 != (0 : Int)) || (fne q85.1 q12.2.2.1)) = true then (some (Sum.inr (Sum.inr false))) else (f_foghornlaw23_SoftDecides.j2 l1 q5 cx2c_0 cx2c_1 cx2c_2 xx5 round7 q12 q27 q40)))))))))))))) else (some (Sum.inr (Sum.inl ()))))
noncomputable def f_foghornlaw23_SoftDecides.s1 (l1 : (List (Int × Int × Bool))) (q5 : ((List ((Fl × Fl) × Bool)) × (List ((Fl × Fl) × Bool)))) (s : (Int × Int × Int × (List ((Fl × Fl) × Bool)) × Int)) : Option ((Int × Int × Int × (List ((Fl × Fl) × Bool)) × Int) ⊕ (Unit ⊕ Bool)) := f_foghornlaw23_SoftDecides.s1c l1 q5 s.1 s.2.1 s.2.2.1 s.2.2.2.1 s.2.2.2.2
noncomputable def f_foghornlaw23_SoftDecides.j1 (cx0_Length : Int) (cx0_One : Int) (cx0_Two : Int) (l1 : (List (Int × Int × Bool))) : Option Bool := ((f_foghornlaw23_samples l1).bind fun q5 => ((loop (f_foghornlaw23_SoftDecides.s1 l1 q5) (cx0_Length, cx0_One, cx0_Two, q5.1, (0 : Int))).bind (fun q277 => sm q277 (fun q278 => (some true)) (fun q279 => (some q279)))))
noncomputable def f_foghornlaw23_SoftDecides (cx0_Length : Int) (cx0_One : Int) (cx0_Two : Int) (l1 : (List (Int × Int × Bool))) : Option Bool := (if (decide ((60 : Int) < (l1.length : Int))) = true then (if 0 ≤ (60 : Int) ∧ (60 : Int) ≤ (l1.length : Int) then (f_foghornlaw23_SoftDecides.j1 cx0_Length cx0_One cx0_Two ((l1.drop 0).take (((60 : Int)).toNat - 0))) else none) else (f_foghornlaw23_SoftDecides.j1 cx0_Length cx0_One cx0_Two l1))
theorem f_foghornlaw23_SoftDecides_c {S : Nat → Prop} {w0 w : World} {ow : List Res} (hp : Hp S w0 w ow) (cx0_Length : Int) (cx0_One : Int) (cx0_Two : Int) (vl1 : Value) (l1 : (List (Int × Int × Bool))) (hl1 : RdS (Ek.pair (Ek.int .i32) (Ek.pair (Ek.int .i32) Ek.bool)) S w0 vl1 l1) {r : Bool} (h : f_foghornlaw23_SoftDecides cx0_Length cx0_One cx0_Two l1 = some r) :
   Calls Try.prog 5 #[.agg #[.int .i64 cx0_Length, .int .u32 cx0_One, .int .u32 cx0_Two], vl1] w (fun e w' => e = .returned (.bool r) ∧ Hp S w0 w' (ow)) := by
  unfold f_foghornlaw23_SoftDecides at h
  refine enter (n := 259) (args := [.agg #[.int .i64 cx0_Length, .int .u32 cx0_One, .int .u32 cx0_Two], vl1]) Try.func5 rfl rfl (Nat.le_of_ble_eq_true rfl) fun a hf => ?_
  replace hf : Fr 259 a [(0, .agg #[.int .i64 cx0_Length, .int .u32 cx0_One, .int .u32 cx0_Two]), (1, vl1)] := hf
  refine wp_mono (Q := fun e a w => e = .ret ∧ Fr 259 a [(4, .bool r)] ∧ Hp S w0 w (ow)) ?_ ?_
  rotate_left
  ·
   rintro e a w ⟨rfl, hf, hp⟩
   exact ret1 hf rfl rfl ⟨rfl, hp⟩
  refine wp_seq ?_
  refine wp_reg ?_
  refine st_boxO (cs := [.int .i64 cx0_Length, .int .u32 cx0_One, .int .u32 cx0_Two]) hf (by decide) hp rfl rfl rfl ?_
  clear hf; intro a w v1 hf hp0; clear hp; have hp := hp0; clear hp0
  replace hp : Hp _ _ _ (Res.obj 24 v1 [.int .i64 cx0_Length, .int .u32 cx0_One, .int .u32 cx0_Two] :: ow) := hp
  refine st_assign hf rfl rfl (by decide) ?_
  clear hf; intro a ha hf; clear ha
  refine st_nil hf ?_
  refine th_n ?_
  refine wp_seq_cut (fun a w => ∃ (l1 : (List (Int × Int × Bool))) (v3 : Value), f_foghornlaw23_SoftDecides.j1 cx0_Length cx0_One cx0_Two l1 = some r ∧ Fr 259 a [(1, v3), (2, optr v1 0)] ∧ RdS (Ek.pair (Ek.int .i32) (Ek.pair (Ek.int .i32) Ek.bool)) S w0 v3 l1 ∧ Hp S w0 w (Res.obj 24 v1 [.int .i64 cx0_Length, .int .u32 cx0_One, .int .u32 cx0_Two] :: ow)) ?_ ?_
  ·
   refine wp_seq ?_
   refine wp_reg ?_
   refine st_move hf rfl rfl (by decide) ?_
   clear hf; intro a ha hf; clear ha
   refine st_len (E := (Ek.pair (Ek.int .i32) (Ek.pair (Ek.int .i32) Ek.bool))) hf (by decide) Try.underlying26 rfl rfl (hl1.sl hp) ?_
   clear hf; intro a ha hf; clear ha
   refine st_igtr hf (by decide) rfl rfl rfl ?_
   clear hf; intro a ha hf; clear ha
   refine st_nil hf ?_
   refine th_n ?_
   refine wp_if hf rfl (fun hb => ?_) (fun hb => ?_)
   ·
    replace h := ifT h hb
    refine wp_reg ?_
    refine st_move hf rfl rfl (by decide) ?_
    clear hf; intro a ha hf; clear ha
    obtain ⟨hc280, h⟩ := chk h
    have hc281 : 0 ≤ ((60 : Int)).toNat := by omega
    have hc282 : ((60 : Int)).toNat ≤ l1.length := by omega
    refine st_cutS (E := (Ek.pair (Ek.int .i32) (Ek.pair (Ek.int .i32) Ek.bool))) hf (by decide) Try.underlying26 elt62 rfl rfl (hl1.sl hp) (.inl ⟨rfl, rfl⟩) (.inr ⟨_, _, rfl, evI rfl (by omega)⟩) hc281 hc282 ?_
    clear hf; intro a ha hf; clear ha
    refine st_assign hf rfl rfl (by decide) ?_
    clear hf; intro a ha hf; clear ha
    refine st_nil hf ?_
    refine th_n ?_
    exact ⟨_, _, h, hf.sub ⟨rfl, rfl, trivial⟩, (RdS.cut hl1 hc281 hc282), hp⟩
   replace h := ifF h hb
   refine wp_skip ?_
   refine th_n ?_
   exact ⟨_, _, h, hf.sub ⟨rfl, rfl, trivial⟩, hl1, hp⟩
  rintro a w ⟨l1, v3, h, hf, y4, hp⟩
  unfold f_foghornlaw23_SoftDecides.j1 at h
  refine wp_seq ?_
  refine wp_reg ?_
  refine st_move hf rfl rfl (by decide) ?_
  clear hf; intro a ha hf; clear ha
  obtain ⟨q5, hcall6, h⟩ := bnd h
  refine st_call hf (by decide) Try.func9 rfl rfl rfl rfl rfl (f_foghornlaw23_samples_c hp _ _ y4 hcall6) ?_
  rintro _ w ⟨v7, rfl, hp0⟩
  clear hp; have hp := hp0; clear hp0
  replace hp : Hp _ _ _ (Res.slx (Ek.pair Ek.c128 Ek.bool) 35 v7 q5.1 q5.2 :: _ :: ow) := hp
  refine ⟨_, rfl, ?_⟩
  clear hf; intro a hf
  refine st_assign hf rfl rfl (by decide) ?_
  clear hf; intro a ha hf; clear ha
  refine st_nil hf ?_
  refine th_n ?_
  refine wp_seq ?_
  refine wp_reg ?_
  refine st_move hf rfl rfl (by decide) ?_
  clear hf; intro a ha hf; clear ha
  refine st_len (E := (Ek.pair (Ek.int .i32) (Ek.pair (Ek.int .i32) Ek.bool))) hf (by decide) Try.underlying26 rfl rfl (y4.sl hp) ?_
  clear hf; intro a ha hf; clear ha
  refine st_assign hf rfl rfl (by decide) ?_
  clear hf; intro a ha hf; clear ha
  refine st_nil hf ?_
  refine th_n ?_
  refine wp_seq ?_
  refine wp_seq ?_
  refine wp_reg ?_
  refine st_assign hf rfl rfl (by decide) ?_
  clear hf; intro a ha hf; clear ha
  refine st_nil hf ?_
  refine th_n ?_
  refine wp_block ?_
  obtain ⟨q277, hl, h⟩ := bnd h
  have hp : Hp _ _ _ (_ :: _ :: ow) := Hp.sel (pre := [Res.slx (Ek.pair Ek.c128 Ek.bool) 35 v7 q5.1 q5.2, Res.obj 24 v1 [.int .i64 cx0_Length, .int .u32 cx0_One, .int .u32 cx0_Two]]) (tail := ow) (rs' := [Res.obj 24 v1 [.int .i64 cx0_Length, .int .u32 cx0_One, .int .u32 cx0_Two], Res.slx (Ek.pair Ek.c128 Ek.bool) 35 v7 q5.1 q5.2]) hp [1, 0] (by decide) (by simp) rfl
  refine wp_loop_pure (f := (f_foghornlaw23_SoftDecides.s1 l1 q5)) (s := (cx0_Length, cx0_One, cx0_Two, q5.1, (0 : Int))) (fun s a w => ∃ (v10 : Value), Fr 259 a [(1, v3), (2, optr v1 0), (5, v10), (6, .int .i64 (l1.length : Int)), (7, .int .i64 s.2.2.2.2)] ∧ Hp S w0 w (Res.obj 24 v1 [.int .i64 s.1, .int .u32 s.2.1, .int .u32 s.2.2.1] :: Res.slx (Ek.pair Ek.c128 Ek.bool) 35 v10 s.2.2.2.1 q5.2 :: ow)) (fun q e a w => match q with | (Sum.inl q) => e = .exit 0 ∧ Fr 259 a [] ∧ Hp S w0 w (ow) | (Sum.inr q) => e = .ret ∧ Fr 259 a [(4, .bool q)] ∧ Hp S w0 w (ow)) ?_ hl ⟨_, hf.sub ⟨rfl, rfl, rfl, rfl, rfl, trivial⟩, hp⟩ ?_
  ·
   clear hl hf hp
   intro s x a w h hI
   obtain ⟨cx2c_0, cx2c_1, cx2c_2, xx5, round7⟩ := s
   obtain ⟨v10, hf, hp⟩ : ∃ (v10 : Value), Fr 259 a [(1, v3), (2, optr v1 0), (5, v10), (6, .int .i64 (l1.length : Int)), (7, .int .i64 round7)] ∧ Hp S w0 w (Res.obj 24 v1 [.int .i64 cx2c_0, .int .u32 cx2c_1, .int .u32 cx2c_2] :: Res.slx (Ek.pair Ek.c128 Ek.bool) 35 v10 xx5 q5.2 :: ow) := hI
   replace h : f_foghornlaw23_SoftDecides.s1c l1 q5 cx2c_0 cx2c_1 cx2c_2 xx5 round7 = some x := h
   unfold f_foghornlaw23_SoftDecides.s1c at h
   refine wp_seq ?_
   refine wp_seq ?_
   refine wp_reg ?_
   refine st_move hf rfl rfl (by decide) ?_
   clear hf; intro a ha hf; clear ha
   refine st_ilss hf (by decide) rfl rfl rfl ?_
   clear hf; intro a ha hf; clear ha
   refine st_nil hf ?_
   refine th_n ?_
   refine wp_if hf rfl (fun hb => ?_) (fun hb => ?_)
   ·
    replace h := ifT h hb
    refine wp_skip ?_
    refine th_n ?_
    refine wp_seq ?_
    refine wp_block ?_
    refine wp_seq ?_
    refine wp_reg ?_
    refine st_ldOA (m := 3) (us := [.int .i64 cx2c_0, .int .u32 cx2c_1, .int .u32 cx2c_2]) hf (by decide) (by kernel_rfl) rfl rfl (hp.ob (i := 0) rfl) rfl rfl ?_
    clear hf; intro a ha hf; clear ha
    refine st_move hf rfl rfl (by decide) ?_
    clear hf; intro a ha hf; clear ha
    obtain ⟨q12, hcall13, h⟩ := bnd h
    obtain ⟨S14, hp15, rd16, up17, bk18⟩ := Hp.lendS hp (i := 1) rfl
    refine st_call hf (by decide) Try.func23 rfl rfl rfl rfl rfl (f_foghornref23_Decode_c hp15 _ _ _ _ _ rd16 hcall13) ?_
    rintro _ w ⟨v19, v20, v21, rfl, y22, y23, hp0⟩
    have hp0 := bk18 _ _ hp0
    clear hp; have hp := hp0; clear hp0
    replace hp : Hp _ _ _ (Res.slx (Ek.pair Ek.c128 Ek.bool) 35 v10 xx5 q5.2 :: Res.sl Ek.bool 4 v19 q12.1 :: Res.obj 24 v1 [.int .i64 cx2c_0, .int .u32 cx2c_1, .int .u32 cx2c_2] :: ow) := hp
    refine ⟨_, rfl, ?_⟩
    clear hf; intro a hf
    refine st_move hf rfl rfl (by decide) ?_
    clear hf; intro a ha hf; clear ha
    refine st_extract hf (by decide) rfl rfl rfl ?_
    clear hf; intro a ha hf; clear ha
    refine st_extract hf (by decide) rfl rfl rfl ?_
    clear hf; intro a ha hf; clear ha
    refine st_extract hf (by decide) rfl rfl rfl ?_
    clear hf; intro a ha hf; clear ha
    refine st_extract hf (by decide) rfl rfl rfl ?_
    clear hf; intro a ha hf; clear ha
    refine st_extract hf (by decide) rfl rfl rfl ?_
    clear hf; intro a ha hf; clear ha
    refine st_assign hf rfl rfl (by decide) ?_
    clear hf; intro a ha hf; clear ha
    refine st_assign hf rfl rfl (by decide) ?_
    clear hf; intro a ha hf; clear ha
    refine st_assign hf rfl rfl (by decide) ?_
    clear hf; intro a ha hf; clear ha
    refine st_assign hf rfl rfl (by decide) ?_
    clear hf; intro a ha hf; clear ha
    refine st_assign hf rfl rfl (by decide) ?_
    clear hf; intro a ha hf; clear ha
    refine st_nil hf ?_
    refine th_n ?_
    refine wp_seq ?_
    refine wp_reg ?_
    refine st_ldOA (m := 3) (us := [.int .i64 cx2c_0, .int .u32 cx2c_1, .int .u32 cx2c_2]) hf (by decide) (by kernel_rfl) rfl rfl (hp.ob (i := 2) rfl) rfl rfl ?_
    clear hf; intro a ha hf; clear ha
    obtain ⟨q25, hcall26, h⟩ := bnd h
    refine st_call hf (by decide) Try.func14 rfl rfl rfl rfl rfl (f_foghornlaw23_code_c hp _ _ _ hcall26) ?_
    rintro _ w ⟨rfl, hp0⟩
    clear hp; have hp := hp0; clear hp0
    replace hp : Hp _ _ _ (_ :: _ :: _ :: ow) := hp
    refine ⟨_, rfl, ?_⟩
    clear hf; intro a hf
    refine st_move hf rfl rfl (by decide) ?_
    clear hf; intro a ha hf; clear ha
    obtain ⟨q27, hcall28, h⟩ := bnd h
    obtain ⟨S29, hp30, rd31, up32, bk33⟩ := Hp.lendS hp (i := 0) rfl
    refine st_call hf (by decide) Try.func21 rfl rfl rfl rfl rfl (f_soft_Decode_c hp30 _ _ _ _ _ rd31 hcall28) ?_
    rintro _ w ⟨v34, v35, rfl, y36, hp0⟩
    have hp0 := bk33 _ _ hp0
    clear hp; have hp := hp0; clear hp0
    replace hp : Hp _ _ _ (_ :: Res.sl Ek.bool 4 v34 q27.1 :: _ :: _ :: ow) := hp
    refine ⟨_, rfl, ?_⟩
    clear hf; intro a hf
    refine st_move hf rfl rfl (by decide) ?_
    clear hf; intro a ha hf; clear ha
    refine st_extract hf (by decide) rfl rfl rfl ?_
    clear hf; intro a ha hf; clear ha
    refine st_extract hf (by decide) rfl rfl rfl ?_
    clear hf; intro a ha hf; clear ha
    refine st_extract hf (by decide) rfl rfl rfl ?_
    clear hf; intro a ha hf; clear ha
    refine st_assign hf rfl rfl (by decide) ?_
    clear hf; intro a ha hf; clear ha
    refine st_assign hf rfl rfl (by decide) ?_
    clear hf; intro a ha hf; clear ha
    refine st_assign hf rfl rfl (by decide) ?_
    clear hf; intro a ha hf; clear ha
    refine st_nil hf ?_
    refine th_n ?_
    refine wp_seq ?_
    refine wp_reg ?_
    refine st_ldOA (m := 3) (us := [.int .i64 cx2c_0, .int .u32 cx2c_1, .int .u32 cx2c_2]) hf (by decide) (by kernel_rfl) rfl rfl (hp.ob (i := 3) rfl) rfl rfl ?_
    clear hf; intro a ha hf; clear ha
    obtain ⟨q38, hcall39, h⟩ := bnd h
    refine st_call hf (by decide) Try.func14 rfl rfl rfl rfl rfl (f_foghornlaw23_code_c hp _ _ _ hcall39) ?_
    rintro _ w ⟨rfl, hp0⟩
    clear hp; have hp := hp0; clear hp0
    replace hp : Hp _ _ _ (_ :: _ :: _ :: _ :: ow) := hp
    refine ⟨_, rfl, ?_⟩
    clear hf; intro a hf
    refine st_move hf rfl rfl (by decide) ?_
    clear hf; intro a ha hf; clear ha
    obtain ⟨q40, hcall41, h⟩ := bnd h
    obtain ⟨S42, hp43, rd44, up45, bk46⟩ := Hp.lendS hp (i := 0) rfl
    refine st_call hf (by decide) Try.func21 rfl rfl rfl rfl rfl (f_soft_Decode_c hp43 _ _ _ _ _ rd44 hcall41) ?_
    rintro _ w ⟨v47, v48, rfl, y49, hp0⟩
    have hp0 := bk46 _ _ hp0
    clear hp; have hp := hp0; clear hp0
    replace hp : Hp _ _ _ (_ :: Res.sl Ek.bool 4 v47 q40.1 :: _ :: _ :: _ :: ow) := hp
    refine ⟨_, rfl, ?_⟩
    clear hf; intro a hf
    refine st_move hf rfl rfl (by decide) ?_
    clear hf; intro a ha hf; clear ha
    refine st_extract hf (by decide) rfl rfl rfl ?_
    clear hf; intro a ha hf; clear ha
    refine st_extract hf (by decide) rfl rfl rfl ?_
    clear hf; intro a ha hf; clear ha
    refine st_extract hf (by decide) rfl rfl rfl ?_
    clear hf; intro a ha hf; clear ha
    refine st_assign hf rfl rfl (by decide) ?_
    clear hf; intro a ha hf; clear ha
    refine st_assign hf rfl rfl (by decide) ?_
    clear hf; intro a ha hf; clear ha
    refine st_assign hf rfl rfl (by decide) ?_
    clear hf; intro a ha hf; clear ha
    refine st_nil hf ?_
    refine th_n ?_
    refine wp_seq ?_
    refine wp_seq ?_
    refine wp_reg ?_
    refine st_move hf rfl rfl (by decide) ?_
    clear hf; intro a ha hf; clear ha
    refine st_move hf rfl rfl (by decide) ?_
    clear hf; intro a ha hf; clear ha
    refine st_ineq hf (by decide) rfl rfl rfl ?_
    clear hf; intro a ha hf; clear ha
    refine st_move hf rfl rfl (by decide) ?_
    clear hf; intro a ha hf; clear ha
    refine wpList_cut 4 (fun a w => Fr 259 a [(1, v3), (2, optr v1 0), (5, v10), (6, .int .i64 (l1.length : Int)), (7, .int .i64 round7), (8, v19), (10, .float .f64 v21), (11, .bool q12.2.2.2.1), (12, .int .i64 q12.2.2.2.2), (13, v34), (16, v47), (76, .bool ((q27.2.2 != q12.2.2.2.2) || (fne q27.2.1 q12.2.1)))] ∧ Hp S w0 w (Res.slx (Ek.pair Ek.c128 Ek.bool) 35 v10 xx5 q5.2 :: Res.sl Ek.bool 4 v47 q40.1 :: Res.sl Ek.bool 4 v34 q27.1 :: Res.sl Ek.bool 4 v19 q12.1 :: Res.obj 24 v1 [.int .i64 cx2c_0, .int .u32 cx2c_1, .int .u32 cx2c_2] :: ow)) ?_ ?_
    ·
     rcases Bool.eq_false_or_eq_true (q27.2.2 != q12.2.2.2.2) with hb52 | hb52
     ·
      refine st_skip hf (wantN hf rfl rfl hb52) rfl (by decide) ?_ rfl
      clear hf; intro a hf
      refine st_skip hf (wantN hf rfl rfl hb52) rfl (by decide) ?_ rfl
      clear hf; intro a hf
      refine st_skip hf (wantN hf rfl rfl hb52) rfl (by decide) ?_ rfl
      clear hf; intro a hf
      refine st_pick (v := .bool true) hf rfl rfl (fun hb' => ?_) (fun hb' => ?_) (by decide) ?_
      · rfl
      · exact absurd (hb52.symm.trans hb') (by decide)
      clear hf; intro a ha hf; clear ha
      refine st_nil hf (th_n ?_)
      exact ⟨hf.sub ⟨rfl, rfl, rfl, rfl, rfl, rfl, rfl, rfl, rfl, rfl, rfl, (by rw [hb52]; rfl), trivial⟩, hp⟩
     refine st_move hf (wantY hf rfl rfl hb52) rfl (by decide) ?_
     clear hf; intro a ha hf; clear ha
     refine st_move hf (wantY hf rfl rfl hb52) rfl (by decide) ?_
     clear hf; intro a ha hf; clear ha
     refine st_fcmp (r_fne (fx := q27.2.1) (fy := q12.2.1) y36 y22) hf (by decide) (wantY hf rfl rfl hb52) rfl rfl ?_
     clear hf; intro a ha hf; clear ha
     refine st_pick (v := .bool (fne q27.2.1 q12.2.1)) hf rfl rfl (fun hb' => ?_) (fun hb' => ?_) (by decide) ?_
     · exact absurd (hb52.symm.trans hb') (by decide)
     · rfl
     clear hf; intro a ha hf; clear ha
     refine st_nil hf (th_n ?_)
     exact ⟨hf.sub ⟨rfl, rfl, rfl, rfl, rfl, rfl, rfl, rfl, rfl, rfl, rfl, (by rw [hb52]; rfl), trivial⟩, hp⟩
    rintro a w ⟨hf, hp⟩
    refine st_move hf rfl rfl (by decide) ?_
    clear hf; intro a ha hf; clear ha
    obtain ⟨z55, hz53, h⟩ := bnd h
    refine wpList_cut 5 (fun a w => Fr 259 a [(1, v3), (2, optr v1 0), (5, v10), (6, .int .i64 (l1.length : Int)), (7, .int .i64 round7), (8, v19), (10, .float .f64 v21), (11, .bool q12.2.2.2.1), (12, .int .i64 q12.2.2.2.2), (13, v34), (16, v47), (82, .bool z55)] ∧ Hp S w0 w (Res.slx (Ek.pair Ek.c128 Ek.bool) 35 v10 xx5 q5.2 :: Res.sl Ek.bool 4 v47 q40.1 :: Res.sl Ek.bool 4 v34 q27.1 :: Res.sl Ek.bool 4 v19 q12.1 :: Res.obj 24 v1 [.int .i64 cx2c_0, .int .u32 cx2c_1, .int .u32 cx2c_2] :: ow)) ?_ ?_
    ·
     rcases Bool.eq_false_or_eq_true ((q27.2.2 != q12.2.2.2.2) || (fne q27.2.1 q12.2.1)) with hb54 | hb54
     ·
      replace hz53 := ifT hz53 hb54
      refine st_skip hf (wantN hf rfl rfl hb54) rfl (by decide) ?_ rfl
      clear hf; intro a hf
      refine st_skip hf (wantN hf rfl rfl hb54) rfl (by decide) ?_ rfl
      clear hf; intro a hf
      refine st_skip hf (wantN hf rfl rfl hb54) rfl (by decide) ?_ rfl
      clear hf; intro a hf
      refine st_skip hf (wantN hf rfl rfl hb54) rfl (by decide) ?_ rfl
      clear hf; intro a hf
      obtain rfl := Option.some.inj hz53
      refine st_pick (v := .bool true) hf rfl rfl (fun hb' => ?_) (fun hb' => ?_) (by decide) ?_
      · rfl
      · exact absurd (hb54.symm.trans hb') (by decide)
      clear hf; intro a ha hf; clear ha
      refine st_nil hf (th_n ?_)
      exact ⟨hf.sub ⟨rfl, rfl, rfl, rfl, rfl, rfl, rfl, rfl, rfl, rfl, rfl, rfl, trivial⟩, hp⟩
     replace hz53 := ifF hz53 hb54
     refine st_move hf (wantY hf rfl rfl hb54) rfl (by decide) ?_
     clear hf; intro a ha hf; clear ha
     refine st_move hf (wantY hf rfl rfl hb54) rfl (by decide) ?_
     clear hf; intro a ha hf; clear ha
     obtain ⟨q56, hcall57, hz53⟩ := bnd hz53
     obtain ⟨S58, hp59, rd60, up61, bk62⟩ := Hp.lendS hp (i := 2) rfl
     obtain ⟨S63, hp64, rd65, up66, bk67⟩ := Hp.lendS hp59 (i := 2) rfl
     refine st_call hf (by decide) Try.func19 rfl rfl (wantY hf rfl rfl hb54) rfl rfl (f_foghornref21_Same_c hp64 _ _ ((rd60.now hp59).mono up66) _ _ rd65 hcall57) ?_
     rintro _ w ⟨rfl, hp0⟩
     have hp0 := bk67 _ _ hp0
     have hp0 := bk62 _ _ hp0
     clear hp; have hp := hp0; clear hp0
     replace hp : Hp _ _ _ (_ :: _ :: _ :: _ :: _ :: ow) := hp
     refine ⟨_, rfl, ?_⟩
     clear hf; intro a hf
     refine st_not hf (by decide) (wantY hf rfl rfl hb54) rfl ?_
     clear hf; intro a ha hf; clear ha
     obtain rfl := Option.some.inj hz53
     refine st_pick (v := .bool (!q56)) hf rfl rfl (fun hb' => ?_) (fun hb' => ?_) (by decide) ?_
     · exact absurd (hb54.symm.trans hb') (by decide)
     · rfl
     clear hf; intro a ha hf; clear ha
     refine st_nil hf (th_n ?_)
     have hp : Hp _ _ _ (_ :: _ :: _ :: _ :: _ :: ow) := Hp.sel (pre := [Res.sl Ek.bool 4 v34 q27.1, Res.sl Ek.bool 4 v19 q12.1, Res.slx (Ek.pair Ek.c128 Ek.bool) 35 v10 xx5 q5.2, Res.sl Ek.bool 4 v47 q40.1, Res.obj 24 v1 [.int .i64 cx2c_0, .int .u32 cx2c_1, .int .u32 cx2c_2]]) (tail := ow) (rs' := [Res.slx (Ek.pair Ek.c128 Ek.bool) 35 v10 xx5 q5.2, Res.sl Ek.bool 4 v47 q40.1, Res.sl Ek.bool 4 v34 q27.1, Res.sl Ek.bool 4 v19 q12.1, Res.obj 24 v1 [.int .i64 cx2c_0, .int .u32 cx2c_1, .int .u32 cx2c_2]]) hp [2, 3, 0, 1, 4] (by decide) (by simp) rfl
     exact ⟨hf.sub ⟨rfl, rfl, rfl, rfl, rfl, rfl, rfl, rfl, rfl, rfl, rfl, rfl, trivial⟩, hp⟩
    rintro a w ⟨hf, hp⟩
    refine st_move hf rfl rfl (by decide) ?_
    clear hf; intro a ha hf; clear ha
    obtain ⟨z70, hz68, h⟩ := bnd h
    refine wpList_cut 5 (fun a w => Fr 259 a [(1, v3), (2, optr v1 0), (5, v10), (6, .int .i64 (l1.length : Int)), (7, .int .i64 round7), (8, v19), (10, .float .f64 v21), (11, .bool q12.2.2.2.1), (12, .int .i64 q12.2.2.2.2), (13, v34), (16, v47), (88, .bool z70)] ∧ Hp S w0 w (Res.slx (Ek.pair Ek.c128 Ek.bool) 35 v10 xx5 q5.2 :: Res.sl Ek.bool 4 v47 q40.1 :: Res.sl Ek.bool 4 v34 q27.1 :: Res.sl Ek.bool 4 v19 q12.1 :: Res.obj 24 v1 [.int .i64 cx2c_0, .int .u32 cx2c_1, .int .u32 cx2c_2] :: ow)) ?_ ?_
    ·
     rcases Bool.eq_false_or_eq_true z55 with hb69 | hb69
     ·
      replace hz68 := ifT hz68 hb69
      refine st_skip hf (wantN hf rfl rfl hb69) rfl (by decide) ?_ rfl
      clear hf; intro a hf
      refine st_skip hf (wantN hf rfl rfl hb69) rfl (by decide) ?_ rfl
      clear hf; intro a hf
      refine st_skip hf (wantN hf rfl rfl hb69) rfl (by decide) ?_ rfl
      clear hf; intro a hf
      refine st_skip hf (wantN hf rfl rfl hb69) rfl (by decide) ?_ rfl
      clear hf; intro a hf
      obtain rfl := Option.some.inj hz68
      refine st_pick (v := .bool true) hf rfl rfl (fun hb' => ?_) (fun hb' => ?_) (by decide) ?_
      · rfl
      · exact absurd (hb69.symm.trans hb') (by decide)
      clear hf; intro a ha hf; clear ha
      refine st_nil hf (th_n ?_)
      exact ⟨hf.sub ⟨rfl, rfl, rfl, rfl, rfl, rfl, rfl, rfl, rfl, rfl, rfl, rfl, trivial⟩, hp⟩
     replace hz68 := ifF hz68 hb69
     refine st_move hf (wantY hf rfl rfl hb69) rfl (by decide) ?_
     clear hf; intro a ha hf; clear ha
     refine st_move hf (wantY hf rfl rfl hb69) rfl (by decide) ?_
     clear hf; intro a ha hf; clear ha
     obtain ⟨q71, hcall72, hz68⟩ := bnd hz68
     obtain ⟨S73, hp74, rd75, up76, bk77⟩ := Hp.lendS hp (i := 1) rfl
     obtain ⟨S78, hp79, rd80, up81, bk82⟩ := Hp.lendS hp74 (i := 2) rfl
     refine st_call hf (by decide) Try.func19 rfl rfl (wantY hf rfl rfl hb69) rfl rfl (f_foghornref21_Same_c hp79 _ _ ((rd75.now hp74).mono up81) _ _ rd80 hcall72) ?_
     rintro _ w ⟨rfl, hp0⟩
     have hp0 := bk82 _ _ hp0
     have hp0 := bk77 _ _ hp0
     clear hp; have hp := hp0; clear hp0
     replace hp : Hp _ _ _ (_ :: _ :: _ :: _ :: _ :: ow) := hp
     refine ⟨_, rfl, ?_⟩
     clear hf; intro a hf
     refine st_not hf (by decide) (wantY hf rfl rfl hb69) rfl ?_
     clear hf; intro a ha hf; clear ha
     obtain rfl := Option.some.inj hz68
     refine st_pick (v := .bool (!q71)) hf rfl rfl (fun hb' => ?_) (fun hb' => ?_) (by decide) ?_
     · exact absurd (hb69.symm.trans hb') (by decide)
     · rfl
     clear hf; intro a ha hf; clear ha
     refine st_nil hf (th_n ?_)
     have hp : Hp _ _ _ (_ :: _ :: _ :: _ :: _ :: ow) := Hp.sel (pre := [Res.sl Ek.bool 4 v47 q40.1, Res.sl Ek.bool 4 v19 q12.1, Res.slx (Ek.pair Ek.c128 Ek.bool) 35 v10 xx5 q5.2, Res.sl Ek.bool 4 v34 q27.1, Res.obj 24 v1 [.int .i64 cx2c_0, .int .u32 cx2c_1, .int .u32 cx2c_2]]) (tail := ow) (rs' := [Res.slx (Ek.pair Ek.c128 Ek.bool) 35 v10 xx5 q5.2, Res.sl Ek.bool 4 v47 q40.1, Res.sl Ek.bool 4 v34 q27.1, Res.sl Ek.bool 4 v19 q12.1, Res.obj 24 v1 [.int .i64 cx2c_0, .int .u32 cx2c_1, .int .u32 cx2c_2]]) hp [2, 0, 3, 1, 4] (by decide) (by simp) rfl
     exact ⟨hf.sub ⟨rfl, rfl, rfl, rfl, rfl, rfl, rfl, rfl, rfl, rfl, rfl, rfl, trivial⟩, hp⟩
    rintro a w ⟨hf, hp⟩
    refine st_nil hf ?_
    refine th_n ?_
    refine wp_if hf rfl (fun hb => ?_) (fun hb => ?_)
    ·
     replace h := ifT h hb
     refine wp_seq ?_
     refine wp_reg ?_
     refine st_assign hf rfl rfl (by decide) ?_
     clear hf; intro a ha hf; clear ha
     refine st_nil hf ?_
     refine th_n ?_
     refine wp_ret ?_
     refine th_r ?_
     refine ib_r ?_
     refine th_r ?_
     obtain rfl := Option.some.inj h
     have hp : Hp _ _ _ (ow) := Hp.sel (pre := [Res.slx (Ek.pair Ek.c128 Ek.bool) 35 v10 xx5 q5.2, Res.sl Ek.bool 4 v47 q40.1, Res.sl Ek.bool 4 v34 q27.1, Res.sl Ek.bool 4 v19 q12.1, Res.obj 24 v1 [.int .i64 cx2c_0, .int .u32 cx2c_1, .int .u32 cx2c_2]]) (tail := ow) (rs' := []) hp [] (by decide) (by simp) rfl
     exact rnd_r (by simp) ⟨rfl, ⟨hf.sub ⟨rfl, trivial⟩, hp⟩⟩
    replace h := ifF h hb
    refine wp_skip ?_
    refine th_n ?_
    refine wp_seq ?_
    refine wp_reg ?_
    refine st_ldOA (m := 3) (us := [.int .i64 cx2c_0, .int .u32 cx2c_1, .int .u32 cx2c_2]) hf (by decide) (by kernel_rfl) rfl rfl (hp.ob (i := 4) rfl) rfl rfl ?_
    clear hf; intro a ha hf; clear ha
    obtain ⟨q83, hcall84, h⟩ := bnd h
    refine st_call hf (by decide) Try.func14 rfl rfl rfl rfl rfl (f_foghornlaw23_code_c hp _ _ _ hcall84) ?_
    rintro _ w ⟨rfl, hp0⟩
    clear hp; have hp := hp0; clear hp0
    replace hp : Hp _ _ _ (_ :: _ :: _ :: _ :: _ :: ow) := hp
    refine ⟨_, rfl, ?_⟩
    clear hf; intro a hf
    refine st_move hf rfl rfl (by decide) ?_
    clear hf; intro a ha hf; clear ha
    obtain ⟨q85, hcall86, h⟩ := bnd h
    obtain ⟨S87, hp88, rd89, up90, bk91⟩ := Hp.lendS hp (i := 0) rfl
    refine st_call hf (by decide) Try.func24 rfl rfl rfl rfl rfl (f_soft_Margin_c hp88 _ _ _ _ _ rd89 hcall86) ?_
    rintro _ w ⟨v92, rfl, y93, hp0⟩
    have hp0 := bk91 _ _ hp0
    clear hp; have hp := hp0; clear hp0
    replace hp : Hp _ _ _ (_ :: _ :: _ :: _ :: _ :: ow) := hp
    refine ⟨_, rfl, ?_⟩
    clear hf; intro a hf
    refine st_move hf rfl rfl (by decide) ?_
    clear hf; intro a ha hf; clear ha
    refine st_extract hf (by decide) rfl rfl rfl ?_
    clear hf; intro a ha hf; clear ha
    refine st_extract hf (by decide) rfl rfl rfl ?_
    clear hf; intro a ha hf; clear ha
    refine st_assign hf rfl rfl (by decide) ?_
    clear hf; intro a ha hf; clear ha
    refine st_assign hf rfl rfl (by decide) ?_
    clear hf; intro a ha hf; clear ha
    refine st_nil hf ?_
    refine th_n ?_
    refine wp_seq_cut (fun a w => f_foghornlaw23_SoftDecides.j2 l1 q5 cx2c_0 cx2c_1 cx2c_2 xx5 round7 q12 q27 q40 = some x ∧ Fr 259 a [(1, v3), (2, optr v1 0), (5, v10), (6, .int .i64 (l1.length : Int)), (7, .int .i64 round7), (8, v19), (13, v34), (16, v47)] ∧ Hp S w0 w (Res.obj 24 v1 [.int .i64 cx2c_0, .int .u32 cx2c_1, .int .u32 cx2c_2] :: Res.slx (Ek.pair Ek.c128 Ek.bool) 35 v10 xx5 q5.2 :: Res.sl Ek.bool 4 v19 q12.1 :: Res.sl Ek.bool 4 v34 q27.1 :: Res.sl Ek.bool 4 v47 q40.1 :: ow)) ?_ ?_
    ·
     refine wp_block ?_
     refine wp_seq ?_
     refine wp_reg ?_
     refine st_move hf rfl rfl (by decide) ?_
     clear hf; intro a ha hf; clear ha
     refine st_ineq hf (by decide) rfl rfl rfl ?_
     clear hf; intro a ha hf; clear ha
     refine st_assign hf rfl rfl (by decide) ?_
     clear hf; intro a ha hf; clear ha
     refine st_nil hf ?_
     refine th_n ?_
     refine wp_if hf rfl (fun hb => ?_) (fun hb => ?_)
     ·
      replace h := ifT h hb
      refine wp_seq ?_
      refine wp_reg ?_
      refine st_move hf rfl rfl (by decide) ?_
      clear hf; intro a ha hf; clear ha
      refine st_move hf rfl rfl (by decide) ?_
      clear hf; intro a ha hf; clear ha
      refine st_ineq hf (by decide) rfl rfl rfl ?_
      clear hf; intro a ha hf; clear ha
      refine st_move hf rfl rfl (by decide) ?_
      clear hf; intro a ha hf; clear ha
      refine wpList_cut 3 (fun a w => Fr 259 a [(1, v3), (2, optr v1 0), (5, v10), (6, .int .i64 (l1.length : Int)), (7, .int .i64 round7), (8, v19), (13, v34), (16, v47), (112, .bool ((q85.2 != q12.2.2.2.2) || (fne q85.1 (Fl.bits 0))))] ∧ Hp S w0 w (Res.slx (Ek.pair Ek.c128 Ek.bool) 35 v10 xx5 q5.2 :: Res.sl Ek.bool 4 v47 q40.1 :: Res.sl Ek.bool 4 v34 q27.1 :: Res.sl Ek.bool 4 v19 q12.1 :: Res.obj 24 v1 [.int .i64 cx2c_0, .int .u32 cx2c_1, .int .u32 cx2c_2] :: ow)) ?_ ?_
      ·
       rcases Bool.eq_false_or_eq_true (q85.2 != q12.2.2.2.2) with hb272 | hb272
       ·
        refine st_skip hf (wantN hf rfl rfl hb272) rfl (by decide) ?_ rfl
        clear hf; intro a hf
        refine st_skip hf (wantN hf rfl rfl hb272) rfl (by decide) ?_ rfl
        clear hf; intro a hf
        refine st_pick (v := .bool true) hf rfl rfl (fun hb' => ?_) (fun hb' => ?_) (by decide) ?_
        · rfl
        · exact absurd (hb272.symm.trans hb') (by decide)
        clear hf; intro a ha hf; clear ha
        refine st_nil hf (th_n ?_)
        exact ⟨hf.sub ⟨rfl, rfl, rfl, rfl, rfl, rfl, rfl, rfl, (by rw [hb272]; rfl), trivial⟩, hp⟩
       refine st_move hf (wantY hf rfl rfl hb272) rfl (by decide) ?_
       clear hf; intro a ha hf; clear ha
       refine st_fcmp (r_fne (fx := q85.1) (fy := (Fl.bits 0)) y93 rfl) hf (by decide) (wantY hf rfl rfl hb272) rfl rfl ?_
       clear hf; intro a ha hf; clear ha
       refine st_pick (v := .bool (fne q85.1 (Fl.bits 0))) hf rfl rfl (fun hb' => ?_) (fun hb' => ?_) (by decide) ?_
       · exact absurd (hb272.symm.trans hb') (by decide)
       · rfl
       clear hf; intro a ha hf; clear ha
       refine st_nil hf (th_n ?_)
       exact ⟨hf.sub ⟨rfl, rfl, rfl, rfl, rfl, rfl, rfl, rfl, (by rw [hb272]; rfl), trivial⟩, hp⟩
      rintro a w ⟨hf, hp⟩
      refine st_nil hf ?_
      refine th_n ?_
      refine wp_if hf rfl (fun hb => ?_) (fun hb => ?_)
      ·
       replace h := ifT h hb
       refine wp_seq ?_
       refine wp_reg ?_
       refine st_assign hf rfl rfl (by decide) ?_
       clear hf; intro a ha hf; clear ha
       refine st_nil hf ?_
       refine th_n ?_
       refine wp_ret ?_
       refine ib_r ?_
       refine th_r ?_
       refine ib_r ?_
       refine th_r ?_
       obtain rfl := Option.some.inj h
       have hp : Hp _ _ _ (ow) := Hp.sel (pre := [Res.slx (Ek.pair Ek.c128 Ek.bool) 35 v10 xx5 q5.2, Res.sl Ek.bool 4 v47 q40.1, Res.sl Ek.bool 4 v34 q27.1, Res.sl Ek.bool 4 v19 q12.1, Res.obj 24 v1 [.int .i64 cx2c_0, .int .u32 cx2c_1, .int .u32 cx2c_2]]) (tail := ow) (rs' := []) hp [] (by decide) (by simp) rfl
       exact rnd_r (by simp) ⟨rfl, ⟨hf.sub ⟨rfl, trivial⟩, hp⟩⟩
      replace h := ifF h hb
      refine wp_skip ?_
      refine ib_n ?_
      have hp : Hp _ _ _ (_ :: _ :: _ :: _ :: _ :: ow) := Hp.sel (pre := [Res.slx (Ek.pair Ek.c128 Ek.bool) 35 v10 xx5 q5.2, Res.sl Ek.bool 4 v47 q40.1, Res.sl Ek.bool 4 v34 q27.1, Res.sl Ek.bool 4 v19 q12.1, Res.obj 24 v1 [.int .i64 cx2c_0, .int .u32 cx2c_1, .int .u32 cx2c_2]]) (tail := ow) (rs' := [Res.obj 24 v1 [.int .i64 cx2c_0, .int .u32 cx2c_1, .int .u32 cx2c_2], Res.slx (Ek.pair Ek.c128 Ek.bool) 35 v10 xx5 q5.2, Res.sl Ek.bool 4 v19 q12.1, Res.sl Ek.bool 4 v34 q27.1, Res.sl Ek.bool 4 v47 q40.1]) hp [4, 0, 3, 2, 1] (by decide) (by simp) rfl
      refine th_n ?_
      exact ⟨h, hf.sub ⟨rfl, rfl, rfl, rfl, rfl, rfl, rfl, rfl, trivial⟩, hp⟩
     replace h := ifF h hb
     refine wp_seq ?_
     refine wp_reg ?_
     refine st_move hf rfl rfl (by decide) ?_
     clear hf; intro a ha hf; clear ha
     refine st_not hf (by decide) rfl rfl ?_
     clear hf; intro a ha hf; clear ha
     refine st_assign hf rfl rfl (by decide) ?_
     clear hf; intro a ha hf; clear ha
     refine st_nil hf ?_
     refine th_n ?_
     refine wp_if hf rfl (fun hb => ?_) (fun hb => ?_)
     ·
      replace h := ifT h hb
      refine wp_seq ?_
      refine wp_reg ?_
      refine st_move hf rfl rfl (by decide) ?_
      clear hf; intro a ha hf; clear ha
      refine st_ineq hf (by decide) rfl rfl rfl ?_
      clear hf; intro a ha hf; clear ha
      refine st_move hf rfl rfl (by decide) ?_
      clear hf; intro a ha hf; clear ha
      refine wpList_cut 3 (fun a w => Fr 259 a [(1, v3), (2, optr v1 0), (5, v10), (6, .int .i64 (l1.length : Int)), (7, .int .i64 round7), (8, v19), (13, v34), (16, v47), (121, .bool ((q85.2 != (6 : Int)) || (fne q85.1 (Fl.bits 0))))] ∧ Hp S w0 w (Res.slx (Ek.pair Ek.c128 Ek.bool) 35 v10 xx5 q5.2 :: Res.sl Ek.bool 4 v47 q40.1 :: Res.sl Ek.bool 4 v34 q27.1 :: Res.sl Ek.bool 4 v19 q12.1 :: Res.obj 24 v1 [.int .i64 cx2c_0, .int .u32 cx2c_1, .int .u32 cx2c_2] :: ow)) ?_ ?_
      ·
       rcases Bool.eq_false_or_eq_true (q85.2 != (6 : Int)) with hb274 | hb274
       ·
        refine st_skip hf (wantN hf rfl rfl hb274) rfl (by decide) ?_ rfl
        clear hf; intro a hf
        refine st_skip hf (wantN hf rfl rfl hb274) rfl (by decide) ?_ rfl
        clear hf; intro a hf
        refine st_pick (v := .bool true) hf rfl rfl (fun hb' => ?_) (fun hb' => ?_) (by decide) ?_
        · rfl
        · exact absurd (hb274.symm.trans hb') (by decide)
        clear hf; intro a ha hf; clear ha
        refine st_nil hf (th_n ?_)
        exact ⟨hf.sub ⟨rfl, rfl, rfl, rfl, rfl, rfl, rfl, rfl, (by rw [hb274]; rfl), trivial⟩, hp⟩
       refine st_move hf (wantY hf rfl rfl hb274) rfl (by decide) ?_
       clear hf; intro a ha hf; clear ha
       refine st_fcmp (r_fne (fx := q85.1) (fy := (Fl.bits 0)) y93 rfl) hf (by decide) (wantY hf rfl rfl hb274) rfl rfl ?_
       clear hf; intro a ha hf; clear ha
       refine st_pick (v := .bool (fne q85.1 (Fl.bits 0))) hf rfl rfl (fun hb' => ?_) (fun hb' => ?_) (by decide) ?_
       · exact absurd (hb274.symm.trans hb') (by decide)
       · rfl
       clear hf; intro a ha hf; clear ha
       refine st_nil hf (th_n ?_)
       exact ⟨hf.sub ⟨rfl, rfl, rfl, rfl, rfl, rfl, rfl, rfl, (by rw [hb274]; rfl), trivial⟩, hp⟩
      rintro a w ⟨hf, hp⟩
      refine st_nil hf ?_
      refine th_n ?_
      refine wp_if hf rfl (fun hb => ?_) (fun hb => ?_)
      ·
       replace h := ifT h hb
       refine wp_seq ?_
       refine wp_reg ?_
       refine st_assign hf rfl rfl (by decide) ?_
       clear hf; intro a ha hf; clear ha
       refine st_nil hf ?_
       refine th_n ?_
       refine wp_ret ?_
       refine ib_r ?_
       refine th_r ?_
       refine ib_r ?_
       refine th_r ?_
       obtain rfl := Option.some.inj h
       have hp : Hp _ _ _ (ow) := Hp.sel (pre := [Res.slx (Ek.pair Ek.c128 Ek.bool) 35 v10 xx5 q5.2, Res.sl Ek.bool 4 v47 q40.1, Res.sl Ek.bool 4 v34 q27.1, Res.sl Ek.bool 4 v19 q12.1, Res.obj 24 v1 [.int .i64 cx2c_0, .int .u32 cx2c_1, .int .u32 cx2c_2]]) (tail := ow) (rs' := []) hp [] (by decide) (by simp) rfl
       exact rnd_r (by simp) ⟨rfl, ⟨hf.sub ⟨rfl, trivial⟩, hp⟩⟩
      replace h := ifF h hb
      refine wp_skip ?_
      refine ib_n ?_
      have hp : Hp _ _ _ (_ :: _ :: _ :: _ :: _ :: ow) := Hp.sel (pre := [Res.slx (Ek.pair Ek.c128 Ek.bool) 35 v10 xx5 q5.2, Res.sl Ek.bool 4 v47 q40.1, Res.sl Ek.bool 4 v34 q27.1, Res.sl Ek.bool 4 v19 q12.1, Res.obj 24 v1 [.int .i64 cx2c_0, .int .u32 cx2c_1, .int .u32 cx2c_2]]) (tail := ow) (rs' := [Res.obj 24 v1 [.int .i64 cx2c_0, .int .u32 cx2c_1, .int .u32 cx2c_2], Res.slx (Ek.pair Ek.c128 Ek.bool) 35 v10 xx5 q5.2, Res.sl Ek.bool 4 v19 q12.1, Res.sl Ek.bool 4 v34 q27.1, Res.sl Ek.bool 4 v47 q40.1]) hp [4, 0, 3, 2, 1] (by decide) (by simp) rfl
      refine th_n ?_
      exact ⟨h, hf.sub ⟨rfl, rfl, rfl, rfl, rfl, rfl, rfl, rfl, trivial⟩, hp⟩
     replace h := ifF h hb
     refine wp_seq ?_
     refine wp_reg ?_
     refine st_move hf rfl rfl (by decide) ?_
     clear hf; intro a ha hf; clear ha
     refine st_ineq hf (by decide) rfl rfl rfl ?_
     clear hf; intro a ha hf; clear ha
     refine st_move hf rfl rfl (by decide) ?_
     clear hf; intro a ha hf; clear ha
     refine wpList_cut 4 (fun a w => Fr 259 a [(1, v3), (2, optr v1 0), (5, v10), (6, .int .i64 (l1.length : Int)), (7, .int .i64 round7), (8, v19), (13, v34), (16, v47), (102, .bool ((q85.2 != (0 : Int)) || (fne q85.1 q12.2.2.1)))] ∧ Hp S w0 w (Res.slx (Ek.pair Ek.c128 Ek.bool) 35 v10 xx5 q5.2 :: Res.sl Ek.bool 4 v47 q40.1 :: Res.sl Ek.bool 4 v34 q27.1 :: Res.sl Ek.bool 4 v19 q12.1 :: Res.obj 24 v1 [.int .i64 cx2c_0, .int .u32 cx2c_1, .int .u32 cx2c_2] :: ow)) ?_ ?_
     ·
      rcases Bool.eq_false_or_eq_true (q85.2 != (0 : Int)) with hb276 | hb276
      ·
       refine st_skip hf (wantN hf rfl rfl hb276) rfl (by decide) ?_ rfl
       clear hf; intro a hf
       refine st_skip hf (wantN hf rfl rfl hb276) rfl (by decide) ?_ rfl
       clear hf; intro a hf
       refine st_skip hf (wantN hf rfl rfl hb276) rfl (by decide) ?_ rfl
       clear hf; intro a hf
       refine st_pick (v := .bool true) hf rfl rfl (fun hb' => ?_) (fun hb' => ?_) (by decide) ?_
       · rfl
       · exact absurd (hb276.symm.trans hb') (by decide)
       clear hf; intro a ha hf; clear ha
       refine st_nil hf (th_n ?_)
       exact ⟨hf.sub ⟨rfl, rfl, rfl, rfl, rfl, rfl, rfl, rfl, (by rw [hb276]; rfl), trivial⟩, hp⟩
      refine st_move hf (wantY hf rfl rfl hb276) rfl (by decide) ?_
      clear hf; intro a ha hf; clear ha
      refine st_move hf (wantY hf rfl rfl hb276) rfl (by decide) ?_
      clear hf; intro a ha hf; clear ha
      refine st_fcmp (r_fne (fx := q85.1) (fy := q12.2.2.1) y93 y23) hf (by decide) (wantY hf rfl rfl hb276) rfl rfl ?_
      clear hf; intro a ha hf; clear ha
      refine st_pick (v := .bool (fne q85.1 q12.2.2.1)) hf rfl rfl (fun hb' => ?_) (fun hb' => ?_) (by decide) ?_
      · exact absurd (hb276.symm.trans hb') (by decide)
      · rfl
      clear hf; intro a ha hf; clear ha
      refine st_nil hf (th_n ?_)
      exact ⟨hf.sub ⟨rfl, rfl, rfl, rfl, rfl, rfl, rfl, rfl, (by rw [hb276]; rfl), trivial⟩, hp⟩
     rintro a w ⟨hf, hp⟩
     refine st_nil hf ?_
     refine th_n ?_
     refine wp_if hf rfl (fun hb => ?_) (fun hb => ?_)
     ·
      replace h := ifT h hb
      refine wp_seq ?_
      refine wp_reg ?_
      refine st_assign hf rfl rfl (by decide) ?_
      clear hf; intro a ha hf; clear ha
      refine st_nil hf ?_
      refine th_n ?_
      refine wp_ret ?_
      refine ib_r ?_
      refine th_r ?_
      refine ib_r ?_
      refine th_r ?_
      obtain rfl := Option.some.inj h
      have hp : Hp _ _ _ (ow) := Hp.sel (pre := [Res.slx (Ek.pair Ek.c128 Ek.bool) 35 v10 xx5 q5.2, Res.sl Ek.bool 4 v47 q40.1, Res.sl Ek.bool 4 v34 q27.1, Res.sl Ek.bool 4 v19 q12.1, Res.obj 24 v1 [.int .i64 cx2c_0, .int .u32 cx2c_1, .int .u32 cx2c_2]]) (tail := ow) (rs' := []) hp [] (by decide) (by simp) rfl
      exact rnd_r (by simp) ⟨rfl, ⟨hf.sub ⟨rfl, trivial⟩, hp⟩⟩
     replace h := ifF h hb
     refine wp_skip ?_
     refine ib_n ?_
     have hp : Hp _ _ _ (_ :: _ :: _ :: _ :: _ :: ow) := Hp.sel (pre := [Res.slx (Ek.pair Ek.c128 Ek.bool) 35 v10 xx5 q5.2, Res.sl Ek.bool 4 v47 q40.1, Res.sl Ek.bool 4 v34 q27.1, Res.sl Ek.bool 4 v19 q12.1, Res.obj 24 v1 [.int .i64 cx2c_0, .int .u32 cx2c_1, .int .u32 cx2c_2]]) (tail := ow) (rs' := [Res.obj 24 v1 [.int .i64 cx2c_0, .int .u32 cx2c_1, .int .u32 cx2c_2], Res.slx (Ek.pair Ek.c128 Ek.bool) 35 v10 xx5 q5.2, Res.sl Ek.bool 4 v19 q12.1, Res.sl Ek.bool 4 v34 q27.1, Res.sl Ek.bool 4 v47 q40.1]) hp [4, 0, 3, 2, 1] (by decide) (by simp) rfl
     refine th_n ?_
     exact ⟨h, hf.sub ⟨rfl, rfl, rfl, rfl, rfl, rfl, rfl, rfl, trivial⟩, hp⟩
    rintro a w ⟨h, hf, hp⟩
    unfold f_foghornlaw23_SoftDecides.j2 at h
    refine wp_seq ?_
    refine wp_reg ?_
    refine st_ldOA (m := 3) (us := [.int .i64 cx2c_0, .int .u32 cx2c_1, .int .u32 cx2c_2]) hf (by decide) (by kernel_rfl) rfl rfl (hp.ob (i := 0) rfl) rfl rfl ?_
    clear hf; intro a ha hf; clear ha
    refine st_move hf rfl rfl (by decide) ?_
    clear hf; intro a ha hf; clear ha
    obtain ⟨q94, hcall95, h⟩ := bnd h
    obtain ⟨S96, hp97, rd98, up99, bk100⟩ := Hp.lendS hp (i := 1) rfl
    refine st_call hf (by decide) Try.func25 rfl rfl rfl rfl rfl (f_foghornref23_Ends_c hp97 _ _ _ _ _ rd98 hcall95) ?_
    rintro _ w ⟨v101, rfl, hp0⟩
    have hp0 := bk100 _ _ hp0
    clear hp; have hp := hp0; clear hp0
    replace hp : Hp _ _ _ (_ :: Res.sl Ek.f64 29 v101 q94.1 :: _ :: _ :: _ :: _ :: ow) := hp
    refine ⟨_, rfl, ?_⟩
    clear hf; intro a hf
    refine st_move hf rfl rfl (by decide) ?_
    clear hf; intro a ha hf; clear ha
    refine st_extract hf (by decide) rfl rfl rfl ?_
    clear hf; intro a ha hf; clear ha
    refine st_extract hf (by decide) rfl rfl rfl ?_
    clear hf; intro a ha hf; clear ha
    refine st_assign hf rfl rfl (by decide) ?_
    clear hf; intro a ha hf; clear ha
    refine st_assign hf rfl rfl (by decide) ?_
    clear hf; intro a ha hf; clear ha
    refine st_nil hf ?_
    refine th_n ?_
    refine wp_seq ?_
    refine wp_reg ?_
    refine st_ldOA (m := 3) (us := [.int .i64 cx2c_0, .int .u32 cx2c_1, .int .u32 cx2c_2]) hf (by decide) (by kernel_rfl) rfl rfl (hp.ob (i := 2) rfl) rfl rfl ?_
    clear hf; intro a ha hf; clear ha
    obtain ⟨q103, hcall104, h⟩ := bnd h
    refine st_call hf (by decide) Try.func14 rfl rfl rfl rfl rfl (f_foghornlaw23_code_c hp _ _ _ hcall104) ?_
    rintro _ w ⟨rfl, hp0⟩
    clear hp; have hp := hp0; clear hp0
    replace hp : Hp _ _ _ (_ :: _ :: _ :: _ :: _ :: _ :: ow) := hp
    refine ⟨_, rfl, ?_⟩
    clear hf; intro a hf
    refine st_move hf rfl rfl (by decide) ?_
    clear hf; intro a ha hf; clear ha
    obtain ⟨q105, hcall106, h⟩ := bnd h
    obtain ⟨S107, hp108, rd109, up110, bk111⟩ := Hp.lendS hp (i := 0) rfl
    refine st_call hf (by decide) Try.func22 rfl rfl rfl rfl rfl (f_soft_Ends_c hp108 _ _ _ _ _ rd109 hcall106) ?_
    rintro _ w ⟨v112, rfl, hp0⟩
    have hp0 := bk111 _ _ hp0
    clear hp; have hp := hp0; clear hp0
    replace hp : Hp _ _ _ (_ :: Res.sl Ek.f64 29 v112 q105.1 :: _ :: _ :: _ :: _ :: _ :: ow) := hp
    refine ⟨_, rfl, ?_⟩
    clear hf; intro a hf
    refine st_move hf rfl rfl (by decide) ?_
    clear hf; intro a ha hf; clear ha
    refine st_extract hf (by decide) rfl rfl rfl ?_
    clear hf; intro a ha hf; clear ha
    refine st_extract hf (by decide) rfl rfl rfl ?_
    clear hf; intro a ha hf; clear ha
    refine st_assign hf rfl rfl (by decide) ?_
    clear hf; intro a ha hf; clear ha
    refine st_assign hf rfl rfl (by decide) ?_
    clear hf; intro a ha hf; clear ha
    refine st_nil hf ?_
    refine th_n ?_
    refine wp_seq ?_
    refine wp_reg ?_
    refine st_ldOA (m := 3) (us := [.int .i64 cx2c_0, .int .u32 cx2c_1, .int .u32 cx2c_2]) hf (by decide) (by kernel_rfl) rfl rfl (hp.ob (i := 3) rfl) rfl rfl ?_
    clear hf; intro a ha hf; clear ha
    obtain ⟨q114, hcall115, h⟩ := bnd h
    refine st_call hf (by decide) Try.func14 rfl rfl rfl rfl rfl (f_foghornlaw23_code_c hp _ _ _ hcall115) ?_
    rintro _ w ⟨rfl, hp0⟩
    clear hp; have hp := hp0; clear hp0
    replace hp : Hp _ _ _ (_ :: _ :: _ :: _ :: _ :: _ :: _ :: ow) := hp
    refine ⟨_, rfl, ?_⟩
    clear hf; intro a hf
    refine st_move hf rfl rfl (by decide) ?_
    clear hf; intro a ha hf; clear ha
    obtain ⟨q116, hcall117, h⟩ := bnd h
    obtain ⟨S118, hp119, rd120, up121, bk122⟩ := Hp.lendS hp (i := 0) rfl
    refine st_call hf (by decide) Try.func22 rfl rfl rfl rfl rfl (f_soft_Ends_c hp119 _ _ _ _ _ rd120 hcall117) ?_
    rintro _ w ⟨v123, rfl, hp0⟩
    have hp0 := bk122 _ _ hp0
    clear hp; have hp := hp0; clear hp0
    replace hp : Hp _ _ _ (_ :: Res.sl Ek.f64 29 v123 q116.1 :: _ :: _ :: _ :: _ :: _ :: _ :: ow) := hp
    refine ⟨_, rfl, ?_⟩
    clear hf; intro a hf
    refine st_move hf rfl rfl (by decide) ?_
    clear hf; intro a ha hf; clear ha
    refine st_extract hf (by decide) rfl rfl rfl ?_
    clear hf; intro a ha hf; clear ha
    refine st_extract hf (by decide) rfl rfl rfl ?_
    clear hf; intro a ha hf; clear ha
    refine st_assign hf rfl rfl (by decide) ?_
    clear hf; intro a ha hf; clear ha
    refine st_assign hf rfl rfl (by decide) ?_
    clear hf; intro a ha hf; clear ha
    refine st_nil hf ?_
    refine th_n ?_
    refine wp_seq ?_
    refine wp_seq ?_
    refine wp_reg ?_
    refine st_move hf rfl rfl (by decide) ?_
    clear hf; intro a ha hf; clear ha
    refine st_move hf rfl rfl (by decide) ?_
    clear hf; intro a ha hf; clear ha
    refine st_ineq hf (by decide) rfl rfl rfl ?_
    clear hf; intro a ha hf; clear ha
    refine st_move hf rfl rfl (by decide) ?_
    clear hf; intro a ha hf; clear ha
    refine wpList_cut 6 (fun a w => Fr 259 a [(1, v3), (2, optr v1 0), (5, v10), (6, .int .i64 (l1.length : Int)), (7, .int .i64 round7), (8, v19), (13, v34), (16, v47), (21, v101), (23, v112), (25, v123), (151, .bool ((q105.2 != q94.2) || ((q105.1.length : Int) != (q94.1.length : Int))))] ∧ Hp S w0 w (Res.slx (Ek.pair Ek.c128 Ek.bool) 35 v10 xx5 q5.2 :: Res.sl Ek.f64 29 v123 q116.1 :: Res.sl Ek.f64 29 v112 q105.1 :: Res.sl Ek.f64 29 v101 q94.1 :: Res.obj 24 v1 [.int .i64 cx2c_0, .int .u32 cx2c_1, .int .u32 cx2c_2] :: Res.sl Ek.bool 4 v19 q12.1 :: Res.sl Ek.bool 4 v34 q27.1 :: Res.sl Ek.bool 4 v47 q40.1 :: ow)) ?_ ?_
    ·
     rcases Bool.eq_false_or_eq_true (q105.2 != q94.2) with hb126 | hb126
     ·
      refine st_skip hf (wantN hf rfl rfl hb126) rfl (by decide) ?_ rfl
      clear hf; intro a hf
      refine st_skip hf (wantN hf rfl rfl hb126) rfl (by decide) ?_ rfl
      clear hf; intro a hf
      refine st_skip hf (wantN hf rfl rfl hb126) rfl (by decide) ?_ rfl
      clear hf; intro a hf
      refine st_skip hf (wantN hf rfl rfl hb126) rfl (by decide) ?_ rfl
      clear hf; intro a hf
      refine st_skip hf (wantN hf rfl rfl hb126) rfl (by decide) ?_ rfl
      clear hf; intro a hf
      refine st_pick (v := .bool true) hf rfl rfl (fun hb' => ?_) (fun hb' => ?_) (by decide) ?_
      · rfl
      · exact absurd (hb126.symm.trans hb') (by decide)
      clear hf; intro a ha hf; clear ha
      refine st_nil hf (th_n ?_)
      exact ⟨hf.sub ⟨rfl, rfl, rfl, rfl, rfl, rfl, rfl, rfl, rfl, rfl, rfl, (by rw [hb126]; rfl), trivial⟩, hp⟩
     refine st_move hf (wantY hf rfl rfl hb126) rfl (by decide) ?_
     clear hf; intro a ha hf; clear ha
     refine st_len (E := Ek.f64) hf (by decide) Try.underlying50 (wantY hf rfl rfl hb126) rfl (hp.sl (i := 2) rfl) ?_
     clear hf; intro a ha hf; clear ha
     refine st_move hf (wantY hf rfl rfl hb126) rfl (by decide) ?_
     clear hf; intro a ha hf; clear ha
     refine st_len (E := Ek.f64) hf (by decide) Try.underlying50 (wantY hf rfl rfl hb126) rfl (hp.sl (i := 3) rfl) ?_
     clear hf; intro a ha hf; clear ha
     refine st_ineq hf (by decide) (wantY hf rfl rfl hb126) rfl rfl ?_
     clear hf; intro a ha hf; clear ha
     refine st_pick (v := .bool ((q105.1.length : Int) != (q94.1.length : Int))) hf rfl rfl (fun hb' => ?_) (fun hb' => ?_) (by decide) ?_
     · exact absurd (hb126.symm.trans hb') (by decide)
     · rfl
     clear hf; intro a ha hf; clear ha
     refine st_nil hf (th_n ?_)
     exact ⟨hf.sub ⟨rfl, rfl, rfl, rfl, rfl, rfl, rfl, rfl, rfl, rfl, rfl, (by rw [hb126]; rfl), trivial⟩, hp⟩
    rintro a w ⟨hf, hp⟩
    refine st_move hf rfl rfl (by decide) ?_
    clear hf; intro a ha hf; clear ha
    refine wpList_cut 6 (fun a w => Fr 259 a [(1, v3), (2, optr v1 0), (5, v10), (6, .int .i64 (l1.length : Int)), (7, .int .i64 round7), (8, v19), (13, v34), (16, v47), (21, v101), (23, v112), (25, v123), (158, .bool (((q105.2 != q94.2) || ((q105.1.length : Int) != (q94.1.length : Int))) || ((q116.1.length : Int) != (q94.1.length : Int))))] ∧ Hp S w0 w (Res.slx (Ek.pair Ek.c128 Ek.bool) 35 v10 xx5 q5.2 :: Res.sl Ek.f64 29 v123 q116.1 :: Res.sl Ek.f64 29 v112 q105.1 :: Res.sl Ek.f64 29 v101 q94.1 :: Res.obj 24 v1 [.int .i64 cx2c_0, .int .u32 cx2c_1, .int .u32 cx2c_2] :: Res.sl Ek.bool 4 v19 q12.1 :: Res.sl Ek.bool 4 v34 q27.1 :: Res.sl Ek.bool 4 v47 q40.1 :: ow)) ?_ ?_
    ·
     rcases Bool.eq_false_or_eq_true ((q105.2 != q94.2) || ((q105.1.length : Int) != (q94.1.length : Int))) with hb128 | hb128
     ·
      refine st_skip hf (wantN hf rfl rfl hb128) rfl (by decide) ?_ rfl
      clear hf; intro a hf
      refine st_skip hf (wantN hf rfl rfl hb128) rfl (by decide) ?_ rfl
      clear hf; intro a hf
      refine st_skip hf (wantN hf rfl rfl hb128) rfl (by decide) ?_ rfl
      clear hf; intro a hf
      refine st_skip hf (wantN hf rfl rfl hb128) rfl (by decide) ?_ rfl
      clear hf; intro a hf
      refine st_skip hf (wantN hf rfl rfl hb128) rfl (by decide) ?_ rfl
      clear hf; intro a hf
      refine st_pick (v := .bool true) hf rfl rfl (fun hb' => ?_) (fun hb' => ?_) (by decide) ?_
      · rfl
      · exact absurd (hb128.symm.trans hb') (by decide)
      clear hf; intro a ha hf; clear ha
      refine st_nil hf (th_n ?_)
      exact ⟨hf.sub ⟨rfl, rfl, rfl, rfl, rfl, rfl, rfl, rfl, rfl, rfl, rfl, (by rw [hb128]; rfl), trivial⟩, hp⟩
     refine st_move hf (wantY hf rfl rfl hb128) rfl (by decide) ?_
     clear hf; intro a ha hf; clear ha
     refine st_len (E := Ek.f64) hf (by decide) Try.underlying50 (wantY hf rfl rfl hb128) rfl (hp.sl (i := 1) rfl) ?_
     clear hf; intro a ha hf; clear ha
     refine st_move hf (wantY hf rfl rfl hb128) rfl (by decide) ?_
     clear hf; intro a ha hf; clear ha
     refine st_len (E := Ek.f64) hf (by decide) Try.underlying50 (wantY hf rfl rfl hb128) rfl (hp.sl (i := 3) rfl) ?_
     clear hf; intro a ha hf; clear ha
     refine st_ineq hf (by decide) (wantY hf rfl rfl hb128) rfl rfl ?_
     clear hf; intro a ha hf; clear ha
     refine st_pick (v := .bool ((q116.1.length : Int) != (q94.1.length : Int))) hf rfl rfl (fun hb' => ?_) (fun hb' => ?_) (by decide) ?_
     · exact absurd (hb128.symm.trans hb') (by decide)
     · rfl
     clear hf; intro a ha hf; clear ha
     refine st_nil hf (th_n ?_)
     exact ⟨hf.sub ⟨rfl, rfl, rfl, rfl, rfl, rfl, rfl, rfl, rfl, rfl, rfl, (by rw [hb128]; rfl), trivial⟩, hp⟩
    rintro a w ⟨hf, hp⟩
    refine st_nil hf ?_
    refine th_n ?_
    refine wp_if hf rfl (fun hb => ?_) (fun hb => ?_)
    ·
     replace h := ifT h hb
     refine wp_seq ?_
     refine wp_reg ?_
     refine st_assign hf rfl rfl (by decide) ?_
     clear hf; intro a ha hf; clear ha
     refine st_nil hf ?_
     refine th_n ?_
     refine wp_ret ?_
     refine th_r ?_
     refine ib_r ?_
     refine th_r ?_
     obtain rfl := Option.some.inj h
     have hp : Hp _ _ _ (ow) := Hp.sel (pre := [Res.slx (Ek.pair Ek.c128 Ek.bool) 35 v10 xx5 q5.2, Res.sl Ek.f64 29 v123 q116.1, Res.sl Ek.f64 29 v112 q105.1, Res.sl Ek.f64 29 v101 q94.1, Res.obj 24 v1 [.int .i64 cx2c_0, .int .u32 cx2c_1, .int .u32 cx2c_2], Res.sl Ek.bool 4 v19 q12.1, Res.sl Ek.bool 4 v34 q27.1, Res.sl Ek.bool 4 v47 q40.1]) (tail := ow) (rs' := []) hp [] (by decide) (by simp) rfl
     exact rnd_r (by simp) ⟨rfl, ⟨hf.sub ⟨rfl, trivial⟩, hp⟩⟩
    replace h := ifF h hb
    refine wp_skip ?_
    refine th_n ?_
    refine wp_seq ?_
    refine wp_seq ?_
    refine wp_reg ?_
    refine st_assign hf rfl rfl (by decide) ?_
    clear hf; intro a ha hf; clear ha
    refine st_nil hf ?_
    refine th_n ?_
    refine wp_block ?_
    obtain ⟨q176, hl, h⟩ := bnd h
    have hp : Hp _ _ _ (_ :: _ :: _ :: _ :: _ :: _ :: _ :: _ :: ow) := Hp.sel (pre := [Res.slx (Ek.pair Ek.c128 Ek.bool) 35 v10 xx5 q5.2, Res.sl Ek.f64 29 v123 q116.1, Res.sl Ek.f64 29 v112 q105.1, Res.sl Ek.f64 29 v101 q94.1, Res.obj 24 v1 [.int .i64 cx2c_0, .int .u32 cx2c_1, .int .u32 cx2c_2], Res.sl Ek.bool 4 v19 q12.1, Res.sl Ek.bool 4 v34 q27.1, Res.sl Ek.bool 4 v47 q40.1]) (tail := ow) (rs' := [Res.sl Ek.f64 29 v112 q105.1, Res.obj 24 v1 [.int .i64 cx2c_0, .int .u32 cx2c_1, .int .u32 cx2c_2], Res.slx (Ek.pair Ek.c128 Ek.bool) 35 v10 xx5 q5.2, Res.sl Ek.bool 4 v19 q12.1, Res.sl Ek.bool 4 v34 q27.1, Res.sl Ek.bool 4 v47 q40.1, Res.sl Ek.f64 29 v101 q94.1, Res.sl Ek.f64 29 v123 q116.1]) hp [2, 4, 0, 5, 6, 7, 3, 1] (by decide) (by simp) rfl
    refine wp_loop_pure (f := (f_foghornlaw23_SoftDecides.s2 q94 q116)) (s := (q105.1, (0 : Int))) (fun s a w => ∃ (v129 : Value), Fr 259 a [(1, v3), (2, optr v1 0), (5, v10), (6, .int .i64 (l1.length : Int)), (7, .int .i64 round7), (8, v19), (13, v34), (16, v47), (21, v101), (23, v129), (25, v123), (27, .int .i64 s.2)] ∧ Hp S w0 w (Res.sl Ek.f64 29 v129 s.1 :: Res.obj 24 v1 [.int .i64 cx2c_0, .int .u32 cx2c_1, .int .u32 cx2c_2] :: Res.slx (Ek.pair Ek.c128 Ek.bool) 35 v10 xx5 q5.2 :: Res.sl Ek.bool 4 v19 q12.1 :: Res.sl Ek.bool 4 v34 q27.1 :: Res.sl Ek.bool 4 v47 q40.1 :: Res.sl Ek.f64 29 v101 q94.1 :: Res.sl Ek.f64 29 v123 q116.1 :: ow)) (fun q e a w => match q with | (Sum.inl q) => e = .exit 3 ∧ ∃ (v131 : Value), Fr 259 a [(1, v3), (2, optr v1 0), (5, v10), (6, .int .i64 (l1.length : Int)), (7, .int .i64 round7), (8, v19), (13, v34), (16, v47), (23, v131)] ∧ Hp S w0 w (Res.sl Ek.f64 29 v131 q :: Res.obj 24 v1 [.int .i64 cx2c_0, .int .u32 cx2c_1, .int .u32 cx2c_2] :: Res.slx (Ek.pair Ek.c128 Ek.bool) 35 v10 xx5 q5.2 :: Res.sl Ek.bool 4 v19 q12.1 :: Res.sl Ek.bool 4 v34 q27.1 :: Res.sl Ek.bool 4 v47 q40.1 :: ow) | (Sum.inr q) => e = .ret ∧ Fr 259 a [(4, .bool q)] ∧ Hp S w0 w (ow)) ?_ hl ⟨_, hf.sub ⟨rfl, rfl, rfl, rfl, rfl, rfl, rfl, rfl, rfl, rfl, rfl, rfl, trivial⟩, hp⟩ ?_
    ·
     clear hl hf hp
     intro s x a w h hI
     obtain ⟨ux23, k27⟩ := s
     obtain ⟨v129, hf, hp⟩ : ∃ (v129 : Value), Fr 259 a [(1, v3), (2, optr v1 0), (5, v10), (6, .int .i64 (l1.length : Int)), (7, .int .i64 round7), (8, v19), (13, v34), (16, v47), (21, v101), (23, v129), (25, v123), (27, .int .i64 k27)] ∧ Hp S w0 w (Res.sl Ek.f64 29 v129 ux23 :: Res.obj 24 v1 [.int .i64 cx2c_0, .int .u32 cx2c_1, .int .u32 cx2c_2] :: Res.slx (Ek.pair Ek.c128 Ek.bool) 35 v10 xx5 q5.2 :: Res.sl Ek.bool 4 v19 q12.1 :: Res.sl Ek.bool 4 v34 q27.1 :: Res.sl Ek.bool 4 v47 q40.1 :: Res.sl Ek.f64 29 v101 q94.1 :: Res.sl Ek.f64 29 v123 q116.1 :: ow) := hI
     replace h : f_foghornlaw23_SoftDecides.s2c q94 q116 ux23 k27 = some x := h
     unfold f_foghornlaw23_SoftDecides.s2c at h
     refine wp_seq ?_
     refine wp_seq ?_
     refine wp_reg ?_
     refine st_move hf rfl rfl (by decide) ?_
     clear hf; intro a ha hf; clear ha
     refine st_move hf rfl rfl (by decide) ?_
     clear hf; intro a ha hf; clear ha
     refine st_len (E := Ek.f64) hf (by decide) Try.underlying50 rfl rfl (hp.sl (i := 6) rfl) ?_
     clear hf; intro a ha hf; clear ha
     refine st_ilss hf (by decide) rfl rfl rfl ?_
     clear hf; intro a ha hf; clear ha
     refine st_nil hf ?_
     refine th_n ?_
     refine wp_if hf rfl (fun hb => ?_) (fun hb => ?_)
     ·
      replace h := ifT h hb
      refine wp_skip ?_
      refine th_n ?_
      refine wp_seq ?_
      refine wp_block ?_
      refine wp_seq ?_
      refine wp_seq ?_
      obtain ⟨S133, hp134, rd135, up136, bk137⟩ := Hp.lendS hp (i := 0) rfl
      obtain ⟨S138, hp139, rd140, up141, bk142⟩ := Hp.lendS hp134 (i := 5) rfl
      have rl143 := ((((y4.now hp).mono up136).now hp134).mono up141)
      have rl144 := rd140
      have rl145 := ((rd135.now hp134).mono up141)
      obtain ⟨hc146, h⟩ := chk h
      obtain ⟨bb148, y149, hl147⟩ := RdS.pinF (p := k27) rl145 hc146.1 hc146.2
      obtain ⟨hc150, h⟩ := chk h
      obtain ⟨bb152, y153, hl151⟩ := RdS.pinF (p := k27) rl144 hc150.1 hc150.2
      refine wp_cutN (fun a w => Fr 259 a [(1, v3), (2, optr v1 0), (5, v10), (6, .int .i64 (l1.length : Int)), (7, .int .i64 round7), (8, v19), (13, v34), (16, v47), (21, v101), (23, v129), (25, v123), (27, .int .i64 k27), (173, .bool (fne (gt ux23 k27) (gt q94.1 k27)))] ∧ Hp S w0 w (Res.sl Ek.f64 29 v129 ux23 :: Res.sl Ek.f64 29 v101 q94.1 :: Res.obj 24 v1 [.int .i64 cx2c_0, .int .u32 cx2c_1, .int .u32 cx2c_2] :: Res.slx (Ek.pair Ek.c128 Ek.bool) 35 v10 xx5 q5.2 :: Res.sl Ek.bool 4 v19 q12.1 :: Res.sl Ek.bool 4 v34 q27.1 :: Res.sl Ek.bool 4 v47 q40.1 :: Res.sl Ek.f64 29 v123 q116.1 :: ow)) ?_ ?_
      ·
       have hp := hp139.same (Same.drew w)
       refine dr_begin' _ (fun w' => ∃ l, Hp S138 w w' l) [] (by kernel_rfl) ?_
       refine dr_takeK 0 (v129) rfl hf rfl (fun w ⟨_, hp⟩ => ?_) ⟨_, hp⟩ ?_
       · exact st_move hf rfl rfl (by decide) tk
       clear hf; intro a hf
       refine dr_takeK 1 (.int .i64 k27) rfl hf rfl (fun w ⟨_, hp⟩ => ?_) ⟨_, hp⟩ ?_
       · exact st_move hf rfl rfl (by decide) tk
       clear hf; intro a hf
       refine dr_takeK 2 (eptr v129 k27 1) rfl hf rfl (fun w ⟨_, hp⟩ => ?_) ⟨_, hp⟩ ?_
       · exact st_index (E := Ek.f64) hf (by decide) Try.underlying50 elt29 rfl rfl rfl (rl145.sl hp) hc146.1 hc146.2 tk
       clear hf; intro a hf
       refine dr_takeK 3 (.float .f64 bb148) rfl hf rfl (fun w ⟨_, hp⟩ => ?_) ⟨_, hp⟩ ?_
       · exact st_ldP hf (by decide) pl29 rfl rfl (hl147 _ _ hp) tk
       clear hf; intro a hf
       refine dr_takeK 4 (v101) rfl hf rfl (fun w ⟨_, hp⟩ => ?_) ⟨_, hp⟩ ?_
       · exact st_move hf rfl rfl (by decide) tk
       clear hf; intro a hf
       refine dr_takeK 5 (.int .i64 k27) rfl hf rfl (fun w ⟨_, hp⟩ => ?_) ⟨_, hp⟩ ?_
       · exact st_move hf rfl rfl (by decide) tk
       clear hf; intro a hf
       refine dr_takeK 6 (eptr v101 k27 1) rfl hf rfl (fun w ⟨_, hp⟩ => ?_) ⟨_, hp⟩ ?_
       · exact st_index (E := Ek.f64) hf (by decide) Try.underlying50 elt29 rfl rfl rfl (rl144.sl hp) hc150.1 hc150.2 tk
       clear hf; intro a hf
       refine dr_takeK 7 (.float .f64 bb152) rfl hf rfl (fun w ⟨_, hp⟩ => ?_) ⟨_, hp⟩ ?_
       · exact st_ldP hf (by decide) pl29 rfl rfl (hl151 _ _ hp) tk
       clear hf; intro a hf
       refine dr_takeK 8 (.bool (fne (gt ux23 k27) (gt q94.1 k27))) rfl hf rfl (fun w ⟨_, hp⟩ => ?_) ⟨_, hp⟩ ?_
       · exact st_fcmp (r_fne (fx := (gt ux23 k27)) (fy := (gt q94.1 k27)) y149 y153) hf (by decide) rfl rfl rfl tk
       clear hf; intro a hf
       refine dr_end (by kernel_rfl) ?_ _
       have hp := bk142 _ _ hp
       have hp := bk137 _ _ hp
       exact ⟨hf.sub ⟨rfl, rfl, rfl, rfl, rfl, rfl, rfl, rfl, rfl, rfl, rfl, rfl, rfl, trivial⟩, hp⟩
      rintro a w ⟨hf, hp⟩
      refine th_n ?_
      refine wp_if hf rfl (fun hb => ?_) (fun hb => ?_)
      ·
       replace h := ifT h hb
       refine wp_seq ?_
       refine wp_reg ?_
       refine st_assign hf rfl rfl (by decide) ?_
       clear hf; intro a ha hf; clear ha
       refine st_nil hf ?_
       refine th_n ?_
       refine wp_ret ?_
       refine th_r ?_
       refine ib_r ?_
       refine th_r ?_
       obtain rfl := Option.some.inj h
       have hp : Hp _ _ _ (ow) := Hp.sel (pre := [Res.sl Ek.f64 29 v129 ux23, Res.sl Ek.f64 29 v101 q94.1, Res.obj 24 v1 [.int .i64 cx2c_0, .int .u32 cx2c_1, .int .u32 cx2c_2], Res.slx (Ek.pair Ek.c128 Ek.bool) 35 v10 xx5 q5.2, Res.sl Ek.bool 4 v19 q12.1, Res.sl Ek.bool 4 v34 q27.1, Res.sl Ek.bool 4 v47 q40.1, Res.sl Ek.f64 29 v123 q116.1]) (tail := ow) (rs' := []) hp [] (by decide) (by simp) rfl
       exact rnd_r (by simp) ⟨rfl, ⟨hf.sub ⟨rfl, trivial⟩, hp⟩⟩
      replace h := ifF h hb
      refine wp_skip ?_
      refine th_n ?_
      refine wp_seq ?_
      refine wp_reg ?_
      refine st_move hf rfl rfl (by decide) ?_
      clear hf; intro a ha hf; clear ha
      refine st_move hf rfl rfl (by decide) ?_
      clear hf; intro a ha hf; clear ha
      obtain ⟨hc154, h⟩ := chk h
      refine st_index (E := Ek.f64) hf (by decide) Try.underlying50 elt29 rfl rfl rfl (hp.sl (i := 0) rfl) hc154.1 hc154.2 ?_
      clear hf; intro a ha hf; clear ha
      refine st_store (E := Ek.f64) hf elt29 hp (i := 0) rfl rfl rfl rfl (show Ek.f64.rep [.float .f64 4632937379169042432] (Fl.bits 4632937379169042432) from ⟨_, rfl, rfl⟩) hc154.1 hc154.2 ?_
      clear hf; intro a w hf hp0; clear hp; have hp := hp0; clear hp0
      replace hp : Hp _ _ _ (Res.sl Ek.f64 29 v129 (ux23.set (k27).toNat (Fl.bits 4632937379169042432)) :: _ :: _ :: _ :: _ :: _ :: _ :: _ :: ow) := hp
      refine st_nil hf ?_
      refine th_n ?_
      refine wp_seq ?_
      obtain ⟨S155, hp156, rd157, up158, bk159⟩ := Hp.lendS hp (i := 7) rfl
      obtain ⟨S160, hp161, rd162, up163, bk164⟩ := Hp.lendS hp156 (i := 1) rfl
      have rl165 := ((((y4.now hp).mono up158).now hp156).mono up163)
      have rl166 := rd162
      have rl167 := ((rd157.now hp156).mono up163)
      obtain ⟨hc168, h⟩ := chk h
      obtain ⟨bb170, y171, hl169⟩ := RdS.pinF (p := k27) rl167 hc168.1 hc168.2
      obtain ⟨hc172, h⟩ := chk h
      obtain ⟨bb174, y175, hl173⟩ := RdS.pinF (p := k27) rl166 hc172.1 hc172.2
      refine wp_cutN (fun a w => Fr 259 a [(1, v3), (2, optr v1 0), (5, v10), (6, .int .i64 (l1.length : Int)), (7, .int .i64 round7), (8, v19), (13, v34), (16, v47), (21, v101), (23, v129), (25, v123), (27, .int .i64 k27), (185, .bool (fne (gt q116.1 k27) (gt q94.1 k27)))] ∧ Hp S w0 w (Res.sl Ek.f64 29 v123 q116.1 :: Res.sl Ek.f64 29 v101 q94.1 :: Res.sl Ek.f64 29 v129 (ux23.set (k27).toNat (Fl.bits 4632937379169042432)) :: Res.obj 24 v1 [.int .i64 cx2c_0, .int .u32 cx2c_1, .int .u32 cx2c_2] :: Res.slx (Ek.pair Ek.c128 Ek.bool) 35 v10 xx5 q5.2 :: Res.sl Ek.bool 4 v19 q12.1 :: Res.sl Ek.bool 4 v34 q27.1 :: Res.sl Ek.bool 4 v47 q40.1 :: ow)) ?_ ?_
      ·
       have hp := hp161.same (Same.drew w)
       refine dr_begin' _ (fun w' => ∃ l, Hp S160 w w' l) [] (by kernel_rfl) ?_
       refine dr_takeK 0 (v123) rfl hf rfl (fun w ⟨_, hp⟩ => ?_) ⟨_, hp⟩ ?_
       · exact st_move hf rfl rfl (by decide) tk
       clear hf; intro a hf
       refine dr_takeK 1 (.int .i64 k27) rfl hf rfl (fun w ⟨_, hp⟩ => ?_) ⟨_, hp⟩ ?_
       · exact st_move hf rfl rfl (by decide) tk
       clear hf; intro a hf
       refine dr_takeK 2 (eptr v123 k27 1) rfl hf rfl (fun w ⟨_, hp⟩ => ?_) ⟨_, hp⟩ ?_
       · exact st_index (E := Ek.f64) hf (by decide) Try.underlying50 elt29 rfl rfl rfl (rl167.sl hp) hc168.1 hc168.2 tk
       clear hf; intro a hf
       refine dr_takeK 3 (.float .f64 bb170) rfl hf rfl (fun w ⟨_, hp⟩ => ?_) ⟨_, hp⟩ ?_
       · exact st_ldP hf (by decide) pl29 rfl rfl (hl169 _ _ hp) tk
       clear hf; intro a hf
       refine dr_takeK 4 (v101) rfl hf rfl (fun w ⟨_, hp⟩ => ?_) ⟨_, hp⟩ ?_
       · exact st_move hf rfl rfl (by decide) tk
       clear hf; intro a hf
       refine dr_takeK 5 (.int .i64 k27) rfl hf rfl (fun w ⟨_, hp⟩ => ?_) ⟨_, hp⟩ ?_
       · exact st_move hf rfl rfl (by decide) tk
       clear hf; intro a hf
       refine dr_takeK 6 (eptr v101 k27 1) rfl hf rfl (fun w ⟨_, hp⟩ => ?_) ⟨_, hp⟩ ?_
       · exact st_index (E := Ek.f64) hf (by decide) Try.underlying50 elt29 rfl rfl rfl (rl166.sl hp) hc172.1 hc172.2 tk
       clear hf; intro a hf
       refine dr_takeK 7 (.float .f64 bb174) rfl hf rfl (fun w ⟨_, hp⟩ => ?_) ⟨_, hp⟩ ?_
       · exact st_ldP hf (by decide) pl29 rfl rfl (hl173 _ _ hp) tk
       clear hf; intro a hf
       refine dr_takeK 8 (.bool (fne (gt q116.1 k27) (gt q94.1 k27))) rfl hf rfl (fun w ⟨_, hp⟩ => ?_) ⟨_, hp⟩ ?_
       · exact st_fcmp (r_fne (fx := (gt q116.1 k27)) (fy := (gt q94.1 k27)) y171 y175) hf (by decide) rfl rfl rfl tk
       clear hf; intro a hf
       refine dr_end (by kernel_rfl) ?_ _
       have hp := bk164 _ _ hp
       have hp := bk159 _ _ hp
       exact ⟨hf.sub ⟨rfl, rfl, rfl, rfl, rfl, rfl, rfl, rfl, rfl, rfl, rfl, rfl, rfl, trivial⟩, hp⟩
      rintro a w ⟨hf, hp⟩
      refine th_n ?_
      refine wp_if hf rfl (fun hb => ?_) (fun hb => ?_)
      ·
       replace h := ifT h hb
       refine wp_seq ?_
       refine wp_reg ?_
       refine st_assign hf rfl rfl (by decide) ?_
       clear hf; intro a ha hf; clear ha
       refine st_nil hf ?_
       refine th_n ?_
       refine wp_ret ?_
       refine ib_r ?_
       refine th_r ?_
       obtain rfl := Option.some.inj h
       have hp : Hp _ _ _ (ow) := Hp.sel (pre := [Res.sl Ek.f64 29 v123 q116.1, Res.sl Ek.f64 29 v101 q94.1, Res.sl Ek.f64 29 v129 (ux23.set (k27).toNat (Fl.bits 4632937379169042432)), Res.obj 24 v1 [.int .i64 cx2c_0, .int .u32 cx2c_1, .int .u32 cx2c_2], Res.slx (Ek.pair Ek.c128 Ek.bool) 35 v10 xx5 q5.2, Res.sl Ek.bool 4 v19 q12.1, Res.sl Ek.bool 4 v34 q27.1, Res.sl Ek.bool 4 v47 q40.1]) (tail := ow) (rs' := []) hp [] (by decide) (by simp) rfl
       exact rnd_r (by simp) ⟨rfl, ⟨hf.sub ⟨rfl, trivial⟩, hp⟩⟩
      replace h := ifF h hb
      refine wp_skip ?_
      refine ib_n ?_
      refine th_n ?_
      refine wp_reg ?_
      refine st_move hf rfl rfl (by decide) ?_
      clear hf; intro a ha hf; clear ha
      refine st_iadd hf (by decide) rfl rfl rfl ?_
      clear hf; intro a ha hf; clear ha
      refine st_assign hf rfl rfl (by decide) ?_
      clear hf; intro a ha hf; clear ha
      refine st_nil hf ?_
      obtain rfl := Option.some.inj h
      have hp : Hp _ _ _ (_ :: _ :: _ :: _ :: _ :: _ :: _ :: _ :: ow) := Hp.sel (pre := [Res.sl Ek.f64 29 v123 q116.1, Res.sl Ek.f64 29 v101 q94.1, Res.sl Ek.f64 29 v129 (ux23.set (k27).toNat (Fl.bits 4632937379169042432)), Res.obj 24 v1 [.int .i64 cx2c_0, .int .u32 cx2c_1, .int .u32 cx2c_2], Res.slx (Ek.pair Ek.c128 Ek.bool) 35 v10 xx5 q5.2, Res.sl Ek.bool 4 v19 q12.1, Res.sl Ek.bool 4 v34 q27.1, Res.sl Ek.bool 4 v47 q40.1]) (tail := ow) (rs' := [Res.sl Ek.f64 29 v129 (ux23.set (k27).toNat (Fl.bits 4632937379169042432)), Res.obj 24 v1 [.int .i64 cx2c_0, .int .u32 cx2c_1, .int .u32 cx2c_2], Res.slx (Ek.pair Ek.c128 Ek.bool) 35 v10 xx5 q5.2, Res.sl Ek.bool 4 v19 q12.1, Res.sl Ek.bool 4 v34 q27.1, Res.sl Ek.bool 4 v47 q40.1, Res.sl Ek.f64 29 v101 q94.1, Res.sl Ek.f64 29 v123 q116.1]) hp [2, 3, 4, 5, 6, 7, 1, 0] (by decide) (by simp) rfl
      exact rnd_l ⟨_, hf.sub ⟨rfl, rfl, rfl, rfl, rfl, rfl, rfl, rfl, rfl, rfl, rfl, rfl, trivial⟩, hp⟩
     replace h := ifF h hb
     refine wp_exit ?_
     refine th_e ?_
     obtain rfl := Option.some.inj h
     have hp : Hp _ _ _ (Res.sl Ek.f64 29 v129 ux23 :: _ :: _ :: _ :: _ :: _ :: ow) := Hp.sel (pre := [Res.sl Ek.f64 29 v129 ux23, Res.obj 24 v1 [.int .i64 cx2c_0, .int .u32 cx2c_1, .int .u32 cx2c_2], Res.slx (Ek.pair Ek.c128 Ek.bool) 35 v10 xx5 q5.2, Res.sl Ek.bool 4 v19 q12.1, Res.sl Ek.bool 4 v34 q27.1, Res.sl Ek.bool 4 v47 q40.1, Res.sl Ek.f64 29 v101 q94.1, Res.sl Ek.f64 29 v123 q116.1]) (tail := ow) (rs' := [Res.sl Ek.f64 29 v129 ux23, Res.obj 24 v1 [.int .i64 cx2c_0, .int .u32 cx2c_1, .int .u32 cx2c_2], Res.slx (Ek.pair Ek.c128 Ek.bool) 35 v10 xx5 q5.2, Res.sl Ek.bool 4 v19 q12.1, Res.sl Ek.bool 4 v34 q27.1, Res.sl Ek.bool 4 v47 q40.1]) hp [0, 1, 2, 3, 4, 5] (by decide) (by simp) rfl
     exact rnd_r (by simp) ⟨rfl, _, hf.sub ⟨rfl, rfl, rfl, rfl, rfl, rfl, rfl, rfl, rfl, trivial⟩, hp⟩
    clear hl hf hp
    intro e a w hne hO
    rcases q176 with q177 | q178
    ·
     replace h := smL h
     obtain ⟨rfl, v131, hf, hp⟩ := hO
     refine ib_same ?_
     refine th_n ?_
     refine wp_seq ?_
     refine wp_seq ?_
     refine wp_reg ?_
     refine st_assign hf rfl rfl (by decide) ?_
     clear hf; intro a ha hf; clear ha
     refine st_nil hf ?_
     refine th_n ?_
     refine wp_block ?_
     obtain ⟨q185, hl, h⟩ := bnd h
     have hp : Hp _ _ _ (_ :: _ :: _ :: _ :: _ :: Res.sl Ek.f64 29 v131 q177 :: ow) := Hp.sel (pre := [Res.sl Ek.f64 29 v131 q177, Res.obj 24 v1 [.int .i64 cx2c_0, .int .u32 cx2c_1, .int .u32 cx2c_2], Res.slx (Ek.pair Ek.c128 Ek.bool) 35 v10 xx5 q5.2, Res.sl Ek.bool 4 v19 q12.1, Res.sl Ek.bool 4 v34 q27.1, Res.sl Ek.bool 4 v47 q40.1]) (tail := ow) (rs' := [Res.sl Ek.bool 4 v34 q27.1, Res.obj 24 v1 [.int .i64 cx2c_0, .int .u32 cx2c_1, .int .u32 cx2c_2], Res.slx (Ek.pair Ek.c128 Ek.bool) 35 v10 xx5 q5.2, Res.sl Ek.bool 4 v19 q12.1, Res.sl Ek.bool 4 v47 q40.1, Res.sl Ek.f64 29 v131 q177]) hp [4, 1, 2, 3, 5, 0] (by decide) (by simp) rfl
     refine wp_loop_pure (f := f_foghornlaw23_SoftDecides.s3) (s := (q27.1, (0 : Int))) (fun s a w => ∃ (v179 : Value), Fr 259 a [(1, v3), (2, optr v1 0), (5, v10), (6, .int .i64 (l1.length : Int)), (7, .int .i64 round7), (8, v19), (13, v179), (16, v47), (23, v131), (28, .int .i64 s.2)] ∧ Hp S w0 w (Res.sl Ek.bool 4 v179 s.1 :: Res.obj 24 v1 [.int .i64 cx2c_0, .int .u32 cx2c_1, .int .u32 cx2c_2] :: Res.slx (Ek.pair Ek.c128 Ek.bool) 35 v10 xx5 q5.2 :: Res.sl Ek.bool 4 v19 q12.1 :: Res.sl Ek.bool 4 v47 q40.1 :: Res.sl Ek.f64 29 v131 q177 :: ow)) (fun q e a w => e = .exit 5 ∧ ∃ (v181 : Value), Fr 259 a [(1, v3), (2, optr v1 0), (5, v10), (6, .int .i64 (l1.length : Int)), (7, .int .i64 round7), (8, v19), (13, v181), (16, v47), (23, v131)] ∧ Hp S w0 w (Res.sl Ek.bool 4 v181 q :: Res.obj 24 v1 [.int .i64 cx2c_0, .int .u32 cx2c_1, .int .u32 cx2c_2] :: Res.slx (Ek.pair Ek.c128 Ek.bool) 35 v10 xx5 q5.2 :: Res.sl Ek.bool 4 v19 q12.1 :: Res.sl Ek.bool 4 v47 q40.1 :: Res.sl Ek.f64 29 v131 q177 :: ow)) ?_ hl ⟨_, hf.sub ⟨rfl, rfl, rfl, rfl, rfl, rfl, rfl, rfl, rfl, rfl, trivial⟩, hp⟩ ?_
     ·
      clear hl hf hp
      intro s x a w h hI
      obtain ⟨ax13, k28⟩ := s
      obtain ⟨v179, hf, hp⟩ : ∃ (v179 : Value), Fr 259 a [(1, v3), (2, optr v1 0), (5, v10), (6, .int .i64 (l1.length : Int)), (7, .int .i64 round7), (8, v19), (13, v179), (16, v47), (23, v131), (28, .int .i64 k28)] ∧ Hp S w0 w (Res.sl Ek.bool 4 v179 ax13 :: Res.obj 24 v1 [.int .i64 cx2c_0, .int .u32 cx2c_1, .int .u32 cx2c_2] :: Res.slx (Ek.pair Ek.c128 Ek.bool) 35 v10 xx5 q5.2 :: Res.sl Ek.bool 4 v19 q12.1 :: Res.sl Ek.bool 4 v47 q40.1 :: Res.sl Ek.f64 29 v131 q177 :: ow) := hI
      replace h : f_foghornlaw23_SoftDecides.s3c ax13 k28 = some x := h
      unfold f_foghornlaw23_SoftDecides.s3c at h
      refine wp_seq ?_
      refine wp_seq ?_
      refine wp_reg ?_
      refine st_move hf rfl rfl (by decide) ?_
      clear hf; intro a ha hf; clear ha
      refine st_move hf rfl rfl (by decide) ?_
      clear hf; intro a ha hf; clear ha
      refine st_len (E := Ek.bool) hf (by decide) Try.underlying25 rfl rfl (hp.sl (i := 0) rfl) ?_
      clear hf; intro a ha hf; clear ha
      refine st_ilss hf (by decide) rfl rfl rfl ?_
      clear hf; intro a ha hf; clear ha
      refine st_nil hf ?_
      refine th_n ?_
      refine wp_if hf rfl (fun hb => ?_) (fun hb => ?_)
      ·
       replace h := ifT h hb
       refine wp_skip ?_
       refine th_n ?_
       refine wp_seq ?_
       refine wp_block ?_
       refine wp_reg ?_
       refine st_move hf rfl rfl (by decide) ?_
       clear hf; intro a ha hf; clear ha
       refine st_move hf rfl rfl (by decide) ?_
       clear hf; intro a ha hf; clear ha
       refine st_move hf rfl rfl (by decide) ?_
       clear hf; intro a ha hf; clear ha
       refine st_move hf rfl rfl (by decide) ?_
       clear hf; intro a ha hf; clear ha
       obtain ⟨hc183, h⟩ := chk h
       refine st_index (E := Ek.bool) hf (by decide) Try.underlying25 elt4 rfl rfl rfl (hp.sl (i := 0) rfl) hc183.1 hc183.2 ?_
       clear hf; intro a ha hf; clear ha
       refine st_ldB hf (by decide) pl4 rfl rfl (hp.sl (i := 0) rfl) hc183.1 hc183.2 ?_
       clear hf; intro a ha hf; clear ha
       refine st_not hf (by decide) rfl rfl ?_
       clear hf; intro a ha hf; clear ha
       obtain ⟨hc184, h⟩ := chk h
       refine st_index (E := Ek.bool) hf (by decide) Try.underlying25 elt4 rfl rfl rfl (hp.sl (i := 0) rfl) hc184.1 hc184.2 ?_
       clear hf; intro a ha hf; clear ha
       refine st_store (E := Ek.bool) hf elt4 hp (i := 0) rfl rfl rfl rfl rfl hc184.1 hc184.2 ?_
       clear hf; intro a w hf hp0; clear hp; have hp := hp0; clear hp0
       replace hp : Hp _ _ _ (Res.sl Ek.bool 4 v179 (ax13.set (k28).toNat (!(gt ax13 k28))) :: _ :: _ :: _ :: _ :: _ :: ow) := hp
       refine st_nil hf ?_
       refine ib_n ?_
       refine th_n ?_
       refine wp_reg ?_
       refine st_move hf rfl rfl (by decide) ?_
       clear hf; intro a ha hf; clear ha
       refine st_iadd hf (by decide) rfl rfl rfl ?_
       clear hf; intro a ha hf; clear ha
       refine st_assign hf rfl rfl (by decide) ?_
       clear hf; intro a ha hf; clear ha
       refine st_nil hf ?_
       obtain rfl := Option.some.inj h
       exact rnd_l ⟨_, hf.sub ⟨rfl, rfl, rfl, rfl, rfl, rfl, rfl, rfl, rfl, rfl, trivial⟩, hp⟩
      replace h := ifF h hb
      refine wp_exit ?_
      refine th_e ?_
      obtain rfl := Option.some.inj h
      exact rnd_r (by simp) ⟨rfl, _, hf.sub ⟨rfl, rfl, rfl, rfl, rfl, rfl, rfl, rfl, rfl, trivial⟩, hp⟩
     clear hl hf hp
     intro e a w hne hO
     obtain ⟨rfl, v181, hf, hp⟩ := hO
     refine ib_same ?_
     refine th_n ?_
     refine wp_seq ?_
     refine wp_seq ?_
     refine wp_reg ?_
     refine st_assign hf rfl rfl (by decide) ?_
     clear hf; intro a ha hf; clear ha
     refine st_nil hf ?_
     refine th_n ?_
     refine wp_block ?_
     obtain ⟨q198, hl, h⟩ := bnd h
     have hp : Hp _ _ _ (Res.sl Ek.bool 4 v181 q185 :: _ :: _ :: _ :: _ :: _ :: ow) := Hp.sel (pre := [Res.sl Ek.bool 4 v181 q185, Res.obj 24 v1 [.int .i64 cx2c_0, .int .u32 cx2c_1, .int .u32 cx2c_2], Res.slx (Ek.pair Ek.c128 Ek.bool) 35 v10 xx5 q5.2, Res.sl Ek.bool 4 v19 q12.1, Res.sl Ek.bool 4 v47 q40.1, Res.sl Ek.f64 29 v131 q177]) (tail := ow) (rs' := [Res.sl Ek.bool 4 v181 q185, Res.sl Ek.f64 29 v131 q177, Res.obj 24 v1 [.int .i64 cx2c_0, .int .u32 cx2c_1, .int .u32 cx2c_2], Res.slx (Ek.pair Ek.c128 Ek.bool) 35 v10 xx5 q5.2, Res.sl Ek.bool 4 v19 q12.1, Res.sl Ek.bool 4 v47 q40.1]) hp [0, 5, 1, 2, 3, 4] (by decide) (by simp) rfl
     refine wp_loop_pure (f := f_foghornlaw23_SoftDecides.s4) (s := (q185, q177, (0 : Int))) (fun s a w => ∃ (v186 : Value) (v188 : Value), Fr 259 a [(1, v3), (2, optr v1 0), (5, v10), (6, .int .i64 (l1.length : Int)), (7, .int .i64 round7), (8, v19), (13, v186), (16, v47), (23, v188), (29, .int .i64 s.2.2)] ∧ Hp S w0 w (Res.sl Ek.bool 4 v186 s.1 :: Res.sl Ek.f64 29 v188 s.2.1 :: Res.obj 24 v1 [.int .i64 cx2c_0, .int .u32 cx2c_1, .int .u32 cx2c_2] :: Res.slx (Ek.pair Ek.c128 Ek.bool) 35 v10 xx5 q5.2 :: Res.sl Ek.bool 4 v19 q12.1 :: Res.sl Ek.bool 4 v47 q40.1 :: ow)) (fun q e a w => e = .exit 7 ∧ Fr 259 a [(1, v3), (2, optr v1 0), (5, v10), (6, .int .i64 (l1.length : Int)), (7, .int .i64 round7), (8, v19), (16, v47)] ∧ Hp S w0 w (Res.obj 24 v1 [.int .i64 cx2c_0, .int .u32 cx2c_1, .int .u32 cx2c_2] :: Res.slx (Ek.pair Ek.c128 Ek.bool) 35 v10 xx5 q5.2 :: Res.sl Ek.bool 4 v19 q12.1 :: Res.sl Ek.bool 4 v47 q40.1 :: ow)) ?_ hl ⟨_, _, hf.sub ⟨rfl, rfl, rfl, rfl, rfl, rfl, rfl, rfl, rfl, rfl, trivial⟩, hp⟩ ?_
     ·
      clear hl hf hp
      intro s x a w h hI
      obtain ⟨ax13, ux23, k29⟩ := s
      obtain ⟨v186, v188, hf, hp⟩ : ∃ (v186 : Value) (v188 : Value), Fr 259 a [(1, v3), (2, optr v1 0), (5, v10), (6, .int .i64 (l1.length : Int)), (7, .int .i64 round7), (8, v19), (13, v186), (16, v47), (23, v188), (29, .int .i64 k29)] ∧ Hp S w0 w (Res.sl Ek.bool 4 v186 ax13 :: Res.sl Ek.f64 29 v188 ux23 :: Res.obj 24 v1 [.int .i64 cx2c_0, .int .u32 cx2c_1, .int .u32 cx2c_2] :: Res.slx (Ek.pair Ek.c128 Ek.bool) 35 v10 xx5 q5.2 :: Res.sl Ek.bool 4 v19 q12.1 :: Res.sl Ek.bool 4 v47 q40.1 :: ow) := hI
      replace h : f_foghornlaw23_SoftDecides.s4c ax13 ux23 k29 = some x := h
      unfold f_foghornlaw23_SoftDecides.s4c at h
      refine wp_seq ?_
      refine wp_seq ?_
      refine wp_reg ?_
      refine st_move hf rfl rfl (by decide) ?_
      clear hf; intro a ha hf; clear ha
      refine st_ilss hf (by decide) rfl rfl rfl ?_
      clear hf; intro a ha hf; clear ha
      refine st_nil hf ?_
      refine th_n ?_
      refine wp_if hf rfl (fun hb => ?_) (fun hb => ?_)
      ·
       replace h := ifT h hb
       refine wp_skip ?_
       refine th_n ?_
       refine wp_seq ?_
       refine wp_block ?_
       refine wp_seq ?_
       refine wp_reg ?_
       refine st_move hf rfl rfl (by decide) ?_
       clear hf; intro a ha hf; clear ha
       refine st_build (E := Ek.bool) (xs := [true]) hf (by decide) elt4 Try.underlying25 hp (vals := #[(0, .bool true)]) (cells := #[.bool true]) rfl (by simp [hf.ev (x := (Operand.const (.bool true))) rfl]) (Nat.le_of_ble_eq_true rfl) (Nat.le_of_ble_eq_true rfl) (z := .bool false) (by kernel_rfl) (by kernel_rfl) rfl (reps_cons (cs := [.bool true]) rfl (reps_nil _)) ?_
       clear hf; intro a w v190 hf hp0; clear hp; have hp := hp0; clear hp0
       replace hp : Hp _ _ _ (Res.sl Ek.bool 4 v190 ([true]) :: Res.sl Ek.bool 4 v186 ax13 :: Res.sl Ek.f64 29 v188 ux23 :: _ :: _ :: _ :: _ :: ow) := hp
       obtain ⟨hc192, h⟩ := chk h
       refine st_append (E := Ek.bool) hf (by decide) elt4 Try.underlying25 (by decide) hp (i := 1) rfl rfl rfl rfl (hp.sl (i := 0) rfl) hc192 ?_
       clear hf; intro a w v193 hf hp0; clear hp; have hp := hp0; clear hp0
       replace hp : Hp _ _ _ (_ :: Res.sl Ek.bool 4 v193 (ax13 ++ [true]) :: _ :: _ :: _ :: _ :: _ :: ow) := hp
       refine st_assign hf rfl rfl (by decide) ?_
       clear hf; intro a ha hf; clear ha
       refine st_nil hf ?_
       refine th_n ?_
       refine wp_reg ?_
       refine st_move hf rfl rfl (by decide) ?_
       clear hf; intro a ha hf; clear ha
       refine st_build (E := Ek.f64) (xs := [(Fl.bits 4634344754052595712)]) hf (by decide) elt29 Try.underlying50 hp (vals := #[(0, .float .f64 4634344754052595712)]) (cells := #[.float .f64 4634344754052595712]) rfl (by simp [hf.ev (x := (Operand.const (.float .f64 4634344754052595712))) rfl]) (Nat.le_of_ble_eq_true rfl) (Nat.le_of_ble_eq_true rfl) (z := .float .f64 0) (by kernel_rfl) (by kernel_rfl) rfl (reps_cons (cs := [.float .f64 4634344754052595712]) (show Ek.f64.rep [.float .f64 4634344754052595712] (Fl.bits 4634344754052595712) from ⟨_, rfl, rfl⟩) (reps_nil _)) ?_
       clear hf; intro a w v194 hf hp0; clear hp; have hp := hp0; clear hp0
       replace hp : Hp _ _ _ (Res.sl Ek.f64 29 v194 ([(Fl.bits 4634344754052595712)]) :: _ :: _ :: _ :: _ :: _ :: _ :: _ :: ow) := hp
       obtain ⟨hc196, h⟩ := chk h
       refine st_append (E := Ek.f64) hf (by decide) elt29 Try.underlying50 (by decide) hp (i := 3) rfl rfl rfl rfl (hp.sl (i := 0) rfl) hc196 ?_
       clear hf; intro a w v197 hf hp0; clear hp; have hp := hp0; clear hp0
       replace hp : Hp _ _ _ (_ :: _ :: _ :: Res.sl Ek.f64 29 v197 (ux23 ++ [(Fl.bits 4634344754052595712)]) :: _ :: _ :: _ :: _ :: ow) := hp
       refine st_assign hf rfl rfl (by decide) ?_
       clear hf; intro a ha hf; clear ha
       refine st_nil hf ?_
       refine ib_n ?_
       refine th_n ?_
       refine wp_reg ?_
       refine st_move hf rfl rfl (by decide) ?_
       clear hf; intro a ha hf; clear ha
       refine st_iadd hf (by decide) rfl rfl rfl ?_
       clear hf; intro a ha hf; clear ha
       refine st_assign hf rfl rfl (by decide) ?_
       clear hf; intro a ha hf; clear ha
       refine st_nil hf ?_
       obtain rfl := Option.some.inj h
       have hp : Hp _ _ _ (_ :: _ :: _ :: _ :: _ :: _ :: ow) := Hp.sel (pre := [Res.sl Ek.f64 29 v194 ([(Fl.bits 4634344754052595712)]), Res.sl Ek.bool 4 v190 ([true]), Res.sl Ek.bool 4 v193 (ax13 ++ [true]), Res.sl Ek.f64 29 v197 (ux23 ++ [(Fl.bits 4634344754052595712)]), Res.obj 24 v1 [.int .i64 cx2c_0, .int .u32 cx2c_1, .int .u32 cx2c_2], Res.slx (Ek.pair Ek.c128 Ek.bool) 35 v10 xx5 q5.2, Res.sl Ek.bool 4 v19 q12.1, Res.sl Ek.bool 4 v47 q40.1]) (tail := ow) (rs' := [Res.sl Ek.bool 4 v193 (ax13 ++ [true]), Res.sl Ek.f64 29 v197 (ux23 ++ [(Fl.bits 4634344754052595712)]), Res.obj 24 v1 [.int .i64 cx2c_0, .int .u32 cx2c_1, .int .u32 cx2c_2], Res.slx (Ek.pair Ek.c128 Ek.bool) 35 v10 xx5 q5.2, Res.sl Ek.bool 4 v19 q12.1, Res.sl Ek.bool 4 v47 q40.1]) hp [2, 3, 4, 5, 6, 7] (by decide) (by simp) rfl
       exact rnd_l ⟨_, _, hf.sub ⟨rfl, rfl, rfl, rfl, rfl, rfl, rfl, rfl, rfl, rfl, trivial⟩, hp⟩
      replace h := ifF h hb
      refine wp_exit ?_
      refine th_e ?_
      obtain rfl := Option.some.inj h
      have hp : Hp _ _ _ (_ :: _ :: _ :: _ :: ow) := Hp.sel (pre := [Res.sl Ek.bool 4 v186 ax13, Res.sl Ek.f64 29 v188 ux23, Res.obj 24 v1 [.int .i64 cx2c_0, .int .u32 cx2c_1, .int .u32 cx2c_2], Res.slx (Ek.pair Ek.c128 Ek.bool) 35 v10 xx5 q5.2, Res.sl Ek.bool 4 v19 q12.1, Res.sl Ek.bool 4 v47 q40.1]) (tail := ow) (rs' := [Res.obj 24 v1 [.int .i64 cx2c_0, .int .u32 cx2c_1, .int .u32 cx2c_2], Res.slx (Ek.pair Ek.c128 Ek.bool) 35 v10 xx5 q5.2, Res.sl Ek.bool 4 v19 q12.1, Res.sl Ek.bool 4 v47 q40.1]) hp [2, 3, 4, 5] (by decide) (by simp) rfl
      exact rnd_r (by simp) ⟨rfl, hf.sub ⟨rfl, rfl, rfl, rfl, rfl, rfl, rfl, trivial⟩, hp⟩
     clear hl hf hp
     intro e a w hne hO
     obtain ⟨rfl, hf, hp⟩ := hO
     refine ib_same ?_
     refine th_n ?_
     refine wp_seq ?_
     refine wp_seq ?_
     refine wp_reg ?_
     refine st_move hf rfl rfl (by decide) ?_
     clear hf; intro a ha hf; clear ha
     refine st_move hf rfl rfl (by decide) ?_
     clear hf; intro a ha hf; clear ha
     obtain ⟨q199, hcall200, h⟩ := bnd h
     obtain ⟨S201, hp202, rd203, up204, bk205⟩ := Hp.lendS hp (i := 3) rfl
     obtain ⟨S206, hp207, rd208, up209, bk210⟩ := Hp.lendS hp202 (i := 2) rfl
     refine st_call hf (by decide) Try.func19 rfl rfl rfl rfl rfl (f_foghornref21_Same_c hp207 _ _ ((rd203.now hp202).mono up209) _ _ rd208 hcall200) ?_
     rintro _ w ⟨rfl, hp0⟩
     have hp0 := bk210 _ _ hp0
     have hp0 := bk205 _ _ hp0
     clear hp; have hp := hp0; clear hp0
     replace hp : Hp _ _ _ (_ :: _ :: _ :: _ :: ow) := hp
     refine ⟨_, rfl, ?_⟩
     clear hf; intro a hf
     refine st_not hf (by decide) rfl rfl ?_
     clear hf; intro a ha hf; clear ha
     refine st_move hf rfl rfl (by decide) ?_
     clear hf; intro a ha hf; clear ha
     obtain ⟨z213, hz211, h⟩ := bnd h
     refine wpList_cut 10 (fun a w => Fr 259 a [(1, v3), (2, optr v1 0), (5, v10), (6, .int .i64 (l1.length : Int)), (7, .int .i64 round7), (224, .bool z213)] ∧ Hp S w0 w (Res.sl Ek.bool 4 v47 q40.1 :: Res.sl Ek.bool 4 v19 q12.1 :: Res.obj 24 v1 [.int .i64 cx2c_0, .int .u32 cx2c_1, .int .u32 cx2c_2] :: Res.slx (Ek.pair Ek.c128 Ek.bool) 35 v10 xx5 q5.2 :: ow)) ?_ ?_
     ·
      rcases Bool.eq_false_or_eq_true (!q199) with hb212 | hb212
      ·
       replace hz211 := ifT hz211 hb212
       refine st_skip hf (wantN hf rfl rfl hb212) rfl (by decide) ?_ rfl
       clear hf; intro a hf
       refine st_skip hf (wantN hf rfl rfl hb212) rfl (by decide) ?_ rfl
       clear hf; intro a hf
       refine st_skip hf (wantN hf rfl rfl hb212) rfl (by decide) ?_ rfl
       clear hf; intro a hf
       refine st_skip hf (wantN hf rfl rfl hb212) rfl (by decide) ?_ rfl
       clear hf; intro a hf
       refine st_skip hf (wantN hf rfl rfl hb212) rfl (by decide) ?_ rfl
       clear hf; intro a hf
       refine st_skip hf (wantN hf rfl rfl hb212) rfl (by decide) ?_ rfl
       clear hf; intro a hf
       refine st_skip hf (wantN hf rfl rfl hb212) rfl (by decide) ?_ rfl
       clear hf; intro a hf
       refine st_skip hf (wantN hf rfl rfl hb212) rfl (by decide) ?_ rfl
       clear hf; intro a hf
       refine st_skip hf (wantN hf rfl rfl hb212) rfl (by decide) ?_ rfl
       clear hf; intro a hf
       obtain rfl := Option.some.inj hz211
       refine st_pick (v := .bool true) hf rfl rfl (fun hb' => ?_) (fun hb' => ?_) (by decide) ?_
       · rfl
       · exact absurd (hb212.symm.trans hb') (by decide)
       clear hf; intro a ha hf; clear ha
       refine st_nil hf (th_n ?_)
       exact ⟨hf.sub ⟨rfl, rfl, rfl, rfl, rfl, rfl, trivial⟩, hp⟩
      replace hz211 := ifF hz211 hb212
      refine st_move hf (wantY hf rfl rfl hb212) rfl (by decide) ?_
      clear hf; intro a ha hf; clear ha
      refine st_move hf (wantY hf rfl rfl hb212) rfl (by decide) ?_
      clear hf; intro a ha hf; clear ha
      refine st_iadd hf (by decide) (wantY hf rfl rfl hb212) rfl rfl ?_
      clear hf; intro a ha hf; clear ha
      obtain ⟨hc214, hz211⟩ := chk hz211
      have hc215 : 0 ≤ ((IntKind.i64.wrap ((l1.length : Int) + (1 : Int)))).toNat := by omega
      have hc216 : ((IntKind.i64.wrap ((l1.length : Int) + (1 : Int)))).toNat ≤ (xx5 ++ q5.2).length := by omega
      refine st_cutX (E := (Ek.pair Ek.c128 Ek.bool)) hf (by decide) Try.underlying27 elt35 hp (i := 3) rfl (wantY hf rfl rfl hb212) rfl (.inl ⟨rfl, rfl⟩) (.inr ⟨_, _, rfl, evI rfl (by omega)⟩) hc215 hc216 ?_
      clear hf; intro a ha hf; clear ha
      refine st_move hf (wantY hf rfl rfl hb212) rfl (by decide) ?_
      clear hf; intro a ha hf; clear ha
      obtain ⟨hc217, hz211⟩ := chk hz211
      refine st_index (E := (Ek.pair Ek.c128 Ek.bool)) hf (by decide) Try.underlying27 elt35 (wantY hf rfl rfl hb212) rfl rfl (hp.slAll (i := 3) rfl hc216) hc217.1 hc217.2 ?_
      clear hf; intro a ha hf; clear ha
      refine st_faP (off := 0) (sz := 1) hf (by decide) (by kernel_rfl) (by decide) (wantY hf rfl rfl hb212) rfl (Sl.isP (hp.slAll (i := 3) rfl hc216) hc217.1 hc217.2) ?_
      clear hf; intro a ha hf; clear ha
      refine st_ldQC (yv := (gt ((xx5 ++ q5.2).take (((IntKind.i64.wrap ((l1.length : Int) + (1 : Int)))).toNat)) (l1.length : Int)).1) hf (by decide) pl33 (wantY hf rfl rfl hb212) rfl (Sl.part (E := (Ek.pair Ek.c128 Ek.bool)) (F := Ek.c128) (o := 0) (Sub.fst (E := Ek.c128) (F := Ek.bool)) (hp.slAll (i := 3) rfl hc216) hc217.1 hc217.2) ?_
      clear hf; intro a bb218 bb219 y220 y221 ha hf; clear ha
      refine st_ccmp (r_cne (x := (gt ((xx5 ++ q5.2).take (((IntKind.i64.wrap ((l1.length : Int) + (1 : Int)))).toNat)) (l1.length : Int)).1) (y := (Fl.bits 4651892959631900672, Fl.bits 0)) y220 y221 rfl rfl) hf (by decide) (wantY hf rfl rfl hb212) rfl rfl ?_
      clear hf; intro a ha hf; clear ha
      obtain rfl := Option.some.inj hz211
      refine st_pick (v := .bool (!ceq ((gt ((xx5 ++ q5.2).take (((IntKind.i64.wrap ((l1.length : Int) + (1 : Int)))).toNat)) (l1.length : Int)).1) (Fl.bits 4651892959631900672, Fl.bits 0))) hf rfl rfl (fun hb' => ?_) (fun hb' => ?_) (by decide) ?_
      · exact absurd (hb212.symm.trans hb') (by decide)
      · rfl
      clear hf; intro a ha hf; clear ha
      refine st_nil hf (th_n ?_)
      exact ⟨hf.sub ⟨rfl, rfl, rfl, rfl, rfl, rfl, trivial⟩, hp⟩
     rintro a w ⟨hf, hp⟩
     refine st_move hf rfl rfl (by decide) ?_
     clear hf; intro a ha hf; clear ha
     obtain ⟨z224, hz222, h⟩ := bnd h
     refine wpList_cut 10 (fun a w => Fr 259 a [(1, v3), (2, optr v1 0), (5, v10), (6, .int .i64 (l1.length : Int)), (7, .int .i64 round7), (235, .bool z224)] ∧ Hp S w0 w (Res.sl Ek.bool 4 v47 q40.1 :: Res.sl Ek.bool 4 v19 q12.1 :: Res.obj 24 v1 [.int .i64 cx2c_0, .int .u32 cx2c_1, .int .u32 cx2c_2] :: Res.slx (Ek.pair Ek.c128 Ek.bool) 35 v10 xx5 q5.2 :: ow)) ?_ ?_
     ·
      rcases Bool.eq_false_or_eq_true z213 with hb223 | hb223
      ·
       replace hz222 := ifT hz222 hb223
       refine st_skip hf (wantN hf rfl rfl hb223) rfl (by decide) ?_ rfl
       clear hf; intro a hf
       refine st_skip hf (wantN hf rfl rfl hb223) rfl (by decide) ?_ rfl
       clear hf; intro a hf
       refine st_skipU hf (wantN hf rfl rfl hb223) rfl (by decide) ?_
       clear hf; intro a hf
       refine st_skip hf (wantU hf rfl rfl) rfl (by decide) ?_ rfl
       clear hf; intro a hf
       refine st_skip hf (wantU hf rfl rfl) rfl (by decide) ?_ rfl
       clear hf; intro a hf
       refine st_skip hf (wantU hf rfl rfl) rfl (by decide) ?_ rfl
       clear hf; intro a hf
       refine st_skip hf (wantU hf rfl rfl) rfl (by decide) ?_ rfl
       clear hf; intro a hf
       refine st_skip hf (wantU hf rfl rfl) rfl (by decide) ?_ rfl
       clear hf; intro a hf
       refine st_skip hf (wantN hf rfl rfl hb223) rfl (by decide) ?_ rfl
       clear hf; intro a hf
       obtain rfl := Option.some.inj hz222
       refine st_pick (v := .bool true) hf rfl rfl (fun hb' => ?_) (fun hb' => ?_) (by decide) ?_
       · rfl
       · exact absurd (hb223.symm.trans hb') (by decide)
       clear hf; intro a ha hf; clear ha
       refine st_nil hf (th_n ?_)
       exact ⟨hf.sub ⟨rfl, rfl, rfl, rfl, rfl, rfl, trivial⟩, hp⟩
      replace hz222 := ifF hz222 hb223
      refine st_move hf (wantY hf rfl rfl hb223) rfl (by decide) ?_
      clear hf; intro a ha hf; clear ha
      refine st_ieql hf (by decide) (wantY hf rfl rfl hb223) rfl rfl ?_
      clear hf; intro a ha hf; clear ha
      refine st_move hf (wantY hf rfl rfl hb223) rfl (by decide) ?_
      clear hf; intro a ha hf; clear ha
      obtain ⟨z227, hz225, hz222⟩ := bnd hz222
      refine wpList_cut 6 (fun a w => Fr 259 a [(1, v3), (2, optr v1 0), (5, v10), (6, .int .i64 (l1.length : Int)), (7, .int .i64 round7), (225, .bool z213), (234, .bool z227)] ∧ Hp S w0 w (Res.sl Ek.bool 4 v47 q40.1 :: Res.sl Ek.bool 4 v19 q12.1 :: Res.obj 24 v1 [.int .i64 cx2c_0, .int .u32 cx2c_1, .int .u32 cx2c_2] :: Res.slx (Ek.pair Ek.c128 Ek.bool) 35 v10 xx5 q5.2 :: ow)) ?_ ?_
      ·
       rcases Bool.eq_false_or_eq_true (round7 == (0 : Int)) with hb226 | hb226
       ·
        replace hz225 := ifT hz225 hb226
        refine st_move hf (wantY hf rfl rfl hb226) rfl (by decide) ?_
        clear hf; intro a ha hf; clear ha
        refine st_move hf (wantY hf rfl rfl hb226) rfl (by decide) ?_
        clear hf; intro a ha hf; clear ha
        obtain ⟨q228, hcall229, hz225⟩ := bnd hz225
        refine st_call hf (by decide) Try.func9 rfl rfl (wantY hf rfl rfl hb226) rfl rfl (f_foghornlaw23_samples_c hp _ _ y4 hcall229) ?_
        rintro _ w ⟨v230, rfl, hp0⟩
        clear hp; have hp := hp0; clear hp0
        replace hp : Hp _ _ _ (Res.slx (Ek.pair Ek.c128 Ek.bool) 35 v230 q228.1 q228.2 :: _ :: _ :: _ :: _ :: ow) := hp
        refine ⟨_, rfl, ?_⟩
        clear hf; intro a hf
        obtain ⟨q232, hcall233, hz225⟩ := bnd hz225
        obtain ⟨S234, hp235, rd236, up237, bk238⟩ := Hp.lendS hp (i := 4) rfl
        obtain ⟨S239, hp240, rd241, up242, bk243⟩ := Hp.lendS hp235 (i := 0) rfl
        refine st_call hf (by decide) Try.func20 rfl rfl (wantY hf rfl rfl hb226) rfl rfl (f_foghornref02_Same_c hp240 _ _ ((rd236.now hp235).mono up242) _ _ rd241 hcall233) ?_
        rintro _ w ⟨rfl, hp0⟩
        have hp0 := bk243 _ _ hp0
        have hp0 := bk238 _ _ hp0
        clear hp; have hp := hp0; clear hp0
        replace hp : Hp _ _ _ (_ :: _ :: _ :: _ :: _ :: ow) := hp
        refine ⟨_, rfl, ?_⟩
        clear hf; intro a hf
        refine st_not hf (by decide) (wantY hf rfl rfl hb226) rfl ?_
        clear hf; intro a ha hf; clear ha
        obtain rfl := Option.some.inj hz225
        refine st_pick (v := .bool (!q232)) hf (wantY hf rfl rfl hb223) rfl (fun hb' => ?_) (fun hb' => ?_) (by decide) ?_
        · rfl
        · exact absurd (hb226.symm.trans hb') (by decide)
        clear hf; intro a ha hf; clear ha
        refine st_nil hf (th_n ?_)
        have hp : Hp _ _ _ (_ :: _ :: _ :: _ :: ow) := Hp.sel (pre := [Res.slx (Ek.pair Ek.c128 Ek.bool) 35 v10 xx5 q5.2, Res.slx (Ek.pair Ek.c128 Ek.bool) 35 v230 q228.1 q228.2, Res.sl Ek.bool 4 v47 q40.1, Res.sl Ek.bool 4 v19 q12.1, Res.obj 24 v1 [.int .i64 cx2c_0, .int .u32 cx2c_1, .int .u32 cx2c_2]]) (tail := ow) (rs' := [Res.sl Ek.bool 4 v47 q40.1, Res.sl Ek.bool 4 v19 q12.1, Res.obj 24 v1 [.int .i64 cx2c_0, .int .u32 cx2c_1, .int .u32 cx2c_2], Res.slx (Ek.pair Ek.c128 Ek.bool) 35 v10 xx5 q5.2]) hp [2, 3, 4, 0] (by decide) (by simp) rfl
        exact ⟨hf.sub ⟨rfl, rfl, rfl, rfl, rfl, rfl, rfl, trivial⟩, hp⟩
       replace hz225 := ifF hz225 hb226
       refine st_skip hf (wantN hf rfl rfl hb226) rfl (by decide) ?_ rfl
       clear hf; intro a hf
       refine st_skip hf (wantN hf rfl rfl hb226) rfl (by decide) ?_ rfl
       clear hf; intro a hf
       refine st_skip hf (wantN hf rfl rfl hb226) rfl (by decide) ?_ rfl
       clear hf; intro a hf
       refine st_skip hf (wantN hf rfl rfl hb226) rfl (by decide) ?_ rfl
       clear hf; intro a hf
       refine st_skip hf (wantN hf rfl rfl hb226) rfl (by decide) ?_ rfl
       clear hf; intro a hf
       obtain rfl := Option.some.inj hz225
       refine st_pick (v := .bool false) hf (wantY hf rfl rfl hb223) rfl (fun hb' => ?_) (fun hb' => ?_) (by decide) ?_
       · exact absurd (hb226.symm.trans hb') (by decide)
       · rfl
       clear hf; intro a ha hf; clear ha
       refine st_nil hf (th_n ?_)
       exact ⟨hf.sub ⟨rfl, rfl, rfl, rfl, rfl, rfl, rfl, trivial⟩, hp⟩
      rintro a w ⟨hf, hp⟩
      obtain rfl := Option.some.inj hz222
      refine st_pick (v := .bool z227) hf rfl rfl (fun hb' => ?_) (fun hb' => ?_) (by decide) ?_
      · exact absurd (hb223.symm.trans hb') (by decide)
      · rfl
      clear hf; intro a ha hf; clear ha
      refine st_nil hf (th_n ?_)
      exact ⟨hf.sub ⟨rfl, rfl, rfl, rfl, rfl, rfl, trivial⟩, hp⟩
     rintro a w ⟨hf, hp⟩
     refine st_nil hf ?_
     refine th_n ?_
     refine wp_if hf rfl (fun hb => ?_) (fun hb => ?_)
     ·
      replace h := ifT h hb
      refine wp_seq ?_
      refine wp_reg ?_
      refine st_assign hf rfl rfl (by decide) ?_
      clear hf; intro a ha hf; clear ha
      refine st_nil hf ?_
      refine th_n ?_
      refine wp_ret ?_
      refine th_r ?_
      refine ib_r ?_
      refine th_r ?_
      obtain rfl := Option.some.inj h
      have hp : Hp _ _ _ (ow) := Hp.sel (pre := [Res.sl Ek.bool 4 v47 q40.1, Res.sl Ek.bool 4 v19 q12.1, Res.obj 24 v1 [.int .i64 cx2c_0, .int .u32 cx2c_1, .int .u32 cx2c_2], Res.slx (Ek.pair Ek.c128 Ek.bool) 35 v10 xx5 q5.2]) (tail := ow) (rs' := []) hp [] (by decide) (by simp) rfl
      exact rnd_r (by simp) ⟨rfl, ⟨hf.sub ⟨rfl, trivial⟩, hp⟩⟩
     replace h := ifF h hb
     refine wp_skip ?_
     refine th_n ?_
     refine wp_seq ?_
     refine wp_reg ?_
     refine st_assign hf rfl rfl (by decide) ?_
     clear hf; intro a ha hf; clear ha
     refine st_nil hf ?_
     refine th_n ?_
     refine wp_block ?_
     obtain ⟨q270, hl, h⟩ := bnd h
     have hp : Hp _ _ _ (_ :: _ :: ow) := Hp.sel (pre := [Res.sl Ek.bool 4 v47 q40.1, Res.sl Ek.bool 4 v19 q12.1, Res.obj 24 v1 [.int .i64 cx2c_0, .int .u32 cx2c_1, .int .u32 cx2c_2], Res.slx (Ek.pair Ek.c128 Ek.bool) 35 v10 xx5 q5.2]) (tail := ow) (rs' := [Res.slx (Ek.pair Ek.c128 Ek.bool) 35 v10 xx5 q5.2, Res.obj 24 v1 [.int .i64 cx2c_0, .int .u32 cx2c_1, .int .u32 cx2c_2]]) hp [3, 2] (by decide) (by simp) rfl
     refine wp_loop_pure (f := (f_foghornlaw23_SoftDecides.s5 l1)) (s := (xx5, (0 : Int))) (fun s a w => ∃ (v244 : Value), Fr 259 a [(1, v3), (2, optr v1 0), (5, v244), (6, .int .i64 (l1.length : Int)), (7, .int .i64 round7), (30, .int .i64 s.2)] ∧ Hp S w0 w (Res.slx (Ek.pair Ek.c128 Ek.bool) 35 v244 s.1 q5.2 :: Res.obj 24 v1 [.int .i64 cx2c_0, .int .u32 cx2c_1, .int .u32 cx2c_2] :: ow)) (fun q e a w => e = .exit 9 ∧ ∃ (v246 : Value), Fr 259 a [(1, v3), (2, optr v1 0), (5, v246), (6, .int .i64 (l1.length : Int)), (7, .int .i64 round7)] ∧ Hp S w0 w (Res.slx (Ek.pair Ek.c128 Ek.bool) 35 v246 q q5.2 :: Res.obj 24 v1 [.int .i64 cx2c_0, .int .u32 cx2c_1, .int .u32 cx2c_2] :: ow)) ?_ hl ⟨_, hf.sub ⟨rfl, rfl, rfl, rfl, rfl, rfl, trivial⟩, hp⟩ ?_
     ·
      clear hl hf hp
      intro s x a w h hI
      obtain ⟨xx5, k30⟩ := s
      obtain ⟨v244, hf, hp⟩ : ∃ (v244 : Value), Fr 259 a [(1, v3), (2, optr v1 0), (5, v244), (6, .int .i64 (l1.length : Int)), (7, .int .i64 round7), (30, .int .i64 k30)] ∧ Hp S w0 w (Res.slx (Ek.pair Ek.c128 Ek.bool) 35 v244 xx5 q5.2 :: Res.obj 24 v1 [.int .i64 cx2c_0, .int .u32 cx2c_1, .int .u32 cx2c_2] :: ow) := hI
      replace h : f_foghornlaw23_SoftDecides.s5c l1 xx5 k30 = some x := h
      unfold f_foghornlaw23_SoftDecides.s5c at h
      refine wp_seq ?_
      refine wp_seq ?_
      refine wp_reg ?_
      refine st_move hf rfl rfl (by decide) ?_
      clear hf; intro a ha hf; clear ha
      refine st_move hf rfl rfl (by decide) ?_
      clear hf; intro a ha hf; clear ha
      refine st_ilss hf (by decide) rfl rfl rfl ?_
      clear hf; intro a ha hf; clear ha
      refine st_nil hf ?_
      refine th_n ?_
      refine wp_if hf rfl (fun hb => ?_) (fun hb => ?_)
      ·
       replace h := ifT h hb
       refine wp_skip ?_
       refine th_n ?_
       refine wp_seq ?_
       refine wp_block ?_
       obtain ⟨S248, hp249, rd250, up251, bk252⟩ := Hp.lendS hp (i := 0) rfl
       have rl253 := ((y4.now hp).mono up251)
       have rl254 := rd250
       obtain ⟨hc255, h⟩ := chk h
       obtain ⟨bb257, bb258, y259, y260, hl256⟩ := RdS.pinPC (p := k30) (o := 0) (Sub.fst (E := Ek.c128) (F := Ek.bool)) rl254 hc255.1 hc255.2
       obtain ⟨hc261, h⟩ := chk h
       obtain ⟨bb263, bb264, y265, y266, hl262⟩ := RdS.pinPC (p := k30) (o := 0) (Sub.fst (E := Ek.c128) (F := Ek.bool)) rl254 hc261.1 hc261.2
       obtain ⟨hc269, h⟩ := chk h
       refine wp_cutN (fun a w => Fr 259 a [(1, v3), (2, optr v1 0), (5, v244), (6, .int .i64 (l1.length : Int)), (7, .int .i64 round7), (30, .int .i64 k30)] ∧ Hp S w0 w (Res.slx (Ek.pair Ek.c128 Ek.bool) 35 v244 (xx5.set (k30).toNat (((gt xx5 k30).1.2, (fsub (Fl.bits 0) ((gt xx5 k30).1.1))), (gt xx5 k30).2)) q5.2 :: Res.obj 24 v1 [.int .i64 cx2c_0, .int .u32 cx2c_1, .int .u32 cx2c_2] :: ow)) ?_ ?_
       ·
        have hp := hp249.same (Same.drew w)
        refine dr_begin' _ (fun w' => ∃ l, Hp S248 w w' l) [18] (by kernel_rfl) ?_
        refine dr_takeP 0 (v244) rfl (by kernel_rfl) (by kernel_rfl) (by kernel_rfl) rfl rfl hf (by decide) rfl (fun w => ?_) ?_
        ·
         refine st_move hf rfl rfl (by decide) ?_
         clear hf; intro a ha hf
         exact st_nil hf (th_n ⟨ha, rfl⟩)
        clear hf; intro a hf
        refine dr_takeP 1 (.int .i64 k30) rfl (by kernel_rfl) (by kernel_rfl) (by kernel_rfl) rfl rfl hf (by decide) rfl (fun w => ?_) ?_
        ·
         refine st_move hf rfl rfl (by decide) ?_
         clear hf; intro a ha hf
         exact st_nil hf (th_n ⟨ha, rfl⟩)
        clear hf; intro a hf
        refine dr_takeP 2 (v244) rfl (by kernel_rfl) (by kernel_rfl) (by kernel_rfl) rfl rfl hf (by decide) rfl (fun w => ?_) ?_
        ·
         refine st_move hf rfl rfl (by decide) ?_
         clear hf; intro a ha hf
         exact st_nil hf (th_n ⟨ha, rfl⟩)
        clear hf; intro a hf
        refine dr_takeP 3 (.int .i64 k30) rfl (by kernel_rfl) (by kernel_rfl) (by kernel_rfl) rfl rfl hf (by decide) rfl (fun w => ?_) ?_
        ·
         refine st_move hf rfl rfl (by decide) ?_
         clear hf; intro a ha hf
         exact st_nil hf (th_n ⟨ha, rfl⟩)
        clear hf; intro a hf
        refine dr_takeP 4 (eptr v244 k30 2) rfl (by kernel_rfl) (by kernel_rfl) (by kernel_rfl) rfl rfl hf (by decide) rfl (fun w => ?_) ?_
        ·
         refine st_index (E := (Ek.pair Ek.c128 Ek.bool)) hf (by decide) Try.underlying27 elt35 rfl rfl rfl rl254.any hc255.1 hc255.2 ?_
         clear hf; intro a ha hf
         exact st_nil hf (th_n ⟨ha, rfl⟩)
        clear hf; intro a hf
        refine dr_takeP 5 (optr (eptr v244 k30 2) 0) rfl (by kernel_rfl) (by kernel_rfl) (by kernel_rfl) rfl rfl hf (by decide) rfl (fun w => ?_) ?_
        ·
         refine st_faP (off := 0) (sz := 1) hf (by decide) (by kernel_rfl) (by decide) rfl rfl (Sl.isP rl254.any hc255.1 hc255.2) ?_
         clear hf; intro a ha hf
         exact st_nil hf (th_n ⟨ha, rfl⟩)
        clear hf; intro a hf
        refine dr_take2 6 (.complex .f64 bb257 bb258) rfl (by kernel_rfl) (by kernel_rfl) (by kernel_rfl) (by kernel_rfl) (by kernel_rfl) rfl rfl hf (by decide) rfl (fun w hp => ?_) ⟨_, hp⟩ ?_
        ·
         obtain ⟨_, hp⟩ := hp
         refine st_ldP hf (by decide) pl33 rfl rfl (hl256 _ _ hp) ?_
         clear hf; intro a ha hf
         exact st_nil hf (th_n ⟨ha, rfl⟩)
        clear hf; intro a hf
        refine dr_takeP 7 (.float .f64 bb258) rfl (by kernel_rfl) (by kernel_rfl) (by kernel_rfl) rfl rfl hf (by decide) rfl (fun w => ?_) ?_
        ·
         refine st_imag hf (by decide) rfl rfl ?_
         clear hf; intro a ha hf
         exact st_nil hf (th_n ⟨ha, rfl⟩)
        clear hf; intro a hf
        refine dr_takeP 8 (v244) rfl (by kernel_rfl) (by kernel_rfl) (by kernel_rfl) rfl rfl hf (by decide) rfl (fun w => ?_) ?_
        ·
         refine st_move hf rfl rfl (by decide) ?_
         clear hf; intro a ha hf
         exact st_nil hf (th_n ⟨ha, rfl⟩)
        clear hf; intro a hf
        refine dr_takeP 9 (.int .i64 k30) rfl (by kernel_rfl) (by kernel_rfl) (by kernel_rfl) rfl rfl hf (by decide) rfl (fun w => ?_) ?_
        ·
         refine st_move hf rfl rfl (by decide) ?_
         clear hf; intro a ha hf
         exact st_nil hf (th_n ⟨ha, rfl⟩)
        clear hf; intro a hf
        refine dr_takeP 10 (eptr v244 k30 2) rfl (by kernel_rfl) (by kernel_rfl) (by kernel_rfl) rfl rfl hf (by decide) rfl (fun w => ?_) ?_
        ·
         refine st_index (E := (Ek.pair Ek.c128 Ek.bool)) hf (by decide) Try.underlying27 elt35 rfl rfl rfl rl254.any hc261.1 hc261.2 ?_
         clear hf; intro a ha hf
         exact st_nil hf (th_n ⟨ha, rfl⟩)
        clear hf; intro a hf
        refine dr_takeP 11 (optr (eptr v244 k30 2) 0) rfl (by kernel_rfl) (by kernel_rfl) (by kernel_rfl) rfl rfl hf (by decide) rfl (fun w => ?_) ?_
        ·
         refine st_faP (off := 0) (sz := 1) hf (by decide) (by kernel_rfl) (by decide) rfl rfl (Sl.isP rl254.any hc261.1 hc261.2) ?_
         clear hf; intro a ha hf
         exact st_nil hf (th_n ⟨ha, rfl⟩)
        clear hf; intro a hf
        refine dr_take2 12 (.complex .f64 bb263 bb264) rfl (by kernel_rfl) (by kernel_rfl) (by kernel_rfl) (by kernel_rfl) (by kernel_rfl) rfl rfl hf (by decide) rfl (fun w hp => ?_) ⟨_, hp⟩ ?_
        ·
         obtain ⟨_, hp⟩ := hp
         refine st_ldP hf (by decide) pl33 rfl rfl (hl262 _ _ hp) ?_
         clear hf; intro a ha hf
         exact st_nil hf (th_n ⟨ha, rfl⟩)
        clear hf; intro a hf
        refine dr_takeP 13 (.float .f64 bb263) rfl (by kernel_rfl) (by kernel_rfl) (by kernel_rfl) rfl rfl hf (by decide) rfl (fun w => ?_) ?_
        ·
         refine st_real hf (by decide) rfl rfl ?_
         clear hf; intro a ha hf
         exact st_nil hf (th_n ⟨ha, rfl⟩)
        clear hf; intro a hf
        refine dr_one 14 rfl (by kernel_rfl) ?_
        refine st_farith (op := .sub) rfl hf (by decide) hp rfl rfl rfl (show Fl.rep 0 (Fl.bits 0) from rfl) (show Fl.rep bb263 ((gt xx5 k30).1.1) from y265) ?_
        clear hf; intro a w bb267 y268 hf hp0; clear hp; have hp := hp0; clear hp0
        replace hp : Hp _ _ _ (_ :: ow) := hp
        refine nx hf (fun _ _ => ⟨_, hp⟩) ?_
        refine dr_takeP 15 (.complex .f64 bb258 bb267) rfl (by kernel_rfl) (by kernel_rfl) (by kernel_rfl) rfl rfl hf (by decide) rfl (fun w => ?_) ?_
        ·
         refine st_complex hf (by decide) rfl rfl rfl ?_
         clear hf; intro a ha hf
         exact st_nil hf (th_n ⟨ha, rfl⟩)
        clear hf; intro a hf
        refine dr_takeP 16 (eptr v244 k30 2) rfl (by kernel_rfl) (by kernel_rfl) (by kernel_rfl) rfl rfl hf (by decide) rfl (fun w => ?_) ?_
        ·
         refine st_index (E := (Ek.pair Ek.c128 Ek.bool)) hf (by decide) Try.underlying27 elt35 rfl rfl rfl rl254.any hc269.1 hc269.2 ?_
         clear hf; intro a ha hf
         exact st_nil hf (th_n ⟨ha, rfl⟩)
        clear hf; intro a hf
        refine dr_takeP 17 (optr (eptr v244 k30 2) 0) rfl (by kernel_rfl) (by kernel_rfl) (by kernel_rfl) rfl rfl hf (by decide) rfl (fun w => ?_) ?_
        ·
         refine st_faP (off := 0) (sz := 1) hf (by decide) (by kernel_rfl) (by decide) rfl rfl (Sl.isP rl254.any hc269.1 hc269.2) ?_
         clear hf; intro a ha hf
         exact st_nil hf (th_n ⟨ha, rfl⟩)
        clear hf; intro a hf
        have hp := bk252 _ _ hp
        refine dr_one 18 rfl (by kernel_rfl) ?_
        refine st_stQ (E := (Ek.pair Ek.c128 Ek.bool)) (F := Ek.c128) (o := 0) (Sub.fst (E := Ek.c128) (F := Ek.bool)) hf (by kernel_rfl) hp (i := 0) rfl rfl rfl rfl (show Ek.c128.rep [.complex .f64 bb258 bb267] ((gt xx5 k30).1.2, (fsub (Fl.bits 0) ((gt xx5 k30).1.1))) from ⟨_, _, rfl, y260, y268⟩) hc269.1 hc269.2 ?_
        clear hf; intro a w hf hp0; clear hp; have hp := hp0; clear hp0
        replace hp : Hp _ _ _ (Res.slx (Ek.pair Ek.c128 Ek.bool) 35 v244 (xx5.set (k30).toNat (((gt xx5 k30).1.2, (fsub (Fl.bits 0) ((gt xx5 k30).1.1))), (gt xx5 k30).2)) q5.2 :: _ :: ow) := hp
        refine st_nil hf (th_n ⟨fun hn => absurd hn (by decide), ?_⟩)
        refine dr_end (by kernel_rfl) ?_ _
        exact ⟨hf.sub ⟨rfl, rfl, rfl, rfl, rfl, rfl, trivial⟩, hp⟩
       rintro a w ⟨hf, hp⟩
       refine ib_n ?_
       refine th_n ?_
       refine wp_reg ?_
       refine st_move hf rfl rfl (by decide) ?_
       clear hf; intro a ha hf; clear ha
       refine st_iadd hf (by decide) rfl rfl rfl ?_
       clear hf; intro a ha hf; clear ha
       refine st_assign hf rfl rfl (by decide) ?_
       clear hf; intro a ha hf; clear ha
       refine st_nil hf ?_
       obtain rfl := Option.some.inj h
       exact rnd_l ⟨_, hf.sub ⟨rfl, rfl, rfl, rfl, rfl, rfl, trivial⟩, hp⟩
      replace h := ifF h hb
      refine wp_exit ?_
      refine th_e ?_
      obtain rfl := Option.some.inj h
      exact rnd_r (by simp) ⟨rfl, _, hf.sub ⟨rfl, rfl, rfl, rfl, rfl, trivial⟩, hp⟩
     clear hl hf hp
     intro e a w hne hO
     obtain ⟨rfl, v246, hf, hp⟩ := hO
     refine ib_same ?_
     refine ib_n ?_
     refine th_n ?_
     refine wp_reg ?_
     refine st_move hf rfl rfl (by decide) ?_
     clear hf; intro a ha hf; clear ha
     refine st_iadd hf (by decide) rfl rfl rfl ?_
     clear hf; intro a ha hf; clear ha
     refine st_assign hf rfl rfl (by decide) ?_
     clear hf; intro a ha hf; clear ha
     refine st_nil hf ?_
     obtain rfl := Option.some.inj h
     have hp : Hp _ _ _ (_ :: Res.slx (Ek.pair Ek.c128 Ek.bool) 35 v246 q270 q5.2 :: ow) := Hp.sel (pre := [Res.slx (Ek.pair Ek.c128 Ek.bool) 35 v246 q270 q5.2, Res.obj 24 v1 [.int .i64 cx2c_0, .int .u32 cx2c_1, .int .u32 cx2c_2]]) (tail := ow) (rs' := [Res.obj 24 v1 [.int .i64 cx2c_0, .int .u32 cx2c_1, .int .u32 cx2c_2], Res.slx (Ek.pair Ek.c128 Ek.bool) 35 v246 q270 q5.2]) hp [1, 0] (by decide) (by simp) rfl
     exact rnd_l ⟨_, hf.sub ⟨rfl, rfl, rfl, rfl, rfl, trivial⟩, hp⟩
    replace h := smR h
    obtain ⟨rfl, hf, hp⟩ := hO
    refine ib_r ?_
    refine th_r ?_
    refine ib_r ?_
    refine th_r ?_
    obtain rfl := Option.some.inj h
    exact rnd_r (by simp) ⟨rfl, ⟨hf.sub ⟨rfl, trivial⟩, hp⟩⟩
   replace h := ifF h hb
   refine wp_exit ?_
   refine th_e ?_
   obtain rfl := Option.some.inj h
   have hp : Hp _ _ _ (ow) := Hp.sel (pre := [Res.obj 24 v1 [.int .i64 cx2c_0, .int .u32 cx2c_1, .int .u32 cx2c_2], Res.slx (Ek.pair Ek.c128 Ek.bool) 35 v10 xx5 q5.2]) (tail := ow) (rs' := []) hp [] (by decide) (by simp) rfl
   exact rnd_r (by simp) ⟨rfl, hf.sub trivial, hp⟩
  clear hl hf hp
  intro e a w hne hO
  rcases q277 with q278 | q279
  ·
   replace h := smL h
   obtain ⟨rfl, hf, hp⟩ := hO
   refine ib_same ?_
   refine th_n ?_
   refine wp_seq ?_
   refine wp_reg ?_
   refine st_assign hf rfl rfl (by decide) ?_
   clear hf; intro a ha hf; clear ha
   refine st_nil hf ?_
   refine th_n ?_
   refine wp_ret ?_
   obtain rfl := Option.some.inj h
   exact ⟨rfl, ⟨hf.sub ⟨rfl, trivial⟩, hp⟩⟩
  replace h := smR h
  obtain ⟨rfl, hf, hp⟩ := hO
  refine ib_r ?_
  refine th_r ?_
  obtain rfl := Option.some.inj h
  exact ⟨rfl, ⟨hf.sub ⟨rfl, trivial⟩, hp⟩⟩

end Go.Proofs.Ytcooefnbolobaaa
