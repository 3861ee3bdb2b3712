/- The functions foghorn foghornlaw23.SoftDecides: what each answers, as a plain function, and that its call answers it; printed by gen.py. -/
import Derived.Test.YtcooefnbolobaaaProg
import Derived.Test.YtcooefnbolobaaaGlUd
import Derived.KernelRfl
import Derived.Test.YtcooefnbolobaaaG7p2
set_option linter.unusedVariables false
set_option linter.unusedSimpArgs false
set_option maxRecDepth 100000
set_option maxHeartbeats 4000000
namespace Go.Proofs.Ytcooefnbolobaaa
open GL
noncomputable def f_soft_run.s4c (cx0_Length : Int) (cx0_One : Int) (cx0_Two : Int) (l1 : (List ((Fl × Fl) × Bool))) (last2 : Int) (now10 : (List ((Option Nat) × (Option Nat)))) (t34 : Int) (t40 : Int) (t46 : Int) (nd : (List WayC)) (then13 : (List ((Option Nat) × (Option Nat)))) (t53 : Int) : Option (((List WayC) × (List ((Option Nat) × (Option Nat))) × Int) ⊕ ((List WayC) × (List ((Option Nat) × (Option Nat))))) := (if (decide (t53 < (([false, true]).length : Int))) = true then (if 0 ≤ t53 ∧ t53 < (([false, true]).length : Int) then (if ((gt ([false, true]) t53) && (decide ((IntKind.i64.wrap ((l1.length : Int) - last2)) ≤ t34))) = true then (some (Sum.inl (nd, then13, (IntKind.i64.wrap (t53 + (1 : Int)))))) else ((f_trellis_Code_Step cx0_Length cx0_One cx0_Two t40 (gt ([false, true]) t53)).bind fun q72 => (if 0 ≤ q72.1 ∧ q72.1 < (64 : Int) then (((gt [(gt now10 t40).1, (gt now10 t40).2] t46)).bind fun n90 => ((f_soft_cost q72.2.1 q72.2.2.1 ((gt l1 t34).1) ((gt l1 t34).2)).bind fun q97 => ((f_soft_two_put (nd ++ [((gt ([false, true]) t53), (gt [(gt now10 t40).1, (gt now10 t40).2] t46), (fadd ((nth nd n90).2.2.1) q97), (0 : Int))]) then13 q72.1 (some (nd).length)).bind fun q106 => (some (Sum.inl ((nd ++ [((gt ([false, true]) t53), (gt [(gt now10 t40).1, (gt now10 t40).2] t46), (fadd ((nth nd n90).2.2.1) q97), (0 : Int))]), q106, (IntKind.i64.wrap (t53 + (1 : Int))))))))) else none))) else none) else (some (Sum.inr (nd, then13))))
noncomputable def f_soft_run.s4 (cx0_Length : Int) (cx0_One : Int) (cx0_Two : Int) (l1 : (List ((Fl × Fl) × Bool))) (last2 : Int) (now10 : (List ((Option Nat) × (Option Nat)))) (t34 : Int) (t40 : Int) (t46 : Int) (s : ((List WayC) × (List ((Option Nat) × (Option Nat))) × Int)) : Option (((List WayC) × (List ((Option Nat) × (Option Nat))) × Int) ⊕ ((List WayC) × (List ((Option Nat) × (Option Nat))))) := f_soft_run.s4c cx0_Length cx0_One cx0_Two l1 last2 now10 t34 t40 t46 s.1 s.2.1 s.2.2
noncomputable def f_soft_run.s3c (cx0_Length : Int) (cx0_One : Int) (cx0_Two : Int) (l1 : (List ((Fl × Fl) × Bool))) (last2 : Int) (now10 : (List ((Option Nat) × (Option Nat)))) (t34 : Int) (t40 : Int) (nd : (List WayC)) (then13 : (List ((Option Nat) × (Option Nat)))) (t46 : Int) : Option (((List WayC) × (List ((Option Nat) × (Option Nat))) × Int) ⊕ ((List WayC) × (List ((Option Nat) × (Option Nat))))) := (if (decide (t46 < (2 : Int))) = true then (if 0 ≤ t46 ∧ t46 < 2 then (if ((gt [(gt now10 t40).1, (gt now10 t40).2] t46).isNone) = true then (some (Sum.inl (nd, then13, (IntKind.i64.wrap (t46 + (1 : Int)))))) else ((loop (f_soft_run.s4 cx0_Length cx0_One cx0_Two l1 last2 now10 t34 t40 t46) (nd, then13, (0 : Int))).bind (fun q114 => (some (Sum.inl (q114.1, q114.2, (IntKind.i64.wrap (t46 + (1 : Int))))))))) else none) else (some (Sum.inr (nd, then13))))
noncomputable def f_soft_run.s3 (cx0_Length : Int) (cx0_One : Int) (cx0_Two : Int) (l1 : (List ((Fl × Fl) × Bool))) (last2 : Int) (now10 : (List ((Option Nat) × (Option Nat)))) (t34 : Int) (t40 : Int) (s : ((List WayC) × (List ((Option Nat) × (Option Nat))) × Int)) : Option (((List WayC) × (List ((Option Nat) × (Option Nat))) × Int) ⊕ ((List WayC) × (List ((Option Nat) × (Option Nat))))) := f_soft_run.s3c cx0_Length cx0_One cx0_Two l1 last2 now10 t34 t40 s.1 s.2.1 s.2.2
noncomputable def f_soft_run.s2c (cx0_Length : Int) (cx0_One : Int) (cx0_Two : Int) (l1 : (List ((Fl × Fl) × Bool))) (last2 : Int) (q5 : (Int × Int)) (now10 : (List ((Option Nat) × (Option Nat)))) (t34 : Int) (nd : (List WayC)) (then13 : (List ((Option Nat) × (Option Nat)))) (t40 : Int) : Option (((List WayC) × (List ((Option Nat) × (Option Nat))) × Int) ⊕ ((List WayC) × (List ((Option Nat) × (Option Nat))))) := (if (decide (t40 < q5.1)) = true then (if 0 ≤ t40 ∧ t40 < (64 : Int) then ((loop (f_soft_run.s3 cx0_Length cx0_One cx0_Two l1 last2 now10 t34 t40) (nd, then13, (0 : Int))).bind (fun q115 => (some (Sum.inl (q115.1, q115.2, (IntKind.i64.wrap (t40 + (1 : Int)))))))) else none) else (some (Sum.inr (nd, then13))))
noncomputable def f_soft_run.s2 (cx0_Length : Int) (cx0_One : Int) (cx0_Two : Int) (l1 : (List ((Fl × Fl) × Bool))) (last2 : Int) (q5 : (Int × Int)) (now10 : (List ((Option Nat) × (Option Nat)))) (t34 : Int) (s : ((List WayC) × (List ((Option Nat) × (Option Nat))) × Int)) : Option (((List WayC) × (List ((Option Nat) × (Option Nat))) × Int) ⊕ ((List WayC) × (List ((Option Nat) × (Option Nat))))) := f_soft_run.s2c cx0_Length cx0_One cx0_Two l1 last2 q5 now10 t34 s.1 s.2.1 s.2.2
noncomputable def f_soft_run.s1c (cx0_Length : Int) (cx0_One : Int) (cx0_Two : Int) (l1 : (List ((Fl × Fl) × Bool))) (last2 : Int) (q5 : (Int × Int)) (nd : (List WayC)) (now10 : (List ((Option Nat) × (Option Nat)))) (t34 : Int) : Option (((List WayC) × (List ((Option Nat) × (Option Nat))) × Int) ⊕ ((List WayC) × (List ((Option Nat) × (Option Nat))))) := (if (decide (t34 < (l1.length : Int))) = true then (if 0 ≤ t34 ∧ t34 < (l1.length : Int) then ((loop (f_soft_run.s2 cx0_Length cx0_One cx0_Two l1 last2 q5 now10 t34) (nd, (List.replicate 64 ((none : Option Nat), (none : Option Nat))), (0 : Int))).bind (fun q116 => ((f_soft_ranked q116.1 q116.2 q5.1).bind fun q117 => (some (Sum.inl (q117, q116.2, (IntKind.i64.wrap (t34 + (1 : Int))))))))) else none) else (some (Sum.inr (nd, now10))))
noncomputable def f_soft_run.s1 (cx0_Length : Int) (cx0_One : Int) (cx0_Two : Int) (l1 : (List ((Fl × Fl) × Bool))) (last2 : Int) (q5 : (Int × Int)) (s : ((List WayC) × (List ((Option Nat) × (Option Nat))) × Int)) : Option (((List WayC) × (List ((Option Nat) × (Option Nat))) × Int) ⊕ ((List WayC) × (List ((Option Nat) × (Option Nat))))) := f_soft_run.s1c cx0_Length cx0_One cx0_Two l1 last2 q5 s.1 s.2.1 s.2.2
noncomputable def f_soft_run (cx0_Length : Int) (cx0_One : Int) (cx0_Two : Int) (l1 : (List ((Fl × Fl) × Bool))) (last2 : Int) : Option ((List ((Option Nat) × (Option Nat))) × (List WayC)) := ((f_trellis_Code_States cx0_Length cx0_One cx0_Two).bind fun q5 => ((loop (f_soft_run.s1 cx0_Length cx0_One cx0_Two l1 last2 q5) ((([] : List WayC) ++ [(false, none, (Fl.bits 0), (0 : Int))]), ((List.replicate 64 ((none : Option Nat), (none : Option Nat))).set ((0 : Int)).toNat ((some (([] : List WayC)).length), (gt (List.replicate 64 ((none : Option Nat), (none : Option Nat))) (0 : Int)).2)), (0 : Int))).bind (fun q128 => (some (q128.2, q128.1)))))
theorem f_soft_run_c {S : Nat → Prop} {w0 w : World} {ow : List Res} (hp : Hp S w0 w ow) (cx0_Length : Int) (cx0_One : Int) (cx0_Two : Int) (vl1 : Value) (l1 : (List ((Fl × Fl) × Bool))) (hl1 : RdS (Ek.pair Ek.c128 Ek.bool) S w0 vl1 l1) (last2 : Int) {r : ((List ((Option Nat) × (Option Nat))) × (List WayC))} (h : f_soft_run cx0_Length cx0_One cx0_Two l1 last2 = some r) :
   Calls Try.prog 46 #[.agg #[.int .i64 cx0_Length, .int .u32 cx0_One, .int .u32 cx0_Two], vl1, .int .i64 last2] w (fun e w' => ∃ (u0 : List Nat) (u1 : List Value), e = .returned (.agg (u1).toArray) ∧ Ek.reps (Ek.pair (Ek.wp u0) (Ek.wp u0)) u1 r.1 ∧ List.length r.1 = 64 ∧ Hp S w0 w' (Res.ar 92 u0 r.2 :: ow)) := by
  unfold f_soft_run at h
  refine enter (n := 100) (args := [.agg #[.int .i64 cx0_Length, .int .u32 cx0_One, .int .u32 cx0_Two], vl1, .int .i64 last2]) Try.func46 rfl rfl (Nat.le_of_ble_eq_true rfl) fun a hf => ?_
  replace hf : Fr 100 a [(0, .agg #[.int .i64 cx0_Length, .int .u32 cx0_One, .int .u32 cx0_Two]), (1, vl1), (2, .int .i64 last2)] := hf
  refine wp_mono (Q := fun e a w => e = .ret ∧ ∃ (u0 : List Nat) (c0 : Value), Fr 100 a [(6, c0)] ∧ Hp S w0 w (Res.sl (Ek.pair (Ek.wp u0) (Ek.wp u0)) 89 (aslv c0 64) r.1 :: Res.ar 92 u0 r.2 :: ow)) ?_ ?_
  rotate_left
  ·
   rintro e a w ⟨rfl, u0, c0, hf, hp⟩
   exact retArr1 (E := (Ek.pair (Ek.wp u0) (Ek.wp u0))) (N := 64) (m := 128) hf rfl rfl (by kernel_rfl) rfl (by decide) (hp.sl (i := 0) rfl) fun cs hr hl => ⟨u0, cs, rfl, hr, hl, hp.drop⟩
  refine wp_seq ?_
  refine wp_reg ?_
  refine st_boxO (cs := [.int .i64 cx0_Length, .int .u32 cx0_One, .int .u32 cx0_Two]) hf (by decide) hp rfl rfl rfl ?_
  clear hf; intro a w v1 hf hp0; clear hp; have hp := hp0; clear hp0
  replace hp : Hp _ _ _ (Res.obj 40 v1 [.int .i64 cx0_Length, .int .u32 cx0_One, .int .u32 cx0_Two] :: ow) := hp
  refine st_allocA (E := (Ek.pair (Ek.wp ([] : List Nat)) (Ek.wp ([] : List Nat)))) (N := 64) (zs := List.replicate 64 ((none : Option Nat), (none : Option Nat))) (zv := .agg ((List.replicate 64 ([.pointer none, .pointer none] : List Value)).flatten).toArray) hf (by decide) (by decide) (by decide) (by kernel_rfl) (reps_replicate (E := (Ek.pair (Ek.wp ([] : List Nat)) (Ek.wp ([] : List Nat)))) (vs := ([.pointer none, .pointer none] : List Value)) (x := ((none : Option Nat), (none : Option Nat))) ⟨[.pointer none], [.pointer none], rfl, ⟨_, rfl, WP.nil _⟩, ⟨_, rfl, WP.nil _⟩⟩ 64) (by simp) hp rfl ?_
  clear hf; intro a w v3 hf hp0; clear hp; have hp := hp0; clear hp0
  replace hp : Hp _ _ _ (Res.sl (Ek.pair (Ek.wp ([] : List Nat)) (Ek.wp ([] : List Nat))) 89 (aslv v3 64) (List.replicate 64 ((none : Option Nat), (none : Option Nat))) :: _ :: ow) := hp
  refine st_nil hf ?_
  refine th_n ?_
  refine wp_seq ?_
  refine wp_reg ?_
  refine st_ldOA (m := 3) (us := [.int .i64 cx0_Length, .int .u32 cx0_One, .int .u32 cx0_Two]) hf (by decide) (by kernel_rfl) rfl rfl (hp.ob (i := 1) rfl) rfl rfl ?_
  clear hf; intro a ha hf; clear ha
  obtain ⟨q5, hcall6, h⟩ := bnd h
  refine st_call hf (by decide) Try.func47 rfl rfl rfl rfl rfl (f_trellis_Code_States_c hp _ _ _ hcall6) ?_
  rintro _ w ⟨rfl, hp0⟩
  clear hp; have hp := hp0; clear hp0
  replace hp : Hp _ _ _ (_ :: _ :: ow) := hp
  refine ⟨_, rfl, ?_⟩
  clear hf; intro a hf
  refine st_move hf rfl rfl (by decide) ?_
  clear hf; intro a ha hf; clear ha
  refine st_extract hf (by decide) rfl rfl rfl ?_
  clear hf; intro a ha hf; clear ha
  refine st_extract hf (by decide) rfl rfl rfl ?_
  clear hf; intro a ha hf; clear ha
  refine st_assign hf rfl rfl (by decide) ?_
  clear hf; intro a ha hf; clear ha
  refine st_assign hf rfl rfl (by decide) ?_
  clear hf; intro a ha hf; clear ha
  refine st_nil hf ?_
  refine th_n ?_
  refine wp_seq ?_
  refine wp_reg ?_
  refine st_assign hf rfl rfl (by decide) ?_
  clear hf; intro a ha hf; clear ha
  refine st_nil hf ?_
  refine th_n ?_
  refine wp_seq ?_
  refine wp_reg ?_
  refine st_allocA (E := (Ek.pair (Ek.wp ([] : List Nat)) (Ek.wp ([] : List Nat)))) (N := 64) (zs := List.replicate 64 ((none : Option Nat), (none : Option Nat))) (zv := .agg ((List.replicate 64 ([.pointer none, .pointer none] : List Value)).flatten).toArray) hf (by decide) (by decide) (by decide) (by kernel_rfl) (reps_replicate (E := (Ek.pair (Ek.wp ([] : List Nat)) (Ek.wp ([] : List Nat)))) (vs := ([.pointer none, .pointer none] : List Value)) (x := ((none : Option Nat), (none : Option Nat))) ⟨[.pointer none], [.pointer none], rfl, ⟨_, rfl, WP.nil _⟩, ⟨_, rfl, WP.nil _⟩⟩ 64) (by simp) hp rfl ?_
  clear hf; intro a w v7 hf hp0; clear hp; have hp := hp0; clear hp0
  replace hp : Hp _ _ _ (Res.sl (Ek.pair (Ek.wp ([] : List Nat)) (Ek.wp ([] : List Nat))) 89 (aslv v7 64) (List.replicate 64 ((none : Option Nat), (none : Option Nat))) :: _ :: _ :: ow) := hp
  refine st_nil hf ?_
  refine th_n ?_
  refine wp_seq ?_
  refine wp_reg ?_
  refine st_buildA (vals := []) (cells := [.bool false, .pointer none, .float .f64 0, .int .i64 (0 : Int)]) hf (by decide) rfl (by simp []) (fun w => by kernel_rfl) ?_
  clear hf; intro a ha hf; clear ha
  have hp := hp.arNil 92
  refine st_boxW (ah := none) (co := (Fl.bits 0)) hf (by decide) hp rfl rfl (WP.nil _) rfl ?_
  clear hf; intro a w v10 k11 y12 hf hp0; clear hp; have hp := hp0; clear hp0
  replace hp : Hp _ _ _ (Res.ar 92 (([] : List Nat) ++ [k11]) (([] : List WayC) ++ [(false, none, (Fl.bits 0), (0 : Int))]) :: Res.sl (Ek.pair (Ek.wp (([] : List Nat) ++ [k11])) (Ek.wp (([] : List Nat) ++ [k11]))) 89 (aslv v7 64) (List.replicate 64 ((none : Option Nat), (none : Option Nat))) :: Res.sl (Ek.pair (Ek.wp (([] : List Nat) ++ [k11])) (Ek.wp (([] : List Nat) ++ [k11]))) 89 (aslv v3 64) (List.replicate 64 ((none : Option Nat), (none : Option Nat))) :: _ :: ow) := hp.impL (ImpL.same (ImpL.slx rfl (pair_up (wp_up _) (wp_up _)) (ImpL.slx rfl (pair_up (wp_up _) (wp_up _)) (ImpL.same (ImpL.refl ow)))))
  have hc13 : 0 ≤ (0 : Int) ∧ (0 : Int) < (64 : Int) := by decide
  refine st_iaA (E := (Ek.pair (Ek.wp (([] : List Nat) ++ [k11])) (Ek.wp (([] : List Nat) ++ [k11])))) (N := 64) hf (by decide) Try.underlying89 (by kernel_rfl) rfl rfl rfl (hp.sl (i := 1) rfl) rfl hc13.1 hc13.2 ?_
  clear hf; intro a ha hf; clear ha
  have hc15 : 0 ≤ (0 : Int) ∧ (0 : Int) < (2 : Int) := by decide
  refine st_iaP (sz := 1) hf (by decide) Try.underlying88 (by kernel_rfl) rfl rfl rfl (Sl.isP (hp.sl (i := 1) rfl) (aslv_ix (hp.sl (i := 1) rfl) hc13).1 (aslv_ix (hp.sl (i := 1) rfl) hc13).2) hc15.1 hc15.2 ?_
  clear hf; intro a ha hf; clear ha
  refine st_stQ (E := (Ek.pair (Ek.wp (([] : List Nat) ++ [k11])) (Ek.wp (([] : List Nat) ++ [k11])))) (F := (Ek.wp (([] : List Nat) ++ [k11]))) (o := ((0 : Int)).toNat * 1) (Sub.fst (E := (Ek.wp (([] : List Nat) ++ [k11]))) (F := (Ek.wp (([] : List Nat) ++ [k11])))) hf (by kernel_rfl) hp (i := 1) rfl rfl rfl rfl (wp_cells y12) (aslv_ix (hp.sl (i := 1) rfl) hc13).1 (aslv_ix (hp.sl (i := 1) rfl) hc13).2 ?_
  clear hf; intro a w hf hp0; clear hp; have hp := hp0; clear hp0
  replace hp : Hp _ _ _ (_ :: Res.sl (Ek.pair (Ek.wp (([] : List Nat) ++ [k11])) (Ek.wp (([] : List Nat) ++ [k11]))) 89 (aslv v7 64) ((List.replicate 64 ((none : Option Nat), (none : Option Nat))).set ((0 : Int)).toNat ((some (([] : List WayC)).length), (gt (List.replicate 64 ((none : Option Nat), (none : Option Nat))) (0 : Int)).2)) :: _ :: _ :: ow) := hp
  refine st_nil hf ?_
  refine th_n ?_
  refine wp_seq ?_
  refine wp_seq ?_
  refine wp_reg ?_
  refine st_move hf rfl rfl (by decide) ?_
  clear hf; intro a ha hf; clear ha
  refine st_len (E := (Ek.pair Ek.c128 Ek.bool)) hf (by decide) Try.underlying27 rfl rfl (hl1.sl hp) ?_
  clear hf; intro a ha hf; clear ha
  refine st_move hf rfl rfl (by decide) ?_
  clear hf; intro a ha hf; clear ha
  refine st_nil hf ?_
  refine th_n ?_
  refine wp_block ?_
  obtain ⟨q128, hl, h⟩ := bnd h
  have hp : Hp _ _ _ (_ :: _ :: _ :: _ :: ow) := Hp.sel (pre := [Res.ar 92 (([] : List Nat) ++ [k11]) (([] : List WayC) ++ [(false, none, (Fl.bits 0), (0 : Int))]), Res.sl (Ek.pair (Ek.wp (([] : List Nat) ++ [k11])) (Ek.wp (([] : List Nat) ++ [k11]))) 89 (aslv v7 64) ((List.replicate 64 ((none : Option Nat), (none : Option Nat))).set ((0 : Int)).toNat ((some (([] : List WayC)).length), (gt (List.replicate 64 ((none : Option Nat), (none : Option Nat))) (0 : Int)).2)), Res.sl (Ek.pair (Ek.wp (([] : List Nat) ++ [k11])) (Ek.wp (([] : List Nat) ++ [k11]))) 89 (aslv v3 64) (List.replicate 64 ((none : Option Nat), (none : Option Nat))), Res.obj 40 v1 [.int .i64 cx0_Length, .int .u32 cx0_One, .int .u32 cx0_Two]]) (tail := ow) (rs' := [Res.ar 92 (([] : List Nat) ++ [k11]) (([] : List WayC) ++ [(false, none, (Fl.bits 0), (0 : Int))]), Res.sl (Ek.pair (Ek.wp (([] : List Nat) ++ [k11])) (Ek.wp (([] : List Nat) ++ [k11]))) 89 (aslv v7 64) ((List.replicate 64 ((none : Option Nat), (none : Option Nat))).set ((0 : Int)).toNat ((some (([] : List WayC)).length), (gt (List.replicate 64 ((none : Option Nat), (none : Option Nat))) (0 : Int)).2)), Res.obj 40 v1 [.int .i64 cx0_Length, .int .u32 cx0_One, .int .u32 cx0_Two], Res.sl (Ek.pair (Ek.wp (([] : List Nat) ++ [k11])) (Ek.wp (([] : List Nat) ++ [k11]))) 89 (aslv v3 64) (List.replicate 64 ((none : Option Nat), (none : Option Nat)))]) hp [0, 1, 3, 2] (by decide) (by simp) rfl
  refine wp_loop_pure (f := (f_soft_run.s1 cx0_Length cx0_One cx0_Two l1 last2 q5)) (s := ((([] : List WayC) ++ [(false, none, (Fl.bits 0), (0 : Int))]), ((List.replicate 64 ((none : Option Nat), (none : Option Nat))).set ((0 : Int)).toNat ((some (([] : List WayC)).length), (gt (List.replicate 64 ((none : Option Nat), (none : Option Nat))) (0 : Int)).2)), (0 : Int))) (fun s a w => ∃ (bs17 : List Nat), Fr 100 a [(1, vl1), (2, .int .i64 last2), (3, optr v1 0), (6, v3), (7, .int .i64 q5.1), (9, .func (.func 62) #[] #[]), (10, v7), (32, vl1), (33, .int .i64 (l1.length : Int)), (34, .int .i64 s.2.2)] ∧ Hp S w0 w (Res.ar 92 bs17 s.1 :: Res.sl (Ek.pair (Ek.wp bs17) (Ek.wp bs17)) 89 (aslv v7 64) s.2.1 :: Res.obj 40 v1 [.int .i64 cx0_Length, .int .u32 cx0_One, .int .u32 cx0_Two] :: Res.sl (Ek.pair (Ek.wp bs17) (Ek.wp bs17)) 89 (aslv v3 64) (List.replicate 64 ((none : Option Nat), (none : Option Nat))) :: ow)) (fun q e a w => e = .exit 0 ∧ ∃ (bs20 : List Nat), Fr 100 a [(6, v3), (10, v7)] ∧ Hp S w0 w (Res.ar 92 bs20 q.1 :: Res.sl (Ek.pair (Ek.wp bs20) (Ek.wp bs20)) 89 (aslv v7 64) q.2 :: Res.sl (Ek.pair (Ek.wp bs20) (Ek.wp bs20)) 89 (aslv v3 64) (List.replicate 64 ((none : Option Nat), (none : Option Nat))) :: ow)) ?_ hl ⟨_, hf.sub ⟨rfl, rfl, rfl, rfl, rfl, rfl, rfl, rfl, rfl, rfl, trivial⟩, hp⟩ ?_
  ·
   clear hl hf hp
   intro s x a w h hI
   obtain ⟨nd, now10, t34⟩ := s
   obtain ⟨bs17, hf, hp⟩ : ∃ (bs17 : List Nat), Fr 100 a [(1, vl1), (2, .int .i64 last2), (3, optr v1 0), (6, v3), (7, .int .i64 q5.1), (9, .func (.func 62) #[] #[]), (10, v7), (32, vl1), (33, .int .i64 (l1.length : Int)), (34, .int .i64 t34)] ∧ Hp S w0 w (Res.ar 92 bs17 nd :: Res.sl (Ek.pair (Ek.wp bs17) (Ek.wp bs17)) 89 (aslv v7 64) now10 :: Res.obj 40 v1 [.int .i64 cx0_Length, .int .u32 cx0_One, .int .u32 cx0_Two] :: Res.sl (Ek.pair (Ek.wp bs17) (Ek.wp bs17)) 89 (aslv v3 64) (List.replicate 64 ((none : Option Nat), (none : Option Nat))) :: ow) := hI
   replace h : f_soft_run.s1c cx0_Length cx0_One cx0_Two l1 last2 q5 nd now10 t34 = some x := h
   unfold f_soft_run.s1c at h
   refine wp_seq ?_
   refine wp_reg ?_
   refine st_ilss hf (by decide) rfl rfl rfl ?_
   clear hf; intro a ha hf; clear ha
   refine st_nil hf ?_
   refine th_n ?_
   refine wp_seq ?_
   refine wp_if hf rfl (fun hb => ?_) (fun hb => ?_)
   ·
    replace h := ifT h hb
    refine wp_skip ?_
    refine th_n ?_
    refine wp_seq ?_
    refine wp_block ?_
    refine wp_seq ?_
    refine wp_reg ?_
    refine st_move hf rfl rfl (by decide) ?_
    clear hf; intro a ha hf; clear ha
    obtain ⟨hc22, h⟩ := chk h
    refine st_index (E := (Ek.pair Ek.c128 Ek.bool)) hf (by decide) Try.underlying27 elt35 rfl rfl rfl (hl1.sl hp) hc22.1 hc22.2 ?_
    clear hf; intro a ha hf; clear ha
    refine st_ldQA (F := (Ek.pair Ek.c128 Ek.bool)) (yv := (gt l1 t34)) (m := 2) hf (by decide) (by kernel_rfl) rfl rfl rfl (Part.whole (hl1.sl hp) hc22.1 hc22.2) ?_
    clear hf; intro a cs23 hr24 ha hf; clear ha
    obtain ⟨_, _, rfl, ⟨bb25, bb26, rfl, y27, y28⟩, rfl⟩ := hr24
    replace hf : Fr _ _ ((38, .agg #[.complex .f64 bb25 bb26, .bool ((gt l1 t34).2)]) :: _) := hf
    refine st_alloc (cs := [.complex .f64 0 0, .bool false]) (zv := .agg #[.complex .f64 0 0, .bool false]) hf (by decide) (by kernel_rfl) rfl hp rfl ?_
    clear hf; intro a w v29 hf hp0; clear hp; have hp := hp0; clear hp0
    replace hp : Hp _ _ _ (Res.obj 35 v29 [.complex .f64 0 0, .bool false] :: Res.ar 92 bs17 nd :: Res.sl (Ek.pair (Ek.wp bs17) (Ek.wp bs17)) 89 (aslv v7 64) now10 :: _ :: Res.sl (Ek.pair (Ek.wp bs17) (Ek.wp bs17)) 89 (aslv v3 64) (List.replicate 64 ((none : Option Nat), (none : Option Nat))) :: ow) := hp
    refine st_assign hf rfl rfl (by decide) ?_
    clear hf; intro a ha hf; clear ha
    refine st_stO (us := [.complex .f64 bb25 bb26, .bool ((gt l1 t34).2)]) hf hp (i := 0) rfl rfl rfl rfl rfl (by rfl) (by kernel_rfl) (Nat.le_of_ble_eq_true rfl) ?_
    clear hf; intro a w hf hp0; clear hp; have hp := hp0; clear hp0
    replace hp : Hp _ _ _ (Res.obj 35 v29 [.complex .f64 bb25 bb26, .bool ((gt l1 t34).2)] :: _ :: _ :: _ :: _ :: ow) := hp
    refine st_nil hf ?_
    refine th_n ?_
    refine wp_seq ?_
    refine wp_reg ?_
    refine st_allocA (E := (Ek.pair (Ek.wp bs17) (Ek.wp bs17))) (N := 64) (zs := List.replicate 64 ((none : Option Nat), (none : Option Nat))) (zv := .agg ((List.replicate 64 ([.pointer none, .pointer none] : List Value)).flatten).toArray) hf (by decide) (by decide) (by decide) (by kernel_rfl) (reps_replicate (E := (Ek.pair (Ek.wp bs17) (Ek.wp bs17))) (vs := ([.pointer none, .pointer none] : List Value)) (x := ((none : Option Nat), (none : Option Nat))) ⟨[.pointer none], [.pointer none], rfl, ⟨_, rfl, WP.nil _⟩, ⟨_, rfl, WP.nil _⟩⟩ 64) (by simp) hp rfl ?_
    clear hf; intro a w v31 hf hp0; clear hp; have hp := hp0; clear hp0
    replace hp : Hp _ _ _ (Res.sl (Ek.pair (Ek.wp bs17) (Ek.wp bs17)) 89 (aslv v31 64) (List.replicate 64 ((none : Option Nat), (none : Option Nat))) :: _ :: _ :: _ :: _ :: _ :: ow) := hp
    refine st_nil hf ?_
    refine th_n ?_
    refine wp_seq ?_
    refine wp_seq ?_
    refine wp_reg ?_
    refine st_move hf rfl rfl (by decide) ?_
    clear hf; intro a ha hf; clear ha
    refine st_move hf rfl rfl (by decide) ?_
    clear hf; intro a ha hf; clear ha
    refine st_nil hf ?_
    refine th_n ?_
    refine wp_block ?_
    obtain ⟨q116, hl, h⟩ := bnd h
    have hp : Hp _ _ _ (_ :: _ :: _ :: _ :: _ :: _ :: ow) := Hp.sel (pre := [Res.sl (Ek.pair (Ek.wp bs17) (Ek.wp bs17)) 89 (aslv v31 64) (List.replicate 64 ((none : Option Nat), (none : Option Nat))), Res.obj 35 v29 [.complex .f64 bb25 bb26, .bool ((gt l1 t34).2)], Res.ar 92 bs17 nd, Res.sl (Ek.pair (Ek.wp bs17) (Ek.wp bs17)) 89 (aslv v7 64) now10, Res.obj 40 v1 [.int .i64 cx0_Length, .int .u32 cx0_One, .int .u32 cx0_Two], Res.sl (Ek.pair (Ek.wp bs17) (Ek.wp bs17)) 89 (aslv v3 64) (List.replicate 64 ((none : Option Nat), (none : Option Nat)))]) (tail := ow) (rs' := [Res.ar 92 bs17 nd, Res.sl (Ek.pair (Ek.wp bs17) (Ek.wp bs17)) 89 (aslv v31 64) (List.replicate 64 ((none : Option Nat), (none : Option Nat))), Res.obj 40 v1 [.int .i64 cx0_Length, .int .u32 cx0_One, .int .u32 cx0_Two], Res.sl (Ek.pair (Ek.wp bs17) (Ek.wp bs17)) 89 (aslv v3 64) (List.replicate 64 ((none : Option Nat), (none : Option Nat))), Res.sl (Ek.pair (Ek.wp bs17) (Ek.wp bs17)) 89 (aslv v7 64) now10, Res.obj 35 v29 [.complex .f64 bb25 bb26, .bool ((gt l1 t34).2)]]) hp [2, 0, 4, 5, 3, 1] (by decide) (by simp) rfl
    refine wp_loop_pure (f := (f_soft_run.s2 cx0_Length cx0_One cx0_Two l1 last2 q5 now10 t34)) (s := (nd, (List.replicate 64 ((none : Option Nat), (none : Option Nat))), (0 : Int))) (fun s a w => ∃ (bs34 : List Nat), Fr 100 a [(1, vl1), (2, .int .i64 last2), (3, optr v1 0), (6, v3), (7, .int .i64 q5.1), (9, .func (.func 62) #[] #[]), (10, v7), (11, .int .i64 t34), (12, optr v29 0), (13, v31), (32, vl1), (33, .int .i64 (l1.length : Int)), (34, .int .i64 t34), (39, .int .i64 q5.1), (40, .int .i64 s.2.2)] ∧ Hp S w0 w (Res.ar 92 bs34 s.1 :: Res.sl (Ek.pair (Ek.wp bs34) (Ek.wp bs34)) 89 (aslv v31 64) s.2.1 :: Res.obj 40 v1 [.int .i64 cx0_Length, .int .u32 cx0_One, .int .u32 cx0_Two] :: Res.sl (Ek.pair (Ek.wp bs34) (Ek.wp bs34)) 89 (aslv v3 64) (List.replicate 64 ((none : Option Nat), (none : Option Nat))) :: Res.sl (Ek.pair (Ek.wp bs34) (Ek.wp bs34)) 89 (aslv v7 64) now10 :: Res.obj 35 v29 [.complex .f64 bb25 bb26, .bool ((gt l1 t34).2)] :: ow)) (fun q e a w => e = .exit 2 ∧ ∃ (bs37 : List Nat), Fr 100 a [(1, vl1), (2, .int .i64 last2), (3, optr v1 0), (6, v3), (7, .int .i64 q5.1), (9, .func (.func 62) #[] #[]), (10, v7), (13, v31), (32, vl1), (33, .int .i64 (l1.length : Int)), (34, .int .i64 t34)] ∧ Hp S w0 w (Res.ar 92 bs37 q.1 :: Res.sl (Ek.pair (Ek.wp bs37) (Ek.wp bs37)) 89 (aslv v31 64) q.2 :: Res.obj 40 v1 [.int .i64 cx0_Length, .int .u32 cx0_One, .int .u32 cx0_Two] :: Res.sl (Ek.pair (Ek.wp bs37) (Ek.wp bs37)) 89 (aslv v3 64) (List.replicate 64 ((none : Option Nat), (none : Option Nat))) :: Res.sl (Ek.pair (Ek.wp bs37) (Ek.wp bs37)) 89 (aslv v7 64) now10 :: ow)) ?_ hl ⟨_, hf.sub ⟨rfl, rfl, rfl, rfl, rfl, rfl, rfl, rfl, rfl, rfl, rfl, rfl, rfl, rfl, rfl, trivial⟩, hp⟩ ?_
    ·
     clear hl hf hp
     intro s x a w h hI
     obtain ⟨nd, then13, t40⟩ := s
     obtain ⟨bs34, hf, hp⟩ : ∃ (bs34 : List Nat), Fr 100 a [(1, vl1), (2, .int .i64 last2), (3, optr v1 0), (6, v3), (7, .int .i64 q5.1), (9, .func (.func 62) #[] #[]), (10, v7), (11, .int .i64 t34), (12, optr v29 0), (13, v31), (32, vl1), (33, .int .i64 (l1.length : Int)), (34, .int .i64 t34), (39, .int .i64 q5.1), (40, .int .i64 t40)] ∧ Hp S w0 w (Res.ar 92 bs34 nd :: Res.sl (Ek.pair (Ek.wp bs34) (Ek.wp bs34)) 89 (aslv v31 64) then13 :: Res.obj 40 v1 [.int .i64 cx0_Length, .int .u32 cx0_One, .int .u32 cx0_Two] :: Res.sl (Ek.pair (Ek.wp bs34) (Ek.wp bs34)) 89 (aslv v3 64) (List.replicate 64 ((none : Option Nat), (none : Option Nat))) :: Res.sl (Ek.pair (Ek.wp bs34) (Ek.wp bs34)) 89 (aslv v7 64) now10 :: Res.obj 35 v29 [.complex .f64 bb25 bb26, .bool ((gt l1 t34).2)] :: ow) := hI
     replace h : f_soft_run.s2c cx0_Length cx0_One cx0_Two l1 last2 q5 now10 t34 nd then13 t40 = some x := h
     unfold f_soft_run.s2c at h
     refine wp_seq ?_
     refine wp_reg ?_
     refine st_ilss hf (by decide) rfl rfl rfl ?_
     clear hf; intro a ha hf; clear ha
     refine st_nil hf ?_
     refine th_n ?_
     refine wp_seq ?_
     refine wp_if hf rfl (fun hb => ?_) (fun hb => ?_)
     ·
      replace h := ifT h hb
      refine wp_skip ?_
      refine th_n ?_
      refine wp_seq ?_
      refine wp_block ?_
      refine wp_seq ?_
      refine wp_reg ?_
      refine st_move hf rfl rfl (by decide) ?_
      clear hf; intro a ha hf; clear ha
      refine st_assign hf rfl rfl (by decide) ?_
      clear hf; intro a ha hf; clear ha
      refine st_nil hf ?_
      refine th_n ?_
      refine wp_seq ?_
      refine wp_reg ?_
      refine st_move hf rfl rfl (by decide) ?_
      clear hf; intro a ha hf; clear ha
      obtain ⟨hc39, h⟩ := chk h
      refine st_iaA (E := (Ek.pair (Ek.wp bs34) (Ek.wp bs34))) (N := 64) hf (by decide) Try.underlying89 (by kernel_rfl) rfl rfl rfl (hp.sl (i := 4) rfl) rfl hc39.1 hc39.2 ?_
      clear hf; intro a ha hf; clear ha
      refine st_ldQA (F := (Ek.pair (Ek.wp bs34) (Ek.wp bs34))) (yv := (gt now10 t40)) (m := 2) hf (by decide) (by kernel_rfl) rfl rfl rfl (Part.whole (hp.sl (i := 4) rfl) (aslv_ix (hp.sl (i := 4) rfl) hc39).1 (aslv_ix (hp.sl (i := 4) rfl) hc39).2) ?_
      clear hf; intro a cs41 hr42 ha hf; clear ha
      obtain ⟨_, _, rfl, ⟨v43, rfl, y44⟩, ⟨v45, rfl, y46⟩⟩ := hr42
      replace hf : Fr _ _ ((45, .agg #[v43, v45]) :: _) := hf
      refine st_move hf rfl rfl (by decide) ?_
      clear hf; intro a ha hf; clear ha
      refine st_nil hf ?_
      refine th_n ?_
      refine wp_block ?_
      obtain ⟨q115, hl, h⟩ := bnd h
      refine wp_loop_pure (f := (f_soft_run.s3 cx0_Length cx0_One cx0_Two l1 last2 now10 t34 t40)) (s := (nd, then13, (0 : Int))) (fun s a w => ∃ (bs48 : List Nat), Fr 100 a [(1, vl1), (2, .int .i64 last2), (3, optr v1 0), (6, v3), (7, .int .i64 q5.1), (9, .func (.func 62) #[] #[]), (10, v7), (11, .int .i64 t34), (12, optr v29 0), (13, v31), (14, .int .i64 t40), (32, vl1), (33, .int .i64 (l1.length : Int)), (34, .int .i64 t34), (39, .int .i64 q5.1), (40, .int .i64 t40), (45, .agg #[v43, v45]), (46, .int .i64 s.2.2)] ∧ WP bs48 v43 ((gt now10 t40).1) ∧ WP bs48 v45 ((gt now10 t40).2) ∧ Hp S w0 w (Res.ar 92 bs48 s.1 :: Res.sl (Ek.pair (Ek.wp bs48) (Ek.wp bs48)) 89 (aslv v31 64) s.2.1 :: Res.obj 40 v1 [.int .i64 cx0_Length, .int .u32 cx0_One, .int .u32 cx0_Two] :: Res.sl (Ek.pair (Ek.wp bs48) (Ek.wp bs48)) 89 (aslv v3 64) (List.replicate 64 ((none : Option Nat), (none : Option Nat))) :: Res.sl (Ek.pair (Ek.wp bs48) (Ek.wp bs48)) 89 (aslv v7 64) now10 :: Res.obj 35 v29 [.complex .f64 bb25 bb26, .bool ((gt l1 t34).2)] :: ow)) (fun q e a w => e = .exit 4 ∧ ∃ (bs53 : List Nat), Fr 100 a [(1, vl1), (2, .int .i64 last2), (3, optr v1 0), (6, v3), (7, .int .i64 q5.1), (9, .func (.func 62) #[] #[]), (10, v7), (11, .int .i64 t34), (12, optr v29 0), (13, v31), (32, vl1), (33, .int .i64 (l1.length : Int)), (34, .int .i64 t34), (39, .int .i64 q5.1), (40, .int .i64 t40)] ∧ Hp S w0 w (Res.ar 92 bs53 q.1 :: Res.sl (Ek.pair (Ek.wp bs53) (Ek.wp bs53)) 89 (aslv v31 64) q.2 :: Res.obj 40 v1 [.int .i64 cx0_Length, .int .u32 cx0_One, .int .u32 cx0_Two] :: Res.sl (Ek.pair (Ek.wp bs53) (Ek.wp bs53)) 89 (aslv v3 64) (List.replicate 64 ((none : Option Nat), (none : Option Nat))) :: Res.sl (Ek.pair (Ek.wp bs53) (Ek.wp bs53)) 89 (aslv v7 64) now10 :: Res.obj 35 v29 [.complex .f64 bb25 bb26, .bool ((gt l1 t34).2)] :: ow)) ?_ hl ⟨_, hf.sub ⟨rfl, rfl, rfl, rfl, rfl, rfl, rfl, rfl, rfl, rfl, rfl, rfl, rfl, rfl, rfl, rfl, rfl, rfl, trivial⟩, y44, y46, hp⟩ ?_
      ·
       clear hl hf hp
       intro s x a w h hI
       obtain ⟨nd, then13, t46⟩ := s
       obtain ⟨bs48, hf, y50, y51, hp⟩ : ∃ (bs48 : List Nat), Fr 100 a [(1, vl1), (2, .int .i64 last2), (3, optr v1 0), (6, v3), (7, .int .i64 q5.1), (9, .func (.func 62) #[] #[]), (10, v7), (11, .int .i64 t34), (12, optr v29 0), (13, v31), (14, .int .i64 t40), (32, vl1), (33, .int .i64 (l1.length : Int)), (34, .int .i64 t34), (39, .int .i64 q5.1), (40, .int .i64 t40), (45, .agg #[v43, v45]), (46, .int .i64 t46)] ∧ WP bs48 v43 ((gt now10 t40).1) ∧ WP bs48 v45 ((gt now10 t40).2) ∧ Hp S w0 w (Res.ar 92 bs48 nd :: Res.sl (Ek.pair (Ek.wp bs48) (Ek.wp bs48)) 89 (aslv v31 64) then13 :: Res.obj 40 v1 [.int .i64 cx0_Length, .int .u32 cx0_One, .int .u32 cx0_Two] :: Res.sl (Ek.pair (Ek.wp bs48) (Ek.wp bs48)) 89 (aslv v3 64) (List.replicate 64 ((none : Option Nat), (none : Option Nat))) :: Res.sl (Ek.pair (Ek.wp bs48) (Ek.wp bs48)) 89 (aslv v7 64) now10 :: Res.obj 35 v29 [.complex .f64 bb25 bb26, .bool ((gt l1 t34).2)] :: ow) := hI
       replace h : f_soft_run.s3c cx0_Length cx0_One cx0_Two l1 last2 now10 t34 t40 nd then13 t46 = some x := h
       unfold f_soft_run.s3c at h
       refine wp_seq ?_
       refine wp_reg ?_
       refine st_ilss hf (by decide) rfl rfl rfl ?_
       clear hf; intro a ha hf; clear ha
       refine st_nil hf ?_
       refine th_n ?_
       refine wp_seq ?_
       refine wp_if hf rfl (fun hb => ?_) (fun hb => ?_)
       ·
        replace h := ifT h hb
        refine wp_skip ?_
        refine th_n ?_
        refine wp_seq ?_
        refine wp_block ?_
        refine wp_seq ?_
        refine wp_reg ?_
        obtain ⟨hc55, h⟩ := chk h
        refine st_idx2 hf (by decide) Try.underlying88 pl86 (by kernel_rfl) rfl rfl rfl hc55 ?_
        clear hf; intro a ha hf; clear ha
        refine st_assign hf rfl rfl (by decide) ?_
        clear hf; intro a ha hf; clear ha
        refine st_nil hf ?_
        refine th_n ?_
        refine wp_seq ?_
        refine wp_seq ?_
        refine wp_reg ?_
        refine st_move hf rfl rfl (by decide) ?_
        clear hf; intro a ha hf; clear ha
        refine st_wnilE hf (by decide) Try.underlying86 rfl rfl rfl (WP.sel y50 y51 hc55) ?_
        clear hf; intro a ha hf; clear ha
        refine st_nil hf ?_
        refine th_n ?_
        refine wp_if hf rfl (fun hb => ?_) (fun hb => ?_)
        ·
         replace h := ifT h hb
         refine wp_exit ?_
         refine th_e ?_
         refine ib_same ?_
         refine th_n ?_
         refine wp_reg ?_
         refine st_iadd hf (by decide) rfl rfl rfl ?_
         clear hf; intro a ha hf; clear ha
         refine st_move hf rfl rfl (by decide) ?_
         clear hf; intro a ha hf; clear ha
         refine st_nil hf ?_
         obtain rfl := Option.some.inj h
         exact rnd_l ⟨_, hf.sub ⟨rfl, rfl, rfl, rfl, rfl, rfl, rfl, rfl, rfl, rfl, rfl, rfl, rfl, rfl, rfl, rfl, rfl, rfl, trivial⟩, y50, y51, hp⟩
        replace h := ifF h hb
        refine wp_skip ?_
        refine th_n ?_
        refine wp_seq ?_
        refine wp_reg ?_
        refine st_build (E := Ek.bool) (xs := [false, true]) hf (by decide) elt4 Try.underlying25 hp (vals := #[(0, .bool false), (1, .bool true)]) (cells := #[.bool false, .bool true]) rfl (by simp [hf.ev (x := (Operand.const (.bool false))) rfl, hf.ev (x := (Operand.const (.bool true))) rfl]) (Nat.le_of_ble_eq_true rfl) (Nat.le_of_ble_eq_true rfl) (z := .bool false) (by kernel_rfl) (by kernel_rfl) rfl (reps_cons (cs := [.bool false]) rfl (reps_cons (cs := [.bool true]) rfl (reps_nil _))) ?_
        clear hf; intro a w v56 hf hp0; clear hp; have hp := hp0; clear hp0
        replace hp : Hp _ _ _ (Res.sl Ek.bool 4 v56 ([false, true]) :: Res.ar 92 bs48 nd :: Res.sl (Ek.pair (Ek.wp bs48) (Ek.wp bs48)) 89 (aslv v31 64) then13 :: _ :: Res.sl (Ek.pair (Ek.wp bs48) (Ek.wp bs48)) 89 (aslv v3 64) (List.replicate 64 ((none : Option Nat), (none : Option Nat))) :: Res.sl (Ek.pair (Ek.wp bs48) (Ek.wp bs48)) 89 (aslv v7 64) now10 :: _ :: ow) := hp
        refine st_len (E := Ek.bool) hf (by decide) Try.underlying25 rfl rfl (hp.sl (i := 0) rfl) ?_
        clear hf; intro a ha hf; clear ha
        refine st_move hf rfl rfl (by decide) ?_
        clear hf; intro a ha hf; clear ha
        refine st_nil hf ?_
        refine th_n ?_
        refine wp_block ?_
        obtain ⟨q114, hl, h⟩ := bnd h
        have hp : Hp _ _ _ (_ :: _ :: _ :: _ :: _ :: _ :: _ :: ow) := Hp.sel (pre := [Res.sl Ek.bool 4 v56 ([false, true]), Res.ar 92 bs48 nd, Res.sl (Ek.pair (Ek.wp bs48) (Ek.wp bs48)) 89 (aslv v31 64) then13, Res.obj 40 v1 [.int .i64 cx0_Length, .int .u32 cx0_One, .int .u32 cx0_Two], Res.sl (Ek.pair (Ek.wp bs48) (Ek.wp bs48)) 89 (aslv v3 64) (List.replicate 64 ((none : Option Nat), (none : Option Nat))), Res.sl (Ek.pair (Ek.wp bs48) (Ek.wp bs48)) 89 (aslv v7 64) now10, Res.obj 35 v29 [.complex .f64 bb25 bb26, .bool ((gt l1 t34).2)]]) (tail := ow) (rs' := [Res.ar 92 bs48 nd, Res.sl (Ek.pair (Ek.wp bs48) (Ek.wp bs48)) 89 (aslv v31 64) then13, Res.obj 40 v1 [.int .i64 cx0_Length, .int .u32 cx0_One, .int .u32 cx0_Two], Res.sl (Ek.pair (Ek.wp bs48) (Ek.wp bs48)) 89 (aslv v3 64) (List.replicate 64 ((none : Option Nat), (none : Option Nat))), Res.sl (Ek.pair (Ek.wp bs48) (Ek.wp bs48)) 89 (aslv v7 64) now10, Res.obj 35 v29 [.complex .f64 bb25 bb26, .bool ((gt l1 t34).2)], Res.sl Ek.bool 4 v56 ([false, true])]) hp [1, 2, 3, 4, 5, 6, 0] (by decide) (by simp) rfl
        refine wp_loop_pure (f := (f_soft_run.s4 cx0_Length cx0_One cx0_Two l1 last2 now10 t34 t40 t46)) (s := (nd, then13, (0 : Int))) (fun s a w => ∃ (bs59 : List Nat), Fr 100 a [(1, vl1), (2, .int .i64 last2), (3, optr v1 0), (6, v3), (7, .int .i64 q5.1), (9, .func (.func 62) #[] #[]), (10, v7), (11, .int .i64 t34), (12, optr v29 0), (13, v31), (14, .int .i64 t40), (16, (gtv [v43, v45] t46)), (32, vl1), (33, .int .i64 (l1.length : Int)), (34, .int .i64 t34), (39, .int .i64 q5.1), (40, .int .i64 t40), (45, .agg #[v43, v45]), (46, .int .i64 t46), (51, v56), (52, .int .i64 (([false, true]).length : Int)), (53, .int .i64 s.2.2)] ∧ WP bs59 (gtv [v43, v45] t46) (gt [(gt now10 t40).1, (gt now10 t40).2] t46) ∧ WP bs59 v43 ((gt now10 t40).1) ∧ WP bs59 v45 ((gt now10 t40).2) ∧ Hp S w0 w (Res.ar 92 bs59 s.1 :: Res.sl (Ek.pair (Ek.wp bs59) (Ek.wp bs59)) 89 (aslv v31 64) s.2.1 :: Res.obj 40 v1 [.int .i64 cx0_Length, .int .u32 cx0_One, .int .u32 cx0_Two] :: Res.sl (Ek.pair (Ek.wp bs59) (Ek.wp bs59)) 89 (aslv v3 64) (List.replicate 64 ((none : Option Nat), (none : Option Nat))) :: Res.sl (Ek.pair (Ek.wp bs59) (Ek.wp bs59)) 89 (aslv v7 64) now10 :: Res.obj 35 v29 [.complex .f64 bb25 bb26, .bool ((gt l1 t34).2)] :: Res.sl Ek.bool 4 v56 ([false, true]) :: ow)) (fun q e a w => e = .exit 6 ∧ ∃ (bs65 : List Nat), Fr 100 a [(1, vl1), (2, .int .i64 last2), (3, optr v1 0), (6, v3), (7, .int .i64 q5.1), (9, .func (.func 62) #[] #[]), (10, v7), (11, .int .i64 t34), (12, optr v29 0), (13, v31), (14, .int .i64 t40), (32, vl1), (33, .int .i64 (l1.length : Int)), (34, .int .i64 t34), (39, .int .i64 q5.1), (40, .int .i64 t40), (45, .agg #[v43, v45]), (46, .int .i64 t46)] ∧ WP bs65 v43 ((gt now10 t40).1) ∧ WP bs65 v45 ((gt now10 t40).2) ∧ Hp S w0 w (Res.ar 92 bs65 q.1 :: Res.sl (Ek.pair (Ek.wp bs65) (Ek.wp bs65)) 89 (aslv v31 64) q.2 :: Res.obj 40 v1 [.int .i64 cx0_Length, .int .u32 cx0_One, .int .u32 cx0_Two] :: Res.sl (Ek.pair (Ek.wp bs65) (Ek.wp bs65)) 89 (aslv v3 64) (List.replicate 64 ((none : Option Nat), (none : Option Nat))) :: Res.sl (Ek.pair (Ek.wp bs65) (Ek.wp bs65)) 89 (aslv v7 64) now10 :: Res.obj 35 v29 [.complex .f64 bb25 bb26, .bool ((gt l1 t34).2)] :: ow)) ?_ hl ⟨_, hf.sub ⟨rfl, rfl, rfl, rfl, rfl, rfl, rfl, rfl, rfl, rfl, rfl, rfl, rfl, rfl, rfl, rfl, rfl, rfl, rfl, rfl, rfl, rfl, trivial⟩, (WP.sel y50 y51 hc55), y50, y51, hp⟩ ?_
        ·
         clear hl hf hp
         intro s x a w h hI
         obtain ⟨nd, then13, t53⟩ := s
         obtain ⟨bs59, hf, y61, y62, y63, hp⟩ : ∃ (bs59 : List Nat), Fr 100 a [(1, vl1), (2, .int .i64 last2), (3, optr v1 0), (6, v3), (7, .int .i64 q5.1), (9, .func (.func 62) #[] #[]), (10, v7), (11, .int .i64 t34), (12, optr v29 0), (13, v31), (14, .int .i64 t40), (16, (gtv [v43, v45] t46)), (32, vl1), (33, .int .i64 (l1.length : Int)), (34, .int .i64 t34), (39, .int .i64 q5.1), (40, .int .i64 t40), (45, .agg #[v43, v45]), (46, .int .i64 t46), (51, v56), (52, .int .i64 (([false, true]).length : Int)), (53, .int .i64 t53)] ∧ WP bs59 (gtv [v43, v45] t46) (gt [(gt now10 t40).1, (gt now10 t40).2] t46) ∧ WP bs59 v43 ((gt now10 t40).1) ∧ WP bs59 v45 ((gt now10 t40).2) ∧ Hp S w0 w (Res.ar 92 bs59 nd :: Res.sl (Ek.pair (Ek.wp bs59) (Ek.wp bs59)) 89 (aslv v31 64) then13 :: Res.obj 40 v1 [.int .i64 cx0_Length, .int .u32 cx0_One, .int .u32 cx0_Two] :: Res.sl (Ek.pair (Ek.wp bs59) (Ek.wp bs59)) 89 (aslv v3 64) (List.replicate 64 ((none : Option Nat), (none : Option Nat))) :: Res.sl (Ek.pair (Ek.wp bs59) (Ek.wp bs59)) 89 (aslv v7 64) now10 :: Res.obj 35 v29 [.complex .f64 bb25 bb26, .bool ((gt l1 t34).2)] :: Res.sl Ek.bool 4 v56 ([false, true]) :: ow) := hI
         replace h : f_soft_run.s4c cx0_Length cx0_One cx0_Two l1 last2 now10 t34 t40 t46 nd then13 t53 = some x := h
         unfold f_soft_run.s4c at h
         refine wp_seq ?_
         refine wp_reg ?_
         refine st_ilss hf (by decide) rfl rfl rfl ?_
         clear hf; intro a ha hf; clear ha
         refine st_nil hf ?_
         refine th_n ?_
         refine wp_seq ?_
         refine wp_if hf rfl (fun hb => ?_) (fun hb => ?_)
         ·
          replace h := ifT h hb
          refine wp_skip ?_
          refine th_n ?_
          refine wp_seq ?_
          refine wp_block ?_
          refine wp_seq ?_
          refine wp_reg ?_
          obtain ⟨hc69, h⟩ := chk h
          refine st_index (E := Ek.bool) hf (by decide) Try.underlying25 elt4 rfl rfl rfl (hp.sl (i := 6) rfl) hc69.1 hc69.2 ?_
          clear hf; intro a ha hf; clear ha
          refine st_ldB hf (by decide) pl4 rfl rfl (hp.sl (i := 6) rfl) hc69.1 hc69.2 ?_
          clear hf; intro a ha hf; clear ha
          refine st_assign hf rfl rfl (by decide) ?_
          clear hf; intro a ha hf; clear ha
          refine st_nil hf ?_
          refine th_n ?_
          refine wp_seq ?_
          refine wp_seq ?_
          refine wp_reg ?_
          refine st_move hf rfl rfl (by decide) ?_
          clear hf; intro a ha hf; clear ha
          refine st_move hf rfl rfl (by decide) ?_
          clear hf; intro a ha hf; clear ha
          refine wpList_cut 7 (fun a w => Fr 100 a [(1, vl1), (2, .int .i64 last2), (3, optr v1 0), (6, v3), (7, .int .i64 q5.1), (9, .func (.func 62) #[] #[]), (10, v7), (11, .int .i64 t34), (12, optr v29 0), (13, v31), (14, .int .i64 t40), (16, (gtv [v43, v45] t46)), (18, .bool (gt ([false, true]) t53)), (32, vl1), (33, .int .i64 (l1.length : Int)), (34, .int .i64 t34), (39, .int .i64 q5.1), (40, .int .i64 t40), (45, .agg #[v43, v45]), (46, .int .i64 t46), (51, v56), (52, .int .i64 (([false, true]).length : Int)), (53, .int .i64 t53), (65, .bool ((gt ([false, true]) t53) && (decide ((IntKind.i64.wrap ((l1.length : Int) - last2)) ≤ t34))))] ∧ Hp S w0 w (Res.ar 92 bs59 nd :: Res.sl (Ek.pair (Ek.wp bs59) (Ek.wp bs59)) 89 (aslv v31 64) then13 :: Res.obj 40 v1 [.int .i64 cx0_Length, .int .u32 cx0_One, .int .u32 cx0_Two] :: Res.sl (Ek.pair (Ek.wp bs59) (Ek.wp bs59)) 89 (aslv v3 64) (List.replicate 64 ((none : Option Nat), (none : Option Nat))) :: Res.sl (Ek.pair (Ek.wp bs59) (Ek.wp bs59)) 89 (aslv v7 64) now10 :: Res.obj 35 v29 [.complex .f64 bb25 bb26, .bool ((gt l1 t34).2)] :: Res.sl Ek.bool 4 v56 ([false, true]) :: ow)) ?_ ?_
          ·
           rcases Bool.eq_false_or_eq_true (gt ([false, true]) t53) with hb71 | hb71
           ·
            refine st_move hf (wantY hf rfl rfl hb71) rfl (by decide) ?_
            clear hf; intro a ha hf; clear ha
            refine st_move hf (wantY hf rfl rfl hb71) rfl (by decide) ?_
            clear hf; intro a ha hf; clear ha
            refine st_len (E := (Ek.pair Ek.c128 Ek.bool)) hf (by decide) Try.underlying27 (wantY hf rfl rfl hb71) rfl (hl1.sl hp) ?_
            clear hf; intro a ha hf; clear ha
            refine st_move hf (wantY hf rfl rfl hb71) rfl (by decide) ?_
            clear hf; intro a ha hf; clear ha
            refine st_isub hf (by decide) (wantY hf rfl rfl hb71) rfl rfl ?_
            clear hf; intro a ha hf; clear ha
            refine st_igeq hf (by decide) (wantY hf rfl rfl hb71) rfl rfl ?_
            clear hf; intro a ha hf; clear ha
            refine st_pick (v := .bool (decide ((IntKind.i64.wrap ((l1.length : Int) - last2)) ≤ t34))) hf rfl rfl (fun hb' => ?_) (fun hb' => ?_) (by decide) ?_
            · rfl
            · exact absurd (hb71.symm.trans hb') (by decide)
            clear hf; intro a ha hf; clear ha
            refine st_nil hf (th_n ?_)
            exact ⟨hf.sub ⟨rfl, rfl, rfl, rfl, rfl, rfl, rfl, rfl, rfl, rfl, rfl, rfl, rfl, rfl, rfl, rfl, rfl, rfl, rfl, rfl, rfl, rfl, rfl, (by rw [hb71]; rfl), trivial⟩, hp⟩
           refine st_skip hf (wantN hf rfl rfl hb71) rfl (by decide) ?_ rfl
           clear hf; intro a hf
           refine st_skip hf (wantN hf rfl rfl hb71) rfl (by decide) ?_ rfl
           clear hf; intro a hf
           refine st_skip hf (wantN hf rfl rfl hb71) rfl (by decide) ?_ rfl
           clear hf; intro a hf
           refine st_skip hf (wantN hf rfl rfl hb71) rfl (by decide) ?_ rfl
           clear hf; intro a hf
           refine st_skip hf (wantN hf rfl rfl hb71) rfl (by decide) ?_ rfl
           clear hf; intro a hf
           refine st_skip hf (wantN hf rfl rfl hb71) rfl (by decide) ?_ rfl
           clear hf; intro a hf
           refine st_pick (v := .bool false) hf rfl rfl (fun hb' => ?_) (fun hb' => ?_) (by decide) ?_
           · exact absurd (hb71.symm.trans hb') (by decide)
           · rfl
           clear hf; intro a ha hf; clear ha
           refine st_nil hf (th_n ?_)
           exact ⟨hf.sub ⟨rfl, rfl, rfl, rfl, rfl, rfl, rfl, rfl, rfl, rfl, rfl, rfl, rfl, rfl, rfl, rfl, rfl, rfl, rfl, rfl, rfl, rfl, rfl, (by rw [hb71]; rfl), trivial⟩, hp⟩
          rintro a w ⟨hf, hp⟩
          refine st_nil hf ?_
          refine th_n ?_
          refine wp_if hf rfl (fun hb => ?_) (fun hb => ?_)
          ·
           replace h := ifT h hb
           refine wp_exit ?_
           refine th_e ?_
           refine ib_same ?_
           refine th_n ?_
           refine wp_reg ?_
           refine st_iadd hf (by decide) rfl rfl rfl ?_
           clear hf; intro a ha hf; clear ha
           refine st_move hf rfl rfl (by decide) ?_
           clear hf; intro a ha hf; clear ha
           refine st_nil hf ?_
           obtain rfl := Option.some.inj h
           exact rnd_l ⟨_, hf.sub ⟨rfl, rfl, rfl, rfl, rfl, rfl, rfl, rfl, rfl, rfl, rfl, rfl, rfl, rfl, rfl, rfl, rfl, rfl, rfl, rfl, rfl, rfl, trivial⟩, y61, y62, y63, hp⟩
          replace h := ifF h hb
          refine wp_skip ?_
          refine th_n ?_
          refine wp_seq ?_
          refine wp_reg ?_
          refine st_ldOA (m := 3) (us := [.int .i64 cx0_Length, .int .u32 cx0_One, .int .u32 cx0_Two]) hf (by decide) (by kernel_rfl) rfl rfl (hp.ob (i := 2) rfl) rfl rfl ?_
          clear hf; intro a ha hf; clear ha
          refine st_move hf rfl rfl (by decide) ?_
          clear hf; intro a ha hf; clear ha
          refine st_move hf rfl rfl (by decide) ?_
          clear hf; intro a ha hf; clear ha
          obtain ⟨q72, hcall73, h⟩ := bnd h
          refine st_call hf (by decide) Try.func32 rfl rfl rfl rfl rfl (f_trellis_Code_Step_c hp _ _ _ _ _ hcall73) ?_
          rintro _ w ⟨rfl, hp0⟩
          clear hp; have hp := hp0; clear hp0
          replace hp : Hp _ _ _ (Res.ar 92 bs59 nd :: Res.sl (Ek.pair (Ek.wp bs59) (Ek.wp bs59)) 89 (aslv v31 64) then13 :: _ :: Res.sl (Ek.pair (Ek.wp bs59) (Ek.wp bs59)) 89 (aslv v3 64) (List.replicate 64 ((none : Option Nat), (none : Option Nat))) :: Res.sl (Ek.pair (Ek.wp bs59) (Ek.wp bs59)) 89 (aslv v7 64) now10 :: _ :: _ :: ow) := hp
          refine ⟨_, rfl, ?_⟩
          clear hf; intro a hf
          refine st_move hf rfl rfl (by decide) ?_
          clear hf; intro a ha hf; clear ha
          refine st_extract hf (by decide) rfl rfl rfl ?_
          clear hf; intro a ha hf; clear ha
          refine st_extract hf (by decide) rfl rfl rfl ?_
          clear hf; intro a ha hf; clear ha
          refine st_extract hf (by decide) rfl rfl rfl ?_
          clear hf; intro a ha hf; clear ha
          refine st_extract hf (by decide) rfl rfl rfl ?_
          clear hf; intro a ha hf; clear ha
          refine st_assign hf rfl rfl (by decide) ?_
          clear hf; intro a ha hf; clear ha
          refine st_assign hf rfl rfl (by decide) ?_
          clear hf; intro a ha hf; clear ha
          refine st_assign hf rfl rfl (by decide) ?_
          clear hf; intro a ha hf; clear ha
          refine st_assign hf rfl rfl (by decide) ?_
          clear hf; intro a ha hf; clear ha
          refine st_nil hf ?_
          refine th_n ?_
          obtain ⟨S74, hp75, rd76, up77, bk78⟩ := Hp.lendA hp (i := 0) rfl
          obtain ⟨S79, hp80, rd81, up82, bk83⟩ := Hp.lendO hp75 (i := 4) rfl
          have rl84 := ((((hl1.now hp).mono up77).now hp75).mono up82)
          have rl85 := rd81
          have rl86 := ((rd76.now hp75).mono up82)
          have fx87 := hp.sl (i := 1) rfl
          obtain ⟨hc88, h⟩ := chk h
          obtain ⟨n90, hx91, h⟩ := bnd h
          obtain ⟨v92, bb93, y94, y95, ho96⟩ := RdA.at rl86 y61 hx91
          obtain ⟨q97, hcall98, h⟩ := bnd h
          obtain ⟨q106, hcall107, h⟩ := bnd h
          refine wp_cutN (fun a w => ∃ (k104 : Nat), Fr 100 a [(1, vl1), (2, .int .i64 last2), (3, optr v1 0), (6, v3), (7, .int .i64 q5.1), (9, .func (.func 62) #[] #[]), (10, v7), (11, .int .i64 t34), (12, optr v29 0), (13, v31), (14, .int .i64 t40), (16, (gtv [v43, v45] t46)), (32, vl1), (33, .int .i64 (l1.length : Int)), (34, .int .i64 t34), (39, .int .i64 q5.1), (40, .int .i64 t40), (45, .agg #[v43, v45]), (46, .int .i64 t46), (51, v56), (52, .int .i64 (([false, true]).length : Int)), (53, .int .i64 t53)] ∧ Hp S w0 w (Res.ar 92 (bs59 ++ [k104]) (nd ++ [((gt ([false, true]) t53), (gt [(gt now10 t40).1, (gt now10 t40).2] t46), (fadd ((nth nd n90).2.2.1) q97), (0 : Int))]) :: Res.sl (Ek.pair (Ek.wp (bs59 ++ [k104])) (Ek.wp (bs59 ++ [k104]))) 89 (aslv v31 64) q106 :: Res.obj 35 v29 [.complex .f64 bb25 bb26, .bool ((gt l1 t34).2)] :: Res.obj 40 v1 [.int .i64 cx0_Length, .int .u32 cx0_One, .int .u32 cx0_Two] :: Res.sl (Ek.pair (Ek.wp (bs59 ++ [k104])) (Ek.wp (bs59 ++ [k104]))) 89 (aslv v3 64) (List.replicate 64 ((none : Option Nat), (none : Option Nat))) :: Res.sl (Ek.pair (Ek.wp (bs59 ++ [k104])) (Ek.wp (bs59 ++ [k104]))) 89 (aslv v7 64) now10 :: Res.sl Ek.bool 4 v56 ([false, true]) :: ow)) ?_ ?_
          ·
           have hp := hp80.same (Same.drew w)
           refine dr_begin' _ (fun w' => ∃ l, Hp S79 w w' l) [14, 16] (by kernel_rfl) ?_
           refine dr_takeP 0 (.int .i64 q72.1) rfl (by kernel_rfl) (by kernel_rfl) (by kernel_rfl) rfl rfl hf (by decide) rfl (fun w => ?_) ?_
           ·
            refine st_move hf rfl rfl (by decide) ?_
            clear hf; intro a ha hf
            exact st_nil hf (th_n ⟨ha, rfl⟩)
           clear hf; intro a hf
           refine dr_takeP 1 (eptr (aslv v31 64) q72.1 2) rfl (by kernel_rfl) (by kernel_rfl) (by kernel_rfl) rfl rfl hf (by decide) rfl (fun w => ?_) ?_
           ·
            refine st_iaA (E := (Ek.pair (Ek.wp bs59) (Ek.wp bs59))) (N := 64) hf (by decide) Try.underlying89 (by kernel_rfl) rfl rfl rfl fx87 rfl hc88.1 hc88.2 ?_
            clear hf; intro a ha hf
            exact st_nil hf (th_n ⟨ha, rfl⟩)
           clear hf; intro a hf
           refine dr_takeP 2 (.bool (gt ([false, true]) t53)) rfl (by kernel_rfl) (by kernel_rfl) (by kernel_rfl) rfl rfl hf (by decide) rfl (fun w => ?_) ?_
           ·
            refine st_move hf rfl rfl (by decide) ?_
            clear hf; intro a ha hf
            exact st_nil hf (th_n ⟨ha, rfl⟩)
           clear hf; intro a hf
           refine dr_takeP 3 ((gtv [v43, v45] t46)) rfl (by kernel_rfl) (by kernel_rfl) (by kernel_rfl) rfl rfl hf (by decide) rfl (fun w => ?_) ?_
           ·
            refine st_move hf rfl rfl (by decide) ?_
            clear hf; intro a ha hf
            exact st_nil hf (th_n ⟨ha, rfl⟩)
           clear hf; intro a hf
           refine dr_takeP 4 ((gtv [v43, v45] t46)) rfl (by kernel_rfl) (by kernel_rfl) (by kernel_rfl) rfl rfl hf (by decide) rfl (fun w => ?_) ?_
           ·
            refine st_move hf rfl rfl (by decide) ?_
            clear hf; intro a ha hf
            exact st_nil hf (th_n ⟨ha, rfl⟩)
           clear hf; intro a hf
           refine dr_nilE 5 rfl (by kernel_rfl) (by kernel_rfl) (by kernel_rfl) hf (by decide) rfl rfl (WP.ptr y61 hx91) ?_
           clear hf; intro a hf
           refine dr_takeP 6 (optr (gtv [v43, v45] t46) 2) rfl (by kernel_rfl) (by kernel_rfl) (by kernel_rfl) rfl rfl hf (by decide) rfl (fun w => ?_) ?_
           ·
            refine st_faP (off := 2) (sz := 1) hf (by decide) (by kernel_rfl) (by decide) rfl rfl (WP.isP y61 hx91) ?_
            clear hf; intro a ha hf
            exact st_nil hf (th_n ⟨ha, rfl⟩)
           clear hf; intro a hf
           refine dr_take2 7 (.float .f64 bb93) rfl (by kernel_rfl) (by kernel_rfl) (by kernel_rfl) (by kernel_rfl) (by kernel_rfl) rfl rfl hf (by decide) rfl (fun w hp => ?_) ⟨_, hp⟩ ?_
           ·
            obtain ⟨_, hp⟩ := hp
            refine st_ldO (u := .float .f64 bb93) hf (by decide) pl29 rfl rfl (ho96.ob hp) rfl ?_
            clear hf; intro a ha hf
            exact st_nil hf (th_n ⟨ha, rfl⟩)
           clear hf; intro a hf
           refine dr_takeP 8 (.bool q72.2.1) rfl (by kernel_rfl) (by kernel_rfl) (by kernel_rfl) rfl rfl hf (by decide) rfl (fun w => ?_) ?_
           ·
            refine st_move hf rfl rfl (by decide) ?_
            clear hf; intro a ha hf
            exact st_nil hf (th_n ⟨ha, rfl⟩)
           clear hf; intro a hf
           refine dr_takeP 9 (.bool q72.2.2.1) rfl (by kernel_rfl) (by kernel_rfl) (by kernel_rfl) rfl rfl hf (by decide) rfl (fun w => ?_) ?_
           ·
            refine st_move hf rfl rfl (by decide) ?_
            clear hf; intro a ha hf
            exact st_nil hf (th_n ⟨ha, rfl⟩)
           clear hf; intro a hf
           refine dr_take2 10 (.agg #[.complex .f64 bb25 bb26, .bool ((gt l1 t34).2)]) rfl (by kernel_rfl) (by kernel_rfl) (by kernel_rfl) (by kernel_rfl) (by kernel_rfl) rfl rfl hf (by decide) rfl (fun w hp => ?_) ⟨_, hp⟩ ?_
           ·
            obtain ⟨_, hp⟩ := hp
            refine st_ldOA (m := 2) (us := [.complex .f64 bb25 bb26, .bool ((gt l1 t34).2)]) hf (by decide) (by kernel_rfl) rfl rfl (rl85.ob hp) rfl rfl ?_
            clear hf; intro a ha hf
            exact st_nil hf (th_n ⟨ha, rfl⟩)
           clear hf; intro a hf
           refine dr_takeP 15 (.func (.func 62) #[] #[]) rfl (by kernel_rfl) (by kernel_rfl) (by kernel_rfl) rfl rfl hf (by decide) rfl (fun w => ?_) ?_
           ·
            refine st_move hf rfl rfl (by decide) ?_
            clear hf; intro a ha hf
            exact st_nil hf (th_n ⟨ha, rfl⟩)
           clear hf; intro a hf
           refine dr_one 11 rfl (by kernel_rfl) ?_
           refine st_call hf (by decide) Try.func36 rfl rfl rfl rfl rfl (f_soft_cost_c hp _ _ _ _ _ (show Fl.rep bb25 ((gt l1 t34).1).1 from y27) (show Fl.rep bb26 ((gt l1 t34).1).2 from y28) _ hcall98) ?_
           rintro _ w ⟨v99, rfl, y100, hp0⟩
           clear hp; have hp := hp0; clear hp0
           replace hp : Hp _ _ _ (_ :: _ :: _ :: _ :: _ :: ow) := hp
           refine ⟨_, rfl, ?_⟩
           clear hf; intro a hf
           refine nx hf (fun _ _ => ⟨_, hp⟩) ?_
           refine dr_one 12 rfl (by kernel_rfl) ?_
           refine st_farith (op := .add) rfl hf (by decide) hp rfl rfl rfl (show Fl.rep bb93 ((nth nd n90).2.2.1) from y95) (show Fl.rep v99 q97 from y100) ?_
           clear hf; intro a w bb101 y102 hf hp0; clear hp; have hp := hp0; clear hp0
           replace hp : Hp _ _ _ (_ :: _ :: _ :: _ :: _ :: ow) := hp
           refine nx hf (fun _ _ => ⟨_, hp⟩) ?_
           refine dr_takeP 13 (.agg #[.bool (gt ([false, true]) t53), (gtv [v43, v45] t46), .float .f64 bb101, .int .i64 (0 : Int)]) rfl (by kernel_rfl) (by kernel_rfl) (by kernel_rfl) rfl rfl hf (by decide) rfl (fun w => ?_) ?_
           ·
            refine st_buildA (vals := [(0, .bool (gt ([false, true]) t53)), (1, (gtv [v43, v45] t46)), (2, .float .f64 bb101), (3, .int .i64 (0 : Int))]) (cells := [.bool (gt ([false, true]) t53), (gtv [v43, v45] t46), .float .f64 bb101, .int .i64 (0 : Int)]) hf (by decide) rfl (by simp [hf.ev (x := (Operand.tmp 77)) rfl, hf.ev (x := (Operand.tmp 78)) rfl, hf.ev (x := (Operand.tmp 87)) rfl, hf.ev (x := (Operand.const (.int .i64 (0 : Int)))) rfl]) (fun w => by obtain ⟨_, e9⟩ := (WP.sh y61); rw [e9]; kernel_rfl) ?_
            clear hf; intro a ha hf
            exact st_nil hf (th_n ⟨ha, rfl⟩)
           clear hf; intro a hf
           have hp := bk83 _ _ hp
           have hp := bk78 _ _ hp
           refine dr_one 14 rfl (by kernel_rfl) ?_
           refine st_boxW (ah := (gt [(gt now10 t40).1, (gt now10 t40).2] t46)) (co := (fadd ((nth nd n90).2.2.1) q97)) hf (by decide) hp rfl rfl y61 y102 ?_
           clear hf; intro a w v103 k104 y105 hf hp0; clear hp; have hp := hp0; clear hp0
           replace hp : Hp _ _ _ (Res.ar 92 (bs59 ++ [k104]) (nd ++ [((gt ([false, true]) t53), (gt [(gt now10 t40).1, (gt now10 t40).2] t46), (fadd ((nth nd n90).2.2.1) q97), (0 : Int))]) :: Res.obj 35 v29 [.complex .f64 bb25 bb26, .bool ((gt l1 t34).2)] :: Res.sl (Ek.pair (Ek.wp (bs59 ++ [k104])) (Ek.wp (bs59 ++ [k104]))) 89 (aslv v31 64) then13 :: _ :: Res.sl (Ek.pair (Ek.wp (bs59 ++ [k104])) (Ek.wp (bs59 ++ [k104]))) 89 (aslv v3 64) (List.replicate 64 ((none : Option Nat), (none : Option Nat))) :: Res.sl (Ek.pair (Ek.wp (bs59 ++ [k104])) (Ek.wp (bs59 ++ [k104]))) 89 (aslv v7 64) now10 :: _ :: ow) := hp.impL (ImpL.same (ImpL.same (ImpL.slx rfl (pair_up (wp_up _) (wp_up _)) (ImpL.same (ImpL.slx rfl (pair_up (wp_up _) (wp_up _)) (ImpL.slx rfl (pair_up (wp_up _) (wp_up _)) (ImpL.same (ImpL.refl ow))))))))
           refine st_nil hf (th_n ⟨fun hn => absurd hn (by decide), ?_⟩)
           refine dr_one 16 rfl (by kernel_rfl) ?_
           obtain ⟨S108, hp109, rd110, up111, bk112⟩ := Hp.lendA hp (i := 0) rfl
           have hp113 : Hp _ _ _ (Res.sl (Ek.pair (Ek.wp (bs59 ++ [k104])) (Ek.wp (bs59 ++ [k104]))) 89 (aslv v31 64) then13 :: Res.obj 35 v29 [.complex .f64 bb25 bb26, .bool ((gt l1 t34).2)] :: Res.obj 40 v1 [.int .i64 cx0_Length, .int .u32 cx0_One, .int .u32 cx0_Two] :: Res.sl (Ek.pair (Ek.wp (bs59 ++ [k104])) (Ek.wp (bs59 ++ [k104]))) 89 (aslv v3 64) (List.replicate 64 ((none : Option Nat), (none : Option Nat))) :: Res.sl (Ek.pair (Ek.wp (bs59 ++ [k104])) (Ek.wp (bs59 ++ [k104]))) 89 (aslv v7 64) now10 :: Res.sl Ek.bool 4 v56 ([false, true]) :: ow) := Hp.sel (pre := [Res.obj 35 v29 [.complex .f64 bb25 bb26, .bool ((gt l1 t34).2)], Res.sl (Ek.pair (Ek.wp (bs59 ++ [k104])) (Ek.wp (bs59 ++ [k104]))) 89 (aslv v31 64) then13, Res.obj 40 v1 [.int .i64 cx0_Length, .int .u32 cx0_One, .int .u32 cx0_Two], Res.sl (Ek.pair (Ek.wp (bs59 ++ [k104])) (Ek.wp (bs59 ++ [k104]))) 89 (aslv v3 64) (List.replicate 64 ((none : Option Nat), (none : Option Nat))), Res.sl (Ek.pair (Ek.wp (bs59 ++ [k104])) (Ek.wp (bs59 ++ [k104]))) 89 (aslv v7 64) now10, Res.sl Ek.bool 4 v56 ([false, true])]) (tail := ow) (rs' := [Res.sl (Ek.pair (Ek.wp (bs59 ++ [k104])) (Ek.wp (bs59 ++ [k104]))) 89 (aslv v31 64) then13, Res.obj 35 v29 [.complex .f64 bb25 bb26, .bool ((gt l1 t34).2)], Res.obj 40 v1 [.int .i64 cx0_Length, .int .u32 cx0_One, .int .u32 cx0_Two], Res.sl (Ek.pair (Ek.wp (bs59 ++ [k104])) (Ek.wp (bs59 ++ [k104]))) 89 (aslv v3 64) (List.replicate 64 ((none : Option Nat), (none : Option Nat))), Res.sl (Ek.pair (Ek.wp (bs59 ++ [k104])) (Ek.wp (bs59 ++ [k104]))) 89 (aslv v7 64) now10, Res.sl Ek.bool 4 v56 ([false, true])]) hp109 [1, 0, 2, 3, 4, 5] (by decide) (by simp) rfl
           refine st_call hf (by decide) Try.func63 rfl rfl rfl rfl rfl (f_soft_two_put_c _ _ rd110 _ _ _ _ (aslv_ix (hp.sl (i := 2) rfl) hc88) _ _ y105 hp113 hcall107) ?_
           rintro _ w ⟨rfl, hp0⟩
           have hp0 := bk112 _ _ hp0
           clear hp; have hp := hp0; clear hp0
           replace hp : Hp _ _ _ (_ :: Res.sl (Ek.pair (Ek.wp (bs59 ++ [k104])) (Ek.wp (bs59 ++ [k104]))) 89 (aslv v31 64) q106 :: _ :: _ :: _ :: _ :: _ :: ow) := hp
           refine ⟨_, rfl, ?_⟩
           clear hf; intro a hf
           refine st_nil hf (th_n ⟨fun hn => absurd hn (by decide), ?_⟩)
           refine dr_end (by kernel_rfl) ?_ _
           exact ⟨k104, hf.sub ⟨rfl, rfl, rfl, rfl, rfl, rfl, rfl, rfl, rfl, rfl, rfl, rfl, rfl, rfl, rfl, rfl, rfl, rfl, rfl, rfl, rfl, rfl, trivial⟩, hp⟩
          rintro a w ⟨k104, hf, hp⟩
          refine ib_n ?_
          refine th_n ?_
          refine wp_reg ?_
          refine st_iadd hf (by decide) rfl rfl rfl ?_
          clear hf; intro a ha hf; clear ha
          refine st_move hf rfl rfl (by decide) ?_
          clear hf; intro a ha hf; clear ha
          refine st_nil hf ?_
          obtain rfl := Option.some.inj h
          have hp : Hp _ _ _ (_ :: _ :: _ :: _ :: _ :: _ :: _ :: ow) := Hp.sel (pre := [Res.ar 92 (bs59 ++ [k104]) (nd ++ [((gt ([false, true]) t53), (gt [(gt now10 t40).1, (gt now10 t40).2] t46), (fadd ((nth nd n90).2.2.1) q97), (0 : Int))]), Res.sl (Ek.pair (Ek.wp (bs59 ++ [k104])) (Ek.wp (bs59 ++ [k104]))) 89 (aslv v31 64) q106, Res.obj 35 v29 [.complex .f64 bb25 bb26, .bool ((gt l1 t34).2)], Res.obj 40 v1 [.int .i64 cx0_Length, .int .u32 cx0_One, .int .u32 cx0_Two], Res.sl (Ek.pair (Ek.wp (bs59 ++ [k104])) (Ek.wp (bs59 ++ [k104]))) 89 (aslv v3 64) (List.replicate 64 ((none : Option Nat), (none : Option Nat))), Res.sl (Ek.pair (Ek.wp (bs59 ++ [k104])) (Ek.wp (bs59 ++ [k104]))) 89 (aslv v7 64) now10, Res.sl Ek.bool 4 v56 ([false, true])]) (tail := ow) (rs' := [Res.ar 92 (bs59 ++ [k104]) (nd ++ [((gt ([false, true]) t53), (gt [(gt now10 t40).1, (gt now10 t40).2] t46), (fadd ((nth nd n90).2.2.1) q97), (0 : Int))]), Res.sl (Ek.pair (Ek.wp (bs59 ++ [k104])) (Ek.wp (bs59 ++ [k104]))) 89 (aslv v31 64) q106, Res.obj 40 v1 [.int .i64 cx0_Length, .int .u32 cx0_One, .int .u32 cx0_Two], Res.sl (Ek.pair (Ek.wp (bs59 ++ [k104])) (Ek.wp (bs59 ++ [k104]))) 89 (aslv v3 64) (List.replicate 64 ((none : Option Nat), (none : Option Nat))), Res.sl (Ek.pair (Ek.wp (bs59 ++ [k104])) (Ek.wp (bs59 ++ [k104]))) 89 (aslv v7 64) now10, Res.obj 35 v29 [.complex .f64 bb25 bb26, .bool ((gt l1 t34).2)], Res.sl Ek.bool 4 v56 ([false, true])]) hp [0, 1, 3, 4, 5, 2, 6] (by decide) (by simp) rfl
          exact rnd_l ⟨_, hf.sub ⟨rfl, rfl, rfl, rfl, rfl, rfl, rfl, rfl, rfl, rfl, rfl, rfl, rfl, rfl, rfl, rfl, rfl, rfl, rfl, rfl, rfl, rfl, trivial⟩, (WP.up y61 _), (WP.up y62 _), (WP.up y63 _), hp⟩
         replace h := ifF h hb
         refine wp_exit ?_
         refine th_e ?_
         obtain rfl := Option.some.inj h
         have hp : Hp _ _ _ (Res.ar 92 bs59 nd :: Res.sl (Ek.pair (Ek.wp bs59) (Ek.wp bs59)) 89 (aslv v31 64) then13 :: _ :: Res.sl (Ek.pair (Ek.wp bs59) (Ek.wp bs59)) 89 (aslv v3 64) (List.replicate 64 ((none : Option Nat), (none : Option Nat))) :: Res.sl (Ek.pair (Ek.wp bs59) (Ek.wp bs59)) 89 (aslv v7 64) now10 :: _ :: ow) := Hp.sel (pre := [Res.ar 92 bs59 nd, Res.sl (Ek.pair (Ek.wp bs59) (Ek.wp bs59)) 89 (aslv v31 64) then13, Res.obj 40 v1 [.int .i64 cx0_Length, .int .u32 cx0_One, .int .u32 cx0_Two], Res.sl (Ek.pair (Ek.wp bs59) (Ek.wp bs59)) 89 (aslv v3 64) (List.replicate 64 ((none : Option Nat), (none : Option Nat))), Res.sl (Ek.pair (Ek.wp bs59) (Ek.wp bs59)) 89 (aslv v7 64) now10, Res.obj 35 v29 [.complex .f64 bb25 bb26, .bool ((gt l1 t34).2)], Res.sl Ek.bool 4 v56 ([false, true])]) (tail := ow) (rs' := [Res.ar 92 bs59 nd, Res.sl (Ek.pair (Ek.wp bs59) (Ek.wp bs59)) 89 (aslv v31 64) then13, Res.obj 40 v1 [.int .i64 cx0_Length, .int .u32 cx0_One, .int .u32 cx0_Two], Res.sl (Ek.pair (Ek.wp bs59) (Ek.wp bs59)) 89 (aslv v3 64) (List.replicate 64 ((none : Option Nat), (none : Option Nat))), Res.sl (Ek.pair (Ek.wp bs59) (Ek.wp bs59)) 89 (aslv v7 64) now10, Res.obj 35 v29 [.complex .f64 bb25 bb26, .bool ((gt l1 t34).2)]]) hp [0, 1, 2, 3, 4, 5] (by decide) (by simp) rfl
         exact rnd_r (by simp) ⟨rfl, _, hf.sub ⟨rfl, rfl, rfl, rfl, rfl, rfl, rfl, rfl, rfl, rfl, rfl, rfl, rfl, rfl, rfl, rfl, rfl, rfl, trivial⟩, y62, y63, hp⟩
        clear hl hf hp
        intro e a w hne hO
        obtain ⟨rfl, bs65, hf, y67, y68, hp⟩ := hO
        refine ib_same ?_
        refine ib_n ?_
        refine th_n ?_
        refine wp_reg ?_
        refine st_iadd hf (by decide) rfl rfl rfl ?_
        clear hf; intro a ha hf; clear ha
        refine st_move hf rfl rfl (by decide) ?_
        clear hf; intro a ha hf; clear ha
        refine st_nil hf ?_
        obtain rfl := Option.some.inj h
        exact rnd_l ⟨_, hf.sub ⟨rfl, rfl, rfl, rfl, rfl, rfl, rfl, rfl, rfl, rfl, rfl, rfl, rfl, rfl, rfl, rfl, rfl, rfl, trivial⟩, y67, y68, hp⟩
       replace h := ifF h hb
       refine wp_exit ?_
       refine th_e ?_
       obtain rfl := Option.some.inj h
       exact rnd_r (by simp) ⟨rfl, _, hf.sub ⟨rfl, rfl, rfl, rfl, rfl, rfl, rfl, rfl, rfl, rfl, rfl, rfl, rfl, rfl, rfl, trivial⟩, hp⟩
      clear hl hf hp
      intro e a w hne hO
      obtain ⟨rfl, bs53, hf, hp⟩ := hO
      refine ib_same ?_
      refine ib_n ?_
      refine th_n ?_
      refine wp_reg ?_
      refine st_iadd hf (by decide) rfl rfl rfl ?_
      clear hf; intro a ha hf; clear ha
      refine st_move hf rfl rfl (by decide) ?_
      clear hf; intro a ha hf; clear ha
      refine st_nil hf ?_
      obtain rfl := Option.some.inj h
      exact rnd_l ⟨_, hf.sub ⟨rfl, rfl, rfl, rfl, rfl, rfl, rfl, rfl, rfl, rfl, rfl, rfl, rfl, rfl, rfl, trivial⟩, hp⟩
     replace h := ifF h hb
     refine wp_exit ?_
     refine th_e ?_
     obtain rfl := Option.some.inj h
     have hp : Hp _ _ _ (Res.ar 92 bs34 nd :: Res.sl (Ek.pair (Ek.wp bs34) (Ek.wp bs34)) 89 (aslv v31 64) then13 :: _ :: Res.sl (Ek.pair (Ek.wp bs34) (Ek.wp bs34)) 89 (aslv v3 64) (List.replicate 64 ((none : Option Nat), (none : Option Nat))) :: Res.sl (Ek.pair (Ek.wp bs34) (Ek.wp bs34)) 89 (aslv v7 64) now10 :: ow) := Hp.sel (pre := [Res.ar 92 bs34 nd, Res.sl (Ek.pair (Ek.wp bs34) (Ek.wp bs34)) 89 (aslv v31 64) then13, Res.obj 40 v1 [.int .i64 cx0_Length, .int .u32 cx0_One, .int .u32 cx0_Two], Res.sl (Ek.pair (Ek.wp bs34) (Ek.wp bs34)) 89 (aslv v3 64) (List.replicate 64 ((none : Option Nat), (none : Option Nat))), Res.sl (Ek.pair (Ek.wp bs34) (Ek.wp bs34)) 89 (aslv v7 64) now10, Res.obj 35 v29 [.complex .f64 bb25 bb26, .bool ((gt l1 t34).2)]]) (tail := ow) (rs' := [Res.ar 92 bs34 nd, Res.sl (Ek.pair (Ek.wp bs34) (Ek.wp bs34)) 89 (aslv v31 64) then13, Res.obj 40 v1 [.int .i64 cx0_Length, .int .u32 cx0_One, .int .u32 cx0_Two], Res.sl (Ek.pair (Ek.wp bs34) (Ek.wp bs34)) 89 (aslv v3 64) (List.replicate 64 ((none : Option Nat), (none : Option Nat))), Res.sl (Ek.pair (Ek.wp bs34) (Ek.wp bs34)) 89 (aslv v7 64) now10]) hp [0, 1, 2, 3, 4] (by decide) (by simp) rfl
     exact rnd_r (by simp) ⟨rfl, _, hf.sub ⟨rfl, rfl, rfl, rfl, rfl, rfl, rfl, rfl, rfl, rfl, rfl, trivial⟩, hp⟩
    clear hl hf hp
    intro e a w hne hO
    obtain ⟨rfl, bs37, hf, hp⟩ := hO
    refine ib_same ?_
    refine th_n ?_
    refine wp_seq ?_
    refine wp_reg ?_
    refine st_move hf rfl rfl (by decide) ?_
    clear hf; intro a ha hf; clear ha
    obtain ⟨q117, hcall118, h⟩ := bnd h
    obtain ⟨S119, hp120, rd121, up122, bk123⟩ := Hp.lendS hp (i := 1) rfl
    have hp124 : Hp _ _ _ (Res.ar 92 bs37 q116.1 :: Res.obj 40 v1 [.int .i64 cx0_Length, .int .u32 cx0_One, .int .u32 cx0_Two] :: Res.sl (Ek.pair (Ek.wp bs37) (Ek.wp bs37)) 89 (aslv v3 64) (List.replicate 64 ((none : Option Nat), (none : Option Nat))) :: Res.sl (Ek.pair (Ek.wp bs37) (Ek.wp bs37)) 89 (aslv v7 64) now10 :: ow) := Hp.sel (pre := [Res.ar 92 bs37 q116.1, Res.obj 40 v1 [.int .i64 cx0_Length, .int .u32 cx0_One, .int .u32 cx0_Two], Res.sl (Ek.pair (Ek.wp bs37) (Ek.wp bs37)) 89 (aslv v3 64) (List.replicate 64 ((none : Option Nat), (none : Option Nat))), Res.sl (Ek.pair (Ek.wp bs37) (Ek.wp bs37)) 89 (aslv v7 64) now10]) (tail := ow) (rs' := [Res.ar 92 bs37 q116.1, Res.obj 40 v1 [.int .i64 cx0_Length, .int .u32 cx0_One, .int .u32 cx0_Two], Res.sl (Ek.pair (Ek.wp bs37) (Ek.wp bs37)) 89 (aslv v3 64) (List.replicate 64 ((none : Option Nat), (none : Option Nat))), Res.sl (Ek.pair (Ek.wp bs37) (Ek.wp bs37)) 89 (aslv v7 64) now10]) hp120 [0, 1, 2, 3] (by decide) (by simp) rfl
    refine st_call hf (by decide) Try.func64 rfl rfl rfl rfl rfl (f_soft_ranked_c _ _ _ _ rd121 _ hp124 hcall118) ?_
    rintro _ w ⟨rfl, hp0⟩
    have hp0 := bk123 _ _ hp0
    clear hp; have hp := hp0; clear hp0
    replace hp : Hp _ _ _ (Res.sl (Ek.pair (Ek.wp bs37) (Ek.wp bs37)) 89 (aslv v31 64) q116.2 :: Res.ar 92 bs37 q117 :: _ :: Res.sl (Ek.pair (Ek.wp bs37) (Ek.wp bs37)) 89 (aslv v3 64) (List.replicate 64 ((none : Option Nat), (none : Option Nat))) :: Res.sl (Ek.pair (Ek.wp bs37) (Ek.wp bs37)) 89 (aslv v7 64) now10 :: ow) := hp
    refine ⟨_, rfl, ?_⟩
    clear hf; intro a hf
    refine st_nil hf ?_
    refine th_n ?_
    refine wp_reg ?_
    have hl127 := aslv_len (hp.sl (i := 0) rfl)
    refine st_ldArr (E := (Ek.pair (Ek.wp bs37) (Ek.wp bs37))) (N := 64) hf (by decide) (by kernel_rfl) rfl (by decide) rfl rfl (hp.sl (i := 0) rfl) ?_
    clear hf; intro a cs125 hr126 ha hf; clear ha
    refine st_stArr hf hp (m := 4) rfl (by decide) rfl rfl rfl hr126 hl127 (by kernel_rfl) ?_
    clear hf; intro a w hf hp0; clear hp; have hp := hp0; clear hp0
    replace hp : Hp _ _ _ (_ :: _ :: _ :: _ :: Res.sl (Ek.pair (Ek.wp bs37) (Ek.wp bs37)) 89 (aslv v7 64) q116.2 :: ow) := hp
    refine st_nil hf ?_
    refine ib_n ?_
    refine th_n ?_
    refine wp_reg ?_
    refine st_iadd hf (by decide) rfl rfl rfl ?_
    clear hf; intro a ha hf; clear ha
    refine st_move hf rfl rfl (by decide) ?_
    clear hf; intro a ha hf; clear ha
    refine st_nil hf ?_
    obtain rfl := Option.some.inj h
    have hp : Hp _ _ _ (_ :: _ :: _ :: _ :: ow) := Hp.sel (pre := [Res.sl (Ek.pair (Ek.wp bs37) (Ek.wp bs37)) 89 (aslv v31 64) q116.2, Res.ar 92 bs37 q117, Res.obj 40 v1 [.int .i64 cx0_Length, .int .u32 cx0_One, .int .u32 cx0_Two], Res.sl (Ek.pair (Ek.wp bs37) (Ek.wp bs37)) 89 (aslv v3 64) (List.replicate 64 ((none : Option Nat), (none : Option Nat))), Res.sl (Ek.pair (Ek.wp bs37) (Ek.wp bs37)) 89 (aslv v7 64) q116.2]) (tail := ow) (rs' := [Res.ar 92 bs37 q117, Res.sl (Ek.pair (Ek.wp bs37) (Ek.wp bs37)) 89 (aslv v7 64) q116.2, Res.obj 40 v1 [.int .i64 cx0_Length, .int .u32 cx0_One, .int .u32 cx0_Two], Res.sl (Ek.pair (Ek.wp bs37) (Ek.wp bs37)) 89 (aslv v3 64) (List.replicate 64 ((none : Option Nat), (none : Option Nat)))]) hp [1, 4, 2, 3] (by decide) (by simp) rfl
    exact rnd_l ⟨_, hf.sub ⟨rfl, rfl, rfl, rfl, rfl, rfl, rfl, rfl, rfl, rfl, trivial⟩, hp⟩
   replace h := ifF h hb
   refine wp_exit ?_
   refine th_e ?_
   obtain rfl := Option.some.inj h
   have hp : Hp _ _ _ (Res.ar 92 bs17 nd :: Res.sl (Ek.pair (Ek.wp bs17) (Ek.wp bs17)) 89 (aslv v7 64) now10 :: Res.sl (Ek.pair (Ek.wp bs17) (Ek.wp bs17)) 89 (aslv v3 64) (List.replicate 64 ((none : Option Nat), (none : Option Nat))) :: ow) := Hp.sel (pre := [Res.ar 92 bs17 nd, Res.sl (Ek.pair (Ek.wp bs17) (Ek.wp bs17)) 89 (aslv v7 64) now10, Res.obj 40 v1 [.int .i64 cx0_Length, .int .u32 cx0_One, .int .u32 cx0_Two], Res.sl (Ek.pair (Ek.wp bs17) (Ek.wp bs17)) 89 (aslv v3 64) (List.replicate 64 ((none : Option Nat), (none : Option Nat)))]) (tail := ow) (rs' := [Res.ar 92 bs17 nd, Res.sl (Ek.pair (Ek.wp bs17) (Ek.wp bs17)) 89 (aslv v7 64) now10, Res.sl (Ek.pair (Ek.wp bs17) (Ek.wp bs17)) 89 (aslv v3 64) (List.replicate 64 ((none : Option Nat), (none : Option Nat)))]) hp [0, 1, 3] (by decide) (by simp) rfl
   exact rnd_r (by simp) ⟨rfl, _, hf.sub ⟨rfl, rfl, trivial⟩, hp⟩
  clear hl hf hp
  intro e a w hne hO
  obtain ⟨rfl, bs20, hf, hp⟩ := hO
  refine ib_same ?_
  refine th_n ?_
  refine wp_seq ?_
  refine wp_reg ?_
  have hl131 := aslv_len (hp.sl (i := 1) rfl)
  refine st_ldArr (E := (Ek.pair (Ek.wp bs20) (Ek.wp bs20))) (N := 64) hf (by decide) (by kernel_rfl) rfl (by decide) rfl rfl (hp.sl (i := 1) rfl) ?_
  clear hf; intro a cs129 hr130 ha hf; clear ha
  refine st_stArr hf hp (m := 2) rfl (by decide) rfl rfl rfl hr130 hl131 (by kernel_rfl) ?_
  clear hf; intro a w hf hp0; clear hp; have hp := hp0; clear hp0
  replace hp : Hp _ _ _ (Res.ar 92 bs20 q128.1 :: Res.sl (Ek.pair (Ek.wp bs20) (Ek.wp bs20)) 89 (aslv v7 64) q128.2 :: Res.sl (Ek.pair (Ek.wp bs20) (Ek.wp bs20)) 89 (aslv v3 64) q128.2 :: ow) := hp
  refine st_nil hf ?_
  refine th_n ?_
  refine wp_ret ?_
  obtain rfl := Option.some.inj h
  have hp : Hp _ _ _ (_ :: _ :: ow) := Hp.sel (pre := [Res.ar 92 bs20 q128.1, Res.sl (Ek.pair (Ek.wp bs20) (Ek.wp bs20)) 89 (aslv v7 64) q128.2, Res.sl (Ek.pair (Ek.wp bs20) (Ek.wp bs20)) 89 (aslv v3 64) q128.2]) (tail := ow) (rs' := [Res.sl (Ek.pair (Ek.wp bs20) (Ek.wp bs20)) 89 (aslv v3 64) q128.2, Res.ar 92 bs20 q128.1]) hp [2, 0] (by decide) (by simp) rfl
  exact ⟨rfl, ⟨_, _, hf.sub ⟨rfl, trivial⟩, hp⟩⟩

noncomputable def f_soft_Decode.s1c (q6 : ((List ((Option Nat) × (Option Nat))) × (List WayC))) (bits10 : (List Bool)) (i11 : Int) (wx12 : (Option Nat)) : Option (((List Bool) × Int × (Option Nat)) ⊕ (List Bool)) := (if (decide ((0 : Int) ≤ i11)) = true then ((wx12).bind fun n29 => (if 0 ≤ i11 ∧ i11 < (bits10.length : Int) then ((wx12).bind fun n44 => (some (Sum.inl ((bits10.set (i11).toNat ((nth q6.2 n29).1)), (IntKind.i64.wrap (i11 - (1 : Int))), (nth q6.2 n44).2.1)))) else none)) else (some (Sum.inr bits10)))
noncomputable def f_soft_Decode.s1 (q6 : ((List ((Option Nat) × (Option Nat))) × (List WayC))) (s : ((List Bool) × Int × (Option Nat))) : Option (((List Bool) × Int × (Option Nat)) ⊕ (List Bool)) := f_soft_Decode.s1c q6 s.1 s.2.1 s.2.2
noncomputable def f_soft_Decode (cx0_Length : Int) (cx0_One : Int) (cx0_Two : Int) (l1 : (List ((Fl × Fl) × Bool))) : Option ((List Bool) × Fl × Int) := ((f_soft_check cx0_Length cx0_One cx0_Two l1 (IntKind.i64.wrap (cx0_Length - (1 : Int)))).bind fun q3 => (if (q3 != (0 : Int)) = true then (some ([], (Fl.bits 0), q3)) else ((f_soft_run cx0_Length cx0_One cx0_Two l1 (IntKind.i64.wrap (cx0_Length - (1 : Int)))).bind fun q6 => (if 0 ≤ (l1.length : Int) ∧ (l1.length : Int) ≤ (l1.length : Int) ∧ (l1.length : Int) * 1 ≤ 281474976710656 then ((loop (f_soft_Decode.s1 q6) ((List.replicate ((l1.length : Int)).toNat false), (IntKind.i64.wrap ((l1.length : Int) - (1 : Int))), (gt q6.1 (0 : Int)).1)).bind (fun q51 => (if 0 ≤ (IntKind.i64.wrap ((IntKind.i64.wrap ((l1.length : Int) - cx0_Length)) + (1 : Int))) ∧ (IntKind.i64.wrap ((IntKind.i64.wrap ((l1.length : Int) - cx0_Length)) + (1 : Int))) ≤ (q51.length : Int) then (if (([] : List Bool).length + ((q51.drop 0).take (((IntKind.i64.wrap ((IntKind.i64.wrap ((l1.length : Int) - cx0_Length)) + (1 : Int)))).toNat - 0)).length) * 1 ≤ 140737488355328 then (((gt q6.1 (0 : Int)).1).bind fun n77 => (some ((([] : List Bool) ++ ((q51.drop 0).take (((IntKind.i64.wrap ((IntKind.i64.wrap ((l1.length : Int) - cx0_Length)) + (1 : Int)))).toNat - 0))), (nth q6.2 n77).2.2.1, (0 : Int)))) else none) else none))) else none))))
theorem f_soft_Decode_c {S : Nat → Prop} {w0 w : World} {ow : List Res} (hp : Hp S w0 w ow) (cx0_Length : Int) (cx0_One : Int) (cx0_Two : Int) (vl1 : Value) (l1 : (List ((Fl × Fl) × Bool))) (hl1 : RdS (Ek.pair Ek.c128 Ek.bool) S w0 vl1 l1) {r : ((List Bool) × Fl × Int)} (h : f_soft_Decode cx0_Length cx0_One cx0_Two l1 = some r) :
   Calls Try.prog 21 #[.agg #[.int .i64 cx0_Length, .int .u32 cx0_One, .int .u32 cx0_Two], vl1] w (fun e w' => ∃ (u0 : Value) (b1 : Nat), e = .returned (.tuple #[u0, .float .f64 b1, .int .i64 r.2.2]) ∧ Fl.rep b1 r.2.1 ∧ Hp S w0 w' (Res.sl Ek.bool 4 u0 r.1 :: ow)) := by
  unfold f_soft_Decode at h
  refine enter (n := 66) (args := [.agg #[.int .i64 cx0_Length, .int .u32 cx0_One, .int .u32 cx0_Two], vl1]) Try.func21 rfl rfl (Nat.le_of_ble_eq_true rfl) fun a hf => ?_
  replace hf : Fr 66 a [(0, .agg #[.int .i64 cx0_Length, .int .u32 cx0_One, .int .u32 cx0_Two]), (1, vl1)] := hf
  refine wp_mono (Q := fun e a w => e = .ret ∧ ∃ (u0 : Value) (b1 : Nat), Fr 66 a [(4, u0), (5, .float .f64 b1), (6, .int .i64 r.2.2)] ∧ Fl.rep b1 r.2.1 ∧ Hp S w0 w (Res.sl Ek.bool 4 u0 r.1 :: ow)) ?_ ?_
  rotate_left
  ·
   rintro e a w ⟨rfl, x0, x1, hf, y0, hp⟩
   exact ret3 hf rfl rfl rfl rfl ⟨x0, x1, rfl, y0, hp⟩
  refine wp_seq ?_
  refine wp_reg ?_
  refine st_boxO (cs := [.int .i64 cx0_Length, .int .u32 cx0_One, .int .u32 cx0_Two]) hf (by decide) hp rfl rfl rfl ?_
  clear hf; intro a w v1 hf hp0; clear hp; have hp := hp0; clear hp0
  replace hp : Hp _ _ _ (Res.obj 40 v1 [.int .i64 cx0_Length, .int .u32 cx0_One, .int .u32 cx0_Two] :: ow) := hp
  refine st_assign hf rfl rfl (by decide) ?_
  clear hf; intro a ha hf; clear ha
  refine st_assign hf rfl rfl (by decide) ?_
  clear hf; intro a ha hf; clear ha
  refine st_assign hf rfl rfl (by decide) ?_
  clear hf; intro a ha hf; clear ha
  refine st_nil hf ?_
  refine th_n ?_
  refine wp_seq ?_
  refine wp_seq ?_
  refine wp_reg ?_
  refine st_ldOA (m := 3) (us := [.int .i64 cx0_Length, .int .u32 cx0_One, .int .u32 cx0_Two]) hf (by decide) (by kernel_rfl) rfl rfl (hp.ob (i := 0) rfl) rfl rfl ?_
  clear hf; intro a ha hf; clear ha
  refine st_move hf rfl rfl (by decide) ?_
  clear hf; intro a ha hf; clear ha
  refine st_fa (o' := 0) hf (by decide) (off := 0) (sz := 1) (by kernel_rfl) (by decide) rfl rfl (hp.ob (i := 0) rfl) rfl ?_
  clear hf; intro a ha hf; clear ha
  refine st_ldO (u := .int .i64 cx0_Length) hf (by decide) pl3 rfl rfl (hp.ob (i := 0) rfl) rfl ?_
  clear hf; intro a ha hf; clear ha
  refine st_isub hf (by decide) rfl rfl rfl ?_
  clear hf; intro a ha hf; clear ha
  obtain ⟨q3, hcall4, h⟩ := bnd h
  refine st_call hf (by decide) Try.func45 rfl rfl rfl rfl rfl (f_soft_check_c hp _ _ _ _ _ hl1 _ hcall4) ?_
  rintro _ w ⟨rfl, hp0⟩
  clear hp; have hp := hp0; clear hp0
  replace hp : Hp _ _ _ (_ :: ow) := hp
  refine ⟨_, rfl, ?_⟩
  clear hf; intro a hf
  refine st_assign hf rfl rfl (by decide) ?_
  clear hf; intro a ha hf; clear ha
  refine st_nil hf ?_
  refine th_n ?_
  refine wp_seq ?_
  refine wp_reg ?_
  refine st_move hf rfl rfl (by decide) ?_
  clear hf; intro a ha hf; clear ha
  refine st_ineq hf (by decide) rfl rfl rfl ?_
  clear hf; intro a ha hf; clear ha
  refine st_nil hf ?_
  refine th_n ?_
  refine wp_if hf rfl (fun hb => ?_) (fun hb => ?_)
  ·
   replace h := ifT h hb
   refine wp_seq ?_
   refine wp_reg ?_
   refine st_move hf rfl rfl (by decide) ?_
   clear hf; intro a ha hf; clear ha
   refine st_assign hf rfl rfl (by decide) ?_
   clear hf; intro a ha hf; clear ha
   refine st_assign hf rfl rfl (by decide) ?_
   clear hf; intro a ha hf; clear ha
   refine st_assign hf rfl rfl (by decide) ?_
   clear hf; intro a ha hf; clear ha
   refine st_nil hf ?_
   refine th_n ?_
   refine wp_ret ?_
   refine th_r ?_
   obtain rfl := Option.some.inj h
   have hp := hp.nil Ek.bool 4
   have hp : Hp _ _ _ (Res.sl Ek.bool 4 (.slice none 0 0) ([]) :: ow) := Hp.sel (pre := [Res.sl Ek.bool 4 (.slice none 0 0) ([]), Res.obj 40 v1 [.int .i64 cx0_Length, .int .u32 cx0_One, .int .u32 cx0_Two]]) (tail := ow) (rs' := [Res.sl Ek.bool 4 (.slice none 0 0) ([])]) hp [0] (by decide) (by simp) rfl
   exact ⟨rfl, ⟨_, _, hf.sub ⟨rfl, rfl, rfl, trivial⟩, rfl, hp⟩⟩
  replace h := ifF h hb
  refine wp_skip ?_
  refine th_n ?_
  refine wp_seq ?_
  refine wp_reg ?_
  refine st_ldOA (m := 3) (us := [.int .i64 cx0_Length, .int .u32 cx0_One, .int .u32 cx0_Two]) hf (by decide) (by kernel_rfl) rfl rfl (hp.ob (i := 0) rfl) rfl rfl ?_
  clear hf; intro a ha hf; clear ha
  refine st_move hf rfl rfl (by decide) ?_
  clear hf; intro a ha hf; clear ha
  refine st_fa (o' := 0) hf (by decide) (off := 0) (sz := 1) (by kernel_rfl) (by decide) rfl rfl (hp.ob (i := 0) rfl) rfl ?_
  clear hf; intro a ha hf; clear ha
  refine st_ldO (u := .int .i64 cx0_Length) hf (by decide) pl3 rfl rfl (hp.ob (i := 0) rfl) rfl ?_
  clear hf; intro a ha hf; clear ha
  refine st_isub hf (by decide) rfl rfl rfl ?_
  clear hf; intro a ha hf; clear ha
  obtain ⟨q6, hcall7, h⟩ := bnd h
  refine st_call hf (by decide) Try.func46 rfl rfl rfl rfl rfl (f_soft_run_c hp _ _ _ _ _ hl1 _ hcall7) ?_
  rintro _ w ⟨v8, v9, rfl, y10, y11, hp0⟩
  clear hp; have hp := hp0; clear hp0
  replace hp : Hp _ _ _ (Res.ar 92 v8 q6.2 :: Res.obj 40 v1 [.int .i64 cx0_Length, .int .u32 cx0_One, .int .u32 cx0_Two] :: ow) := hp
  refine ⟨_, rfl, ?_⟩
  clear hf; intro a hf
  refine st_allocA (E := (Ek.pair (Ek.wp v8) (Ek.wp v8))) (N := 64) (zs := List.replicate 64 ((none : Option Nat), (none : Option Nat))) (zv := .agg ((List.replicate 64 ([.pointer none, .pointer none] : List Value)).flatten).toArray) hf (by decide) (by decide) (by decide) (by kernel_rfl) (reps_replicate (E := (Ek.pair (Ek.wp v8) (Ek.wp v8))) (vs := ([.pointer none, .pointer none] : List Value)) (x := ((none : Option Nat), (none : Option Nat))) ⟨[.pointer none], [.pointer none], rfl, ⟨_, rfl, WP.nil _⟩, ⟨_, rfl, WP.nil _⟩⟩ 64) (by simp) hp rfl ?_
  clear hf; intro a w v13 hf hp0; clear hp; have hp := hp0; clear hp0
  replace hp : Hp _ _ _ (Res.sl (Ek.pair (Ek.wp v8) (Ek.wp v8)) 89 (aslv v13 64) (List.replicate 64 ((none : Option Nat), (none : Option Nat))) :: _ :: _ :: ow) := hp
  refine st_stArr hf hp (m := 0) rfl (by decide) rfl rfl rfl y10 y11 (by kernel_rfl) ?_
  clear hf; intro a w hf hp0; clear hp; have hp := hp0; clear hp0
  replace hp : Hp _ _ _ (Res.sl (Ek.pair (Ek.wp v8) (Ek.wp v8)) 89 (aslv v13 64) q6.1 :: _ :: _ :: ow) := hp
  refine st_nil hf ?_
  refine th_n ?_
  refine wp_seq ?_
  refine wp_reg ?_
  have hc15 : 0 ≤ (0 : Int) ∧ (0 : Int) < (64 : Int) := by decide
  refine st_iaA (E := (Ek.pair (Ek.wp v8) (Ek.wp v8))) (N := 64) hf (by decide) Try.underlying89 (by kernel_rfl) rfl rfl rfl (hp.sl (i := 0) rfl) rfl hc15.1 hc15.2 ?_
  clear hf; intro a ha hf; clear ha
  have hc17 : 0 ≤ (0 : Int) ∧ (0 : Int) < (2 : Int) := by decide
  refine st_iaP (sz := 1) hf (by decide) Try.underlying88 (by kernel_rfl) rfl rfl rfl (Sl.isP (hp.sl (i := 0) rfl) (aslv_ix (hp.sl (i := 0) rfl) hc15).1 (aslv_ix (hp.sl (i := 0) rfl) hc15).2) hc17.1 hc17.2 ?_
  clear hf; intro a ha hf; clear ha
  refine st_ldQW (bs := v8) (yv := (gt q6.1 (0 : Int)).1) hf (by decide) pl86 rfl rfl (Sl.part (E := (Ek.pair (Ek.wp v8) (Ek.wp v8))) (F := (Ek.wp v8)) (o := ((0 : Int)).toNat * 1) (Sub.fst (E := (Ek.wp v8)) (F := (Ek.wp v8))) (hp.sl (i := 0) rfl) (aslv_ix (hp.sl (i := 0) rfl) hc15).1 (aslv_ix (hp.sl (i := 0) rfl) hc15).2) ?_
  clear hf; intro a v18 y19 ha hf; clear ha
  refine st_assign hf rfl rfl (by decide) ?_
  clear hf; intro a ha hf; clear ha
  refine st_nil hf ?_
  refine th_n ?_
  refine wp_seq ?_
  refine wp_reg ?_
  refine st_move hf rfl rfl (by decide) ?_
  clear hf; intro a ha hf; clear ha
  refine st_len (E := (Ek.pair Ek.c128 Ek.bool)) hf (by decide) Try.underlying27 rfl rfl (hl1.sl hp) ?_
  clear hf; intro a ha hf; clear ha
  obtain ⟨hc20, h⟩ := chk h
  refine st_make (E := Ek.bool) hf (by decide) elt4 Try.underlying25 (by decide) hp rfl rfl rfl hc20.1 hc20.2.1 hc20.2.2 ?_
  clear hf; intro a w v21 hf hp0; clear hp; have hp := hp0; clear hp0
  replace hp : Hp _ _ _ (Res.sl Ek.bool 4 v21 (List.replicate ((l1.length : Int)).toNat false) :: _ :: _ :: _ :: ow) := hp
  refine st_assign hf rfl rfl (by decide) ?_
  clear hf; intro a ha hf; clear ha
  refine st_nil hf ?_
  refine th_n ?_
  refine wp_seq ?_
  refine wp_seq ?_
  refine wp_reg ?_
  refine st_move hf rfl rfl (by decide) ?_
  clear hf; intro a ha hf; clear ha
  refine st_len (E := (Ek.pair Ek.c128 Ek.bool)) hf (by decide) Try.underlying27 rfl rfl (hl1.sl hp) ?_
  clear hf; intro a ha hf; clear ha
  refine st_isub hf (by decide) rfl rfl rfl ?_
  clear hf; intro a ha hf; clear ha
  refine st_move hf rfl rfl (by decide) ?_
  clear hf; intro a ha hf; clear ha
  refine st_assign hf rfl rfl (by decide) ?_
  clear hf; intro a ha hf; clear ha
  refine st_assign hf rfl rfl (by decide) ?_
  clear hf; intro a ha hf; clear ha
  refine st_nil hf ?_
  refine th_n ?_
  refine wp_block ?_
  obtain ⟨q51, hl, h⟩ := bnd h
  have hp : Hp _ _ _ (_ :: _ :: _ :: ow) := Hp.sel (pre := [Res.sl Ek.bool 4 v21 (List.replicate ((l1.length : Int)).toNat false), Res.sl (Ek.pair (Ek.wp v8) (Ek.wp v8)) 89 (aslv v13 64) q6.1, Res.ar 92 v8 q6.2, Res.obj 40 v1 [.int .i64 cx0_Length, .int .u32 cx0_One, .int .u32 cx0_Two]]) (tail := ow) (rs' := [Res.sl Ek.bool 4 v21 (List.replicate ((l1.length : Int)).toNat false), Res.ar 92 v8 q6.2, Res.obj 40 v1 [.int .i64 cx0_Length, .int .u32 cx0_One, .int .u32 cx0_Two]]) hp [0, 2, 3] (by decide) (by simp) rfl
  refine wp_loop_pure (f := (f_soft_Decode.s1 q6)) (s := ((List.replicate ((l1.length : Int)).toNat false), (IntKind.i64.wrap ((l1.length : Int) - (1 : Int))), (gt q6.1 (0 : Int)).1)) (fun s a w => ∃ (v23 : Value) (v25 : Value), Fr 66 a [(1, vl1), (2, optr v1 0), (9, v18), (10, v23), (11, .int .i64 s.2.1), (12, v25)] ∧ WP v8 v25 s.2.2 ∧ Hp S w0 w (Res.sl Ek.bool 4 v23 s.1 :: Res.ar 92 v8 q6.2 :: Res.obj 40 v1 [.int .i64 cx0_Length, .int .u32 cx0_One, .int .u32 cx0_Two] :: ow)) (fun q e a w => e = .exit 0 ∧ ∃ (v27 : Value), Fr 66 a [(1, vl1), (2, optr v1 0), (9, v18), (10, v27)] ∧ Hp S w0 w (Res.sl Ek.bool 4 v27 q :: Res.ar 92 v8 q6.2 :: Res.obj 40 v1 [.int .i64 cx0_Length, .int .u32 cx0_One, .int .u32 cx0_Two] :: ow)) ?_ hl ⟨_, _, hf.sub ⟨rfl, rfl, rfl, rfl, rfl, rfl, trivial⟩, y19, hp⟩ ?_
  ·
   clear hl hf hp
   intro s x a w h hI
   obtain ⟨bits10, i11, wx12⟩ := s
   obtain ⟨v23, v25, hf, y26, hp⟩ : ∃ (v23 : Value) (v25 : Value), Fr 66 a [(1, vl1), (2, optr v1 0), (9, v18), (10, v23), (11, .int .i64 i11), (12, v25)] ∧ WP v8 v25 wx12 ∧ Hp S w0 w (Res.sl Ek.bool 4 v23 bits10 :: Res.ar 92 v8 q6.2 :: Res.obj 40 v1 [.int .i64 cx0_Length, .int .u32 cx0_One, .int .u32 cx0_Two] :: ow) := hI
   replace h : f_soft_Decode.s1c q6 bits10 i11 wx12 = some x := h
   unfold f_soft_Decode.s1c at h
   refine wp_seq ?_
   refine wp_seq ?_
   refine wp_reg ?_
   refine st_move hf rfl rfl (by decide) ?_
   clear hf; intro a ha hf; clear ha
   refine st_igeq hf (by decide) rfl rfl rfl ?_
   clear hf; intro a ha hf; clear ha
   refine st_nil hf ?_
   refine th_n ?_
   refine wp_if hf rfl (fun hb => ?_) (fun hb => ?_)
   ·
    replace h := ifT h hb
    refine wp_skip ?_
    refine th_n ?_
    refine wp_seq ?_
    refine wp_block ?_
    refine wp_reg ?_
    refine st_move hf rfl rfl (by decide) ?_
    clear hf; intro a ha hf; clear ha
    refine st_move hf rfl rfl (by decide) ?_
    clear hf; intro a ha hf; clear ha
    refine st_move hf rfl rfl (by decide) ?_
    clear hf; intro a ha hf; clear ha
    obtain ⟨n29, hx30, h⟩ := bnd h
    refine st_nilE hf (by decide) rfl rfl (WP.ptr y26 hx30) ?_
    clear hf; intro a ha hf; clear ha
    refine st_faP (off := 0) (sz := 1) hf (by decide) (by kernel_rfl) (by decide) rfl rfl (WP.isP y26 hx30) ?_
    clear hf; intro a ha hf; clear ha
    obtain ⟨v31, bb32, y33, y34, ho35⟩ := RdA.at (hp.ara (i := 1) rfl) y26 hx30
    refine st_ldO (u := .bool ((nth q6.2 n29).1)) hf (by decide) pl4 rfl rfl ho35 rfl ?_
    clear hf; intro a ha hf; clear ha
    obtain ⟨hc36, h⟩ := chk h
    refine st_index (E := Ek.bool) hf (by decide) Try.underlying25 elt4 rfl rfl rfl (hp.sl (i := 0) rfl) hc36.1 hc36.2 ?_
    clear hf; intro a ha hf; clear ha
    refine st_store (E := Ek.bool) hf elt4 hp (i := 0) rfl rfl rfl rfl rfl hc36.1 hc36.2 ?_
    clear hf; intro a w hf hp0; clear hp; have hp := hp0; clear hp0
    replace hp : Hp _ _ _ (Res.sl Ek.bool 4 v23 (bits10.set (i11).toNat ((nth q6.2 n29).1)) :: _ :: _ :: ow) := hp
    refine st_nil hf ?_
    refine ib_n ?_
    refine th_n ?_
    obtain ⟨S37, hp38, rd39, up40, bk41⟩ := Hp.lendA hp (i := 1) rfl
    have rl42 := rd39
    have rl43 := ((hl1.now hp).mono up40)
    obtain ⟨n44, hx45, h⟩ := bnd h
    obtain ⟨v46, bb47, y48, y49, ho50⟩ := RdA.at rl42 y26 hx45
    refine wp_cutN (fun a w => ∃ (v46 : Value), WP v8 v46 (nth q6.2 n44).2.1 ∧ Fr 66 a [(1, vl1), (2, optr v1 0), (9, v18), (10, v23), (11, .int .i64 (IntKind.i64.wrap (i11 - (1 : Int)))), (12, v46)] ∧ Hp S w0 w (Res.ar 92 v8 q6.2 :: Res.sl Ek.bool 4 v23 (bits10.set (i11).toNat ((nth q6.2 n29).1)) :: Res.obj 40 v1 [.int .i64 cx0_Length, .int .u32 cx0_One, .int .u32 cx0_Two] :: ow)) ?_ ?_
    ·
     have hp := hp38.same (Same.drew w)
     refine dr_begin' _ (fun w' => ∃ l, Hp S37 w w' l) [] (by kernel_rfl) ?_
     refine dr_takeK 0 (.int .i64 i11) rfl hf rfl (fun w ⟨_, hp⟩ => ?_) ⟨_, hp⟩ ?_
     · exact st_move hf rfl rfl (by decide) tk
     clear hf; intro a hf
     refine dr_takeK 1 (.int .i64 (IntKind.i64.wrap (i11 - (1 : Int)))) rfl hf rfl (fun w ⟨_, hp⟩ => ?_) ⟨_, hp⟩ ?_
     · exact st_isub hf (by decide) rfl rfl rfl tk
     clear hf; intro a hf
     refine dr_takeK 2 (v25) rfl hf rfl (fun w ⟨_, hp⟩ => ?_) ⟨_, hp⟩ ?_
     · exact st_move hf rfl rfl (by decide) tk
     clear hf; intro a hf
     refine dr_nilE 3 rfl (by kernel_rfl) (by kernel_rfl) (by kernel_rfl) hf (by decide) rfl rfl (WP.ptr y26 hx45) ?_
     clear hf; intro a hf
     refine dr_takeK 4 (optr v25 1) rfl hf rfl (fun w ⟨_, hp⟩ => ?_) ⟨_, hp⟩ ?_
     · exact st_faP (off := 1) (sz := 1) hf (by decide) (by kernel_rfl) (by decide) rfl rfl (WP.isP y26 hx45) tk
     clear hf; intro a hf
     refine dr_takeK 5 (v46) rfl hf rfl (fun w ⟨_, hp⟩ => ?_) ⟨_, hp⟩ ?_
     · exact st_ldO (u := v46) hf (by decide) pl86 rfl rfl (ho50.ob hp) rfl tk
     clear hf; intro a hf
     refine dr_takeK 6 (.int .i64 (IntKind.i64.wrap (i11 - (1 : Int)))) rfl hf rfl (fun w ⟨_, hp⟩ => ?_) ⟨_, hp⟩ ?_
     · exact st_assign hf rfl rfl (by decide) tk
     clear hf; intro a hf
     refine dr_takeK 7 (v46) rfl hf rfl (fun w ⟨_, hp⟩ => ?_) ⟨_, hp⟩ ?_
     · exact st_assign hf rfl rfl (by decide) tk
     clear hf; intro a hf
     refine dr_end (by kernel_rfl) ?_ _
     have hp := bk41 _ _ hp
     exact ⟨v46, y48, hf.sub ⟨rfl, rfl, rfl, rfl, rfl, rfl, trivial⟩, hp⟩
    rintro a w ⟨v46, y48, hf, hp⟩
    obtain rfl := Option.some.inj h
    have hp : Hp _ _ _ (_ :: _ :: _ :: ow) := Hp.sel (pre := [Res.ar 92 v8 q6.2, Res.sl Ek.bool 4 v23 (bits10.set (i11).toNat ((nth q6.2 n29).1)), Res.obj 40 v1 [.int .i64 cx0_Length, .int .u32 cx0_One, .int .u32 cx0_Two]]) (tail := ow) (rs' := [Res.sl Ek.bool 4 v23 (bits10.set (i11).toNat ((nth q6.2 n29).1)), Res.ar 92 v8 q6.2, Res.obj 40 v1 [.int .i64 cx0_Length, .int .u32 cx0_One, .int .u32 cx0_Two]]) hp [1, 0, 2] (by decide) (by simp) rfl
    exact rnd_l ⟨_, _, hf.sub ⟨rfl, rfl, rfl, rfl, rfl, rfl, trivial⟩, y48, hp⟩
   replace h := ifF h hb
   refine wp_exit ?_
   refine th_e ?_
   obtain rfl := Option.some.inj h
   exact rnd_r (by simp) ⟨rfl, _, hf.sub ⟨rfl, rfl, rfl, rfl, trivial⟩, hp⟩
  clear hl hf hp
  intro e a w hne hO
  obtain ⟨rfl, v27, hf, hp⟩ := hO
  refine ib_same ?_
  refine th_n ?_
  refine wp_seq ?_
  obtain ⟨S52, hp53, rd54, up55, bk56⟩ := Hp.lendO hp (i := 2) rfl
  obtain ⟨S57, hp58, rd59, up60, bk61⟩ := Hp.lendA hp53 (i := 1) rfl
  obtain ⟨S62, hp63, rd64, up65, bk66⟩ := Hp.lendS hp58 (i := 0) rfl
  have rl67 := ((rd59.now hp58).mono up65)
  have rl68 := ((((((hl1.now hp).mono up55).now hp53).mono up60).now hp58).mono up65)
  have rl69 := ((((rd54.now hp53).mono up60).now hp58).mono up65)
  have rl70 := rd64
  obtain ⟨hc71, h⟩ := chk h
  have hc72 : 0 ≤ ((IntKind.i64.wrap ((IntKind.i64.wrap ((l1.length : Int) - cx0_Length)) + (1 : Int)))).toNat := by omega
  have hc73 : ((IntKind.i64.wrap ((IntKind.i64.wrap ((l1.length : Int) - cx0_Length)) + (1 : Int)))).toNat ≤ q51.length := by omega
  obtain ⟨hc75, h⟩ := chk h
  obtain ⟨n77, hx78, h⟩ := bnd h
  obtain ⟨v79, bb80, y81, y82, ho83⟩ := RdA.at rl67 y19 hx78
  refine wp_cutN (fun a w => ∃ (v76 : Value) (bb80 : Nat), Fl.rep bb80 (nth q6.2 n77).2.2.1 ∧ Fr 66 a [(4, v76), (5, .float .f64 bb80), (6, .int .i64 (0 : Int))] ∧ Hp S w0 w (Res.obj 40 v1 [.int .i64 cx0_Length, .int .u32 cx0_One, .int .u32 cx0_Two] :: Res.ar 92 v8 q6.2 :: Res.sl Ek.bool 4 v27 q51 :: Res.sl Ek.bool 4 v76 (([] : List Bool) ++ ((q51.drop 0).take (((IntKind.i64.wrap ((IntKind.i64.wrap ((l1.length : Int) - cx0_Length)) + (1 : Int)))).toNat - 0))) :: ow)) ?_ ?_
  ·
   have hp := hp63.same (Same.drew w)
   refine dr_begin' _ (fun w' => ∃ l, Hp S62 w w' l) [] (by kernel_rfl) ?_
   refine dr_takeK 0 (v27) rfl hf rfl (fun w ⟨_, hp⟩ => ?_) ⟨_, hp⟩ ?_
   · exact st_move hf rfl rfl (by decide) tk
   clear hf; intro a hf
   refine dr_takeK 1 (vl1) rfl hf rfl (fun w ⟨_, hp⟩ => ?_) ⟨_, hp⟩ ?_
   · exact st_move hf rfl rfl (by decide) tk
   clear hf; intro a hf
   refine dr_takeK 2 (.int .i64 (l1.length : Int)) rfl hf rfl (fun w ⟨_, hp⟩ => ?_) ⟨_, hp⟩ ?_
   · exact st_len (E := (Ek.pair Ek.c128 Ek.bool)) hf (by decide) Try.underlying27 rfl rfl (rl68.sl hp) tk
   clear hf; intro a hf
   refine dr_takeK 3 (optr v1 0) rfl hf rfl (fun w ⟨_, hp⟩ => ?_) ⟨_, hp⟩ ?_
   · exact st_fa (o' := 0) hf (by decide) (off := 0) (sz := 1) (by kernel_rfl) (by decide) rfl rfl (rl69.ob hp) rfl tk
   clear hf; intro a hf
   refine dr_takeK 4 (.int .i64 cx0_Length) rfl hf rfl (fun w ⟨_, hp⟩ => ?_) ⟨_, hp⟩ ?_
   · exact st_ldO (u := .int .i64 cx0_Length) hf (by decide) pl3 rfl rfl (rl69.ob hp) rfl tk
   clear hf; intro a hf
   refine dr_takeK 5 (.int .i64 (IntKind.i64.wrap ((l1.length : Int) - cx0_Length))) rfl hf rfl (fun w ⟨_, hp⟩ => ?_) ⟨_, hp⟩ ?_
   · exact st_isub hf (by decide) rfl rfl rfl tk
   clear hf; intro a hf
   refine dr_takeK 6 (.int .i64 (IntKind.i64.wrap ((IntKind.i64.wrap ((l1.length : Int) - cx0_Length)) + (1 : Int)))) rfl hf rfl (fun w ⟨_, hp⟩ => ?_) ⟨_, hp⟩ ?_
   · exact st_iadd hf (by decide) rfl rfl rfl tk
   clear hf; intro a hf
   refine dr_takeK 7 ((GL.cut v27 0 (((IntKind.i64.wrap ((IntKind.i64.wrap ((l1.length : Int) - cx0_Length)) + (1 : Int)))).toNat) 1)) rfl hf rfl (fun w ⟨_, hp⟩ => ?_) ⟨_, hp⟩ ?_
   · exact st_cutS (E := Ek.bool) hf (by decide) Try.underlying25 elt4 rfl rfl (rl70.sl hp) (.inl ⟨rfl, rfl⟩) (.inr ⟨_, _, rfl, evI rfl (by omega)⟩) hc72 hc73 tk
   clear hf; intro a hf
   refine dr_takeK 9 (v18) rfl hf rfl (fun w ⟨_, hp⟩ => ?_) ⟨_, hp⟩ ?_
   · exact st_move hf rfl rfl (by decide) tk
   clear hf; intro a hf
   refine dr_nilE 10 rfl (by kernel_rfl) (by kernel_rfl) (by kernel_rfl) hf (by decide) rfl rfl (WP.ptr y19 hx78) ?_
   clear hf; intro a hf
   refine dr_takeK 11 (optr v18 2) rfl hf rfl (fun w ⟨_, hp⟩ => ?_) ⟨_, hp⟩ ?_
   · exact st_faP (off := 2) (sz := 1) hf (by decide) (by kernel_rfl) (by decide) rfl rfl (WP.isP y19 hx78) tk
   clear hf; intro a hf
   refine dr_takeK 12 (.float .f64 bb80) rfl hf rfl (fun w ⟨_, hp⟩ => ?_) ⟨_, hp⟩ ?_
   · exact st_ldO (u := .float .f64 bb80) hf (by decide) pl29 rfl rfl (ho83.ob hp) rfl tk
   clear hf; intro a hf
   refine dr_one 8 rfl (by kernel_rfl) ?_
   have hp := hp.nil Ek.bool 4
   refine st_append (E := Ek.bool) hf (by decide) elt4 Try.underlying25 (by decide) hp (i := 0) rfl rfl rfl rfl ((RdS.cut rl70 hc72 hc73).sl hp) hc75 ?_
   clear hf; intro a w v76 hf hp0; clear hp; have hp := hp0; clear hp0
   replace hp : Hp _ _ _ (Res.sl Ek.bool 4 v76 (([] : List Bool) ++ ((q51.drop 0).take (((IntKind.i64.wrap ((IntKind.i64.wrap ((l1.length : Int) - cx0_Length)) + (1 : Int)))).toNat - 0))) :: ow) := hp
   refine nx hf (fun _ _ => ⟨_, hp⟩) ?_
   refine dr_takeK 13 (v76) rfl hf rfl (fun w ⟨_, hp⟩ => ?_) ⟨_, hp⟩ ?_
   · exact st_assign hf rfl rfl (by decide) tk
   clear hf; intro a hf
   refine dr_takeK 14 (.float .f64 bb80) rfl hf rfl (fun w ⟨_, hp⟩ => ?_) ⟨_, hp⟩ ?_
   · exact st_assign hf rfl rfl (by decide) tk
   clear hf; intro a hf
   refine dr_takeK 15 (.int .i64 (0 : Int)) rfl hf rfl (fun w ⟨_, hp⟩ => ?_) ⟨_, hp⟩ ?_
   · exact st_assign hf rfl rfl (by decide) tk
   clear hf; intro a hf
   refine dr_end (by kernel_rfl) ?_ _
   have hp := bk66 _ _ hp
   have hp := bk61 _ _ hp
   have hp := bk56 _ _ hp
   exact ⟨v76, bb80, y82, hf.sub ⟨rfl, rfl, rfl, trivial⟩, hp⟩
  rintro a w ⟨v76, bb80, y82, hf, hp⟩
  refine th_n ?_
  refine wp_ret ?_
  obtain rfl := Option.some.inj h
  have hp : Hp _ _ _ (_ :: ow) := Hp.sel (pre := [Res.obj 40 v1 [.int .i64 cx0_Length, .int .u32 cx0_One, .int .u32 cx0_Two], Res.ar 92 v8 q6.2, Res.sl Ek.bool 4 v27 q51, Res.sl Ek.bool 4 v76 (([] : List Bool) ++ ((q51.drop 0).take (((IntKind.i64.wrap ((IntKind.i64.wrap ((l1.length : Int) - cx0_Length)) + (1 : Int)))).toNat - 0)))]) (tail := ow) (rs' := [Res.sl Ek.bool 4 v76 (([] : List Bool) ++ ((q51.drop 0).take (((IntKind.i64.wrap ((IntKind.i64.wrap ((l1.length : Int) - cx0_Length)) + (1 : Int)))).toNat - 0)))]) hp [3] (by decide) (by simp) rfl
  exact ⟨rfl, ⟨_, _, hf.sub ⟨rfl, rfl, rfl, trivial⟩, y82, hp⟩⟩

noncomputable def f_foghornref21_Same.s1c (ax0 : (List Bool)) (bx1 : (List Bool)) (i5 : Int) : Option (Int ⊕ (Unit ⊕ Bool)) := (if (decide (i5 < (ax0.length : Int))) = true then (if 0 ≤ i5 ∧ i5 < (ax0.length : Int) then (if 0 ≤ i5 ∧ i5 < (bx1.length : Int) then (if ((gt ax0 i5) != (gt bx1 i5)) = true then (some (Sum.inr (Sum.inr false))) else (some (Sum.inl (IntKind.i64.wrap (i5 + (1 : Int)))))) else none) else none) else (some (Sum.inr (Sum.inl ()))))
noncomputable def f_foghornref21_Same.s1 (ax0 : (List Bool)) (bx1 : (List Bool)) (s : Int) : Option (Int ⊕ (Unit ⊕ Bool)) := f_foghornref21_Same.s1c ax0 bx1 s
noncomputable def f_foghornref21_Same (ax0 : (List Bool)) (bx1 : (List Bool)) : Option Bool := (if ((ax0.length : Int) != (bx1.length : Int)) = true then (some false) else ((loop (f_foghornref21_Same.s1 ax0 bx1) (0 : Int)).bind (fun q3 => sm q3 (fun q4 => (some true)) (fun q5 => (some q5)))))
theorem f_foghornref21_Same_c {S : Nat → Prop} {w0 w : World} {ow : List Res} (hp : Hp S w0 w ow) (vax0 : Value) (ax0 : (List Bool)) (hax0 : RdS Ek.bool S w0 vax0 ax0) (vbx1 : Value) (bx1 : (List Bool)) (hbx1 : RdS Ek.bool S w0 vbx1 bx1) {r : Bool} (h : f_foghornref21_Same ax0 bx1 = some r) :
    Calls Try.prog 19 #[vax0, vbx1] w (fun e w' => e = .returned (.bool r) ∧ Hp S w0 w' (ow)) := by
  unfold f_foghornref21_Same at h
  refine enter (n := 26) (args := [vax0, vbx1]) Try.func19 rfl rfl (Nat.le_of_ble_eq_true rfl) fun a hf => ?_
  replace hf : Fr 26 a [(0, vax0), (1, vbx1)] := hf
  refine wp_mono (Q := fun e a w => e = .ret ∧ Fr 26 a [(4, .bool r)] ∧ Hp S w0 w (ow)) ?_ ?_
  rotate_left
  · rintro e a w ⟨rfl, hf, hp⟩
    exact ret1 hf rfl rfl ⟨rfl, hp⟩
  refine wp_seq ?_
  refine wp_reg ?_
  refine st_assign hf rfl rfl (by decide) ?_
  clear hf; intro a ha hf; clear ha
  refine st_nil hf ?_
  refine th_n ?_
  refine wp_seq ?_
  refine wp_seq ?_
  refine wp_reg ?_
  refine st_move hf rfl rfl (by decide) ?_
  clear hf; intro a ha hf; clear ha
  refine st_len (E := Ek.bool) hf (by decide) Try.underlying25 rfl rfl (hax0.sl hp) ?_
  clear hf; intro a ha hf; clear ha
  refine st_move hf rfl rfl (by decide) ?_
  clear hf; intro a ha hf; clear ha
  refine st_len (E := Ek.bool) hf (by decide) Try.underlying25 rfl rfl (hbx1.sl hp) ?_
  clear hf; intro a ha hf; clear ha
  refine st_ineq hf (by decide) rfl rfl rfl ?_
  clear hf; intro a ha hf; clear ha
  refine st_nil hf ?_
  refine th_n ?_
  refine wp_if hf rfl (fun hb => ?_) (fun hb => ?_)
  · replace h := ifT h hb
    refine wp_seq ?_
    refine wp_reg ?_
    refine st_assign hf rfl rfl (by decide) ?_
    clear hf; intro a ha hf; clear ha
    refine st_nil hf ?_
    refine th_n ?_
    refine wp_ret ?_
    refine th_r ?_
    obtain rfl := Option.some.inj h
    exact ⟨rfl, ⟨hf.sub ⟨rfl, trivial⟩, hp⟩⟩
  replace h := ifF h hb
  refine wp_skip ?_
  refine th_n ?_
  refine wp_seq ?_
  refine wp_seq ?_
  refine wp_reg ?_
  refine st_assign hf rfl rfl (by decide) ?_
  clear hf; intro a ha hf; clear ha
  refine st_nil hf ?_
  refine th_n ?_
  refine wp_block ?_
  obtain ⟨q3, hl, h⟩ := bnd h
  refine wp_loop_pure (f := (f_foghornref21_Same.s1 ax0 bx1)) (s := (0 : Int)) (fun s a w => Fr 26 a [(0, vax0), (1, vbx1), (5, .int .i64 s)] ∧ Hp S w0 w (ow)) (fun q e a w => match q with | (Sum.inl q) => e = .exit 0 ∧ Fr 26 a [] ∧ Hp S w0 w (ow) | (Sum.inr q) => e = .ret ∧ Fr 26 a [(4, .bool q)] ∧ Hp S w0 w (ow)) ?_ hl ⟨hf.sub ⟨rfl, rfl, rfl, trivial⟩, hp⟩ ?_
  · clear hl hf hp
    intro s x a w h hI
    obtain ⟨i5, hs⟩ : ∃ z, z = s := ⟨s, rfl⟩; subst hs
    obtain ⟨hf, hp⟩ : Fr 26 a [(0, vax0), (1, vbx1), (5, .int .i64 i5)] ∧ Hp S w0 w (ow) := hI
    replace h : f_foghornref21_Same.s1c ax0 bx1 i5 = some x := h
    unfold f_foghornref21_Same.s1c at h
    refine wp_seq ?_
    refine wp_seq ?_
    refine wp_reg ?_
    refine st_move hf rfl rfl (by decide) ?_
    clear hf; intro a ha hf; clear ha
    refine st_move hf rfl rfl (by decide) ?_
    clear hf; intro a ha hf; clear ha
    refine st_len (E := Ek.bool) hf (by decide) Try.underlying25 rfl rfl (hax0.sl hp) ?_
    clear hf; intro a ha hf; clear ha
    refine st_ilss hf (by decide) rfl rfl rfl ?_
    clear hf; intro a ha hf; clear ha
    refine st_nil hf ?_
    refine th_n ?_
    refine wp_if hf rfl (fun hb => ?_) (fun hb => ?_)
    · replace h := ifT h hb
      refine wp_skip ?_
      refine th_n ?_
      refine wp_seq ?_
      refine wp_block ?_
      refine wp_seq ?_
      obtain ⟨hc1, h⟩ := chk h
      obtain ⟨hc2, h⟩ := chk h
      refine wp_cutN (fun a w => Fr 26 a [(0, vax0), (1, vbx1), (5, .int .i64 i5), (25, .bool ((gt ax0 i5) != (gt bx1 i5)))] ∧ Hp S w0 w (ow)) ?_ ?_
      · have hp := hp.same (Same.drew w)
        refine dr_begin' (fun a w => Fr 26 a [(0, vax0), (1, vbx1), (5, .int .i64 i5), (25, .bool ((gt ax0 i5) != (gt bx1 i5)))] ∧ Hp S w0 w (ow)) (fun w' => ∃ l, Hp S w0 w' l) [] (by kernel_rfl) ?_
        refine dr_take 0 (vax0) rfl (by kernel_rfl) (by kernel_rfl) (by kernel_rfl) (by kernel_rfl) rfl rfl hf (by decide) rfl (fun w hp => ?_) ⟨_, hp⟩ ?_
        · obtain ⟨_, hp⟩ := hp
          refine st_move hf rfl rfl (by decide) ?_
          clear hf; intro a ha hf
          exact st_nil hf (th_n ⟨ha, rfl⟩)
        clear hf; intro a hf
        refine dr_take 1 (.int .i64 i5) rfl (by kernel_rfl) (by kernel_rfl) (by kernel_rfl) (by kernel_rfl) rfl rfl hf (by decide) rfl (fun w hp => ?_) ⟨_, hp⟩ ?_
        · obtain ⟨_, hp⟩ := hp
          refine st_move hf rfl rfl (by decide) ?_
          clear hf; intro a ha hf
          exact st_nil hf (th_n ⟨ha, rfl⟩)
        clear hf; intro a hf
        refine dr_take 2 (eptr vax0 i5 1) rfl (by kernel_rfl) (by kernel_rfl) (by kernel_rfl) (by kernel_rfl) rfl rfl hf (by decide) rfl (fun w hp => ?_) ⟨_, hp⟩ ?_
        · obtain ⟨_, hp⟩ := hp
          refine st_index (E := Ek.bool) hf (by decide) Try.underlying25 elt4 rfl rfl rfl (hax0.sl hp) hc1.1 hc1.2 ?_
          clear hf; intro a ha hf
          exact st_nil hf (th_n ⟨ha, rfl⟩)
        clear hf; intro a hf
        refine dr_take 3 (.bool (gt ax0 i5)) rfl (by kernel_rfl) (by kernel_rfl) (by kernel_rfl) (by kernel_rfl) rfl rfl hf (by decide) rfl (fun w hp => ?_) ⟨_, hp⟩ ?_
        · obtain ⟨_, hp⟩ := hp
          refine st_ldB hf (by decide) pl4 rfl rfl (hax0.sl hp) hc1.1 hc1.2 ?_
          clear hf; intro a ha hf
          exact st_nil hf (th_n ⟨ha, rfl⟩)
        clear hf; intro a hf
        refine dr_take 4 (vbx1) rfl (by kernel_rfl) (by kernel_rfl) (by kernel_rfl) (by kernel_rfl) rfl rfl hf (by decide) rfl (fun w hp => ?_) ⟨_, hp⟩ ?_
        · obtain ⟨_, hp⟩ := hp
          refine st_move hf rfl rfl (by decide) ?_
          clear hf; intro a ha hf
          exact st_nil hf (th_n ⟨ha, rfl⟩)
        clear hf; intro a hf
        refine dr_take 5 (.int .i64 i5) rfl (by kernel_rfl) (by kernel_rfl) (by kernel_rfl) (by kernel_rfl) rfl rfl hf (by decide) rfl (fun w hp => ?_) ⟨_, hp⟩ ?_
        · obtain ⟨_, hp⟩ := hp
          refine st_move hf rfl rfl (by decide) ?_
          clear hf; intro a ha hf
          exact st_nil hf (th_n ⟨ha, rfl⟩)
        clear hf; intro a hf
        refine dr_take 6 (eptr vbx1 i5 1) rfl (by kernel_rfl) (by kernel_rfl) (by kernel_rfl) (by kernel_rfl) rfl rfl hf (by decide) rfl (fun w hp => ?_) ⟨_, hp⟩ ?_
        · obtain ⟨_, hp⟩ := hp
          refine st_index (E := Ek.bool) hf (by decide) Try.underlying25 elt4 rfl rfl rfl (hbx1.sl hp) hc2.1 hc2.2 ?_
          clear hf; intro a ha hf
          exact st_nil hf (th_n ⟨ha, rfl⟩)
        clear hf; intro a hf
        refine dr_take 7 (.bool (gt bx1 i5)) rfl (by kernel_rfl) (by kernel_rfl) (by kernel_rfl) (by kernel_rfl) rfl rfl hf (by decide) rfl (fun w hp => ?_) ⟨_, hp⟩ ?_
        · obtain ⟨_, hp⟩ := hp
          refine st_ldB hf (by decide) pl4 rfl rfl (hbx1.sl hp) hc2.1 hc2.2 ?_
          clear hf; intro a ha hf
          exact st_nil hf (th_n ⟨ha, rfl⟩)
        clear hf; intro a hf
        refine dr_take 8 (.bool ((gt ax0 i5) != (gt bx1 i5))) rfl (by kernel_rfl) (by kernel_rfl) (by kernel_rfl) (by kernel_rfl) rfl rfl hf (by decide) rfl (fun w hp => ?_) ⟨_, hp⟩ ?_
        · obtain ⟨_, hp⟩ := hp
          refine st_bneq hf (by decide) Try.underlying4 rfl rfl rfl ?_
          clear hf; intro a ha hf
          exact st_nil hf (th_n ⟨ha, rfl⟩)
        clear hf; intro a hf
        refine dr_end (by kernel_rfl) ?_ _
        exact ⟨hf.sub ⟨rfl, rfl, rfl, rfl, trivial⟩, hp⟩
      rintro a w ⟨hf, hp⟩
      refine th_n ?_
      refine wp_if hf rfl (fun hb => ?_) (fun hb => ?_)
      · replace h := ifT h hb
        refine wp_seq ?_
        refine wp_reg ?_
        refine st_assign hf rfl rfl (by decide) ?_
        clear hf; intro a ha hf; clear ha
        refine st_nil hf ?_
        refine th_n ?_
        refine wp_ret ?_
        refine ib_r ?_
        refine th_r ?_
        obtain rfl := Option.some.inj h
        exact rnd_r (by simp) ⟨rfl, ⟨hf.sub ⟨rfl, trivial⟩, hp⟩⟩
      replace h := ifF h hb
      refine wp_skip ?_
      refine ib_n ?_
      refine th_n ?_
      refine wp_reg ?_
      refine st_move hf rfl rfl (by decide) ?_
      clear hf; intro a ha hf; clear ha
      refine st_iadd hf (by decide) rfl rfl rfl ?_
      clear hf; intro a ha hf; clear ha
      refine st_assign hf rfl rfl (by decide) ?_
      clear hf; intro a ha hf; clear ha
      refine st_nil hf ?_
      obtain rfl := Option.some.inj h
      exact rnd_l ⟨hf.sub ⟨rfl, rfl, rfl, trivial⟩, hp⟩
    replace h := ifF h hb
    refine wp_exit ?_
    refine th_e ?_
    obtain rfl := Option.some.inj h
    exact rnd_r (by simp) ⟨rfl, hf.sub trivial, hp⟩
  clear hl hf hp
  intro e a w hne hO
  rcases q3 with q4 | q5
  · replace h := smL h
    obtain ⟨rfl, hf, hp⟩ := hO
    refine ib_same ?_
    refine th_n ?_
    refine wp_seq ?_
    refine wp_reg ?_
    refine st_assign hf rfl rfl (by decide) ?_
    clear hf; intro a ha hf; clear ha
    refine st_nil hf ?_
    refine th_n ?_
    refine wp_ret ?_
    obtain rfl := Option.some.inj h
    exact ⟨rfl, ⟨hf.sub ⟨rfl, trivial⟩, hp⟩⟩
  replace h := smR h
  obtain ⟨rfl, hf, hp⟩ := hO
  refine ib_r ?_
  refine th_r ?_
  obtain rfl := Option.some.inj h
  exact ⟨rfl, ⟨hf.sub ⟨rfl, trivial⟩, hp⟩⟩

noncomputable def f_soft_Margin (cx0_Length : Int) (cx0_One : Int) (cx0_Two : Int) (l1 : (List ((Fl × Fl) × Bool))) : Option (Fl × Int) := ((f_soft_check cx0_Length cx0_One cx0_Two l1 (IntKind.i64.wrap (cx0_Length - (1 : Int)))).bind fun q3 => (if (q3 != (0 : Int)) = true then (some ((Fl.bits 0), q3)) else ((f_soft_run cx0_Length cx0_One cx0_Two l1 (IntKind.i64.wrap (cx0_Length - (1 : Int)))).bind fun q5 => (if (((gt q5.1 (0 : Int)).2).isNone) = true then (some ((Fl.bits 0), (6 : Int))) else (((gt q5.1 (0 : Int)).2).bind fun n41 => (((gt q5.1 (0 : Int)).1).bind fun n57 => (some ((fsub ((nth q5.2 n41).2.2.1) ((nth q5.2 n57).2.2.1)), (0 : Int)))))))))
theorem f_soft_Margin_c {S : Nat → Prop} {w0 w : World} {ow : List Res} (hp : Hp S w0 w ow) (cx0_Length : Int) (cx0_One : Int) (cx0_Two : Int) (vl1 : Value) (l1 : (List ((Fl × Fl) × Bool))) (hl1 : RdS (Ek.pair Ek.c128 Ek.bool) S w0 vl1 l1) {r : (Fl × Int)} (h : f_soft_Margin cx0_Length cx0_One cx0_Two l1 = some r) :
    Calls Try.prog 24 #[.agg #[.int .i64 cx0_Length, .int .u32 cx0_One, .int .u32 cx0_Two], vl1] w (fun e w' => ∃ (b0 : Nat), e = .returned (.tuple #[.float .f64 b0, .int .i64 r.2]) ∧ Fl.rep b0 r.1 ∧ Hp S w0 w' (ow)) := by
  unfold f_soft_Margin at h
  refine enter (n := 40) (args := [.agg #[.int .i64 cx0_Length, .int .u32 cx0_One, .int .u32 cx0_Two], vl1]) Try.func24 rfl rfl (Nat.le_of_ble_eq_true rfl) fun a hf => ?_
  replace hf : Fr 40 a [(0, .agg #[.int .i64 cx0_Length, .int .u32 cx0_One, .int .u32 cx0_Two]), (1, vl1)] := hf
  refine wp_mono (Q := fun e a w => e = .ret ∧ ∃ (b0 : Nat), Fr 40 a [(4, .float .f64 b0), (5, .int .i64 r.2)] ∧ Fl.rep b0 r.1 ∧ Hp S w0 w (ow)) ?_ ?_
  rotate_left
  · rintro e a w ⟨rfl, x0, hf, y0, hp⟩
    exact ret2 hf rfl rfl rfl ⟨x0, rfl, y0, hp⟩
  refine wp_seq ?_
  refine wp_reg ?_
  refine st_boxO (cs := [.int .i64 cx0_Length, .int .u32 cx0_One, .int .u32 cx0_Two]) hf (by decide) hp rfl rfl rfl ?_
  clear hf; intro a w v1 hf hp0; clear hp; have hp := hp0; clear hp0
  replace hp : Hp _ _ _ (Res.obj 40 v1 [.int .i64 cx0_Length, .int .u32 cx0_One, .int .u32 cx0_Two] :: ow) := hp
  refine st_assign hf rfl rfl (by decide) ?_
  clear hf; intro a ha hf; clear ha
  refine st_assign hf rfl rfl (by decide) ?_
  clear hf; intro a ha hf; clear ha
  refine st_nil hf ?_
  refine th_n ?_
  refine wp_seq ?_
  refine wp_seq ?_
  refine wp_reg ?_
  refine st_ldOA (m := 3) (us := [.int .i64 cx0_Length, .int .u32 cx0_One, .int .u32 cx0_Two]) hf (by decide) (by kernel_rfl) rfl rfl (hp.ob (i := 0) rfl) rfl rfl ?_
  clear hf; intro a ha hf; clear ha
  refine st_move hf rfl rfl (by decide) ?_
  clear hf; intro a ha hf; clear ha
  refine st_fa (o' := 0) hf (by decide) (off := 0) (sz := 1) (by kernel_rfl) (by decide) rfl rfl (hp.ob (i := 0) rfl) rfl ?_
  clear hf; intro a ha hf; clear ha
  refine st_ldO (u := .int .i64 cx0_Length) hf (by decide) pl3 rfl rfl (hp.ob (i := 0) rfl) rfl ?_
  clear hf; intro a ha hf; clear ha
  refine st_isub hf (by decide) rfl rfl rfl ?_
  clear hf; intro a ha hf; clear ha
  obtain ⟨q3, hcall4, h⟩ := bnd h
  refine st_call hf (by decide) Try.func45 rfl rfl rfl rfl rfl (f_soft_check_c hp _ _ _ _ _ hl1 _ hcall4) ?_
  rintro _ w ⟨rfl, hp0⟩
  clear hp; have hp := hp0; clear hp0
  replace hp : Hp _ _ _ (Res.obj 40 v1 [.int .i64 cx0_Length, .int .u32 cx0_One, .int .u32 cx0_Two] :: ow) := hp
  refine ⟨_, rfl, ?_⟩
  clear hf; intro a hf
  refine st_assign hf rfl rfl (by decide) ?_
  clear hf; intro a ha hf; clear ha
  refine st_nil hf ?_
  refine th_n ?_
  refine wp_seq ?_
  refine wp_reg ?_
  refine st_move hf rfl rfl (by decide) ?_
  clear hf; intro a ha hf; clear ha
  refine st_ineq hf (by decide) rfl rfl rfl ?_
  clear hf; intro a ha hf; clear ha
  refine st_nil hf ?_
  refine th_n ?_
  refine wp_if hf rfl (fun hb => ?_) (fun hb => ?_)
  · replace h := ifT h hb
    refine wp_seq ?_
    refine wp_reg ?_
    refine st_move hf rfl rfl (by decide) ?_
    clear hf; intro a ha hf; clear ha
    refine st_assign hf rfl rfl (by decide) ?_
    clear hf; intro a ha hf; clear ha
    refine st_assign hf rfl rfl (by decide) ?_
    clear hf; intro a ha hf; clear ha
    refine st_nil hf ?_
    refine th_n ?_
    refine wp_ret ?_
    refine th_r ?_
    obtain rfl := Option.some.inj h
    have hp : Hp _ _ _ (ow) := Hp.sel (pre := [Res.obj 40 v1 [.int .i64 cx0_Length, .int .u32 cx0_One, .int .u32 cx0_Two]]) (tail := ow) (rs' := []) hp [] (by decide) (by simp) rfl
    exact ⟨rfl, ⟨_, hf.sub ⟨rfl, rfl, trivial⟩, rfl, hp⟩⟩
  replace h := ifF h hb
  refine wp_skip ?_
  refine th_n ?_
  refine wp_seq ?_
  refine wp_reg ?_
  refine st_ldOA (m := 3) (us := [.int .i64 cx0_Length, .int .u32 cx0_One, .int .u32 cx0_Two]) hf (by decide) (by kernel_rfl) rfl rfl (hp.ob (i := 0) rfl) rfl rfl ?_
  clear hf; intro a ha hf; clear ha
  refine st_move hf rfl rfl (by decide) ?_
  clear hf; intro a ha hf; clear ha
  refine st_fa (o' := 0) hf (by decide) (off := 0) (sz := 1) (by kernel_rfl) (by decide) rfl rfl (hp.ob (i := 0) rfl) rfl ?_
  clear hf; intro a ha hf; clear ha
  refine st_ldO (u := .int .i64 cx0_Length) hf (by decide) pl3 rfl rfl (hp.ob (i := 0) rfl) rfl ?_
  clear hf; intro a ha hf; clear ha
  refine st_isub hf (by decide) rfl rfl rfl ?_
  clear hf; intro a ha hf; clear ha
  obtain ⟨q5, hcall6, h⟩ := bnd h
  refine st_call hf (by decide) Try.func46 rfl rfl rfl rfl rfl (f_soft_run_c hp _ _ _ _ _ hl1 _ hcall6) ?_
  rintro _ w ⟨v7, v8, rfl, y9, y10, hp0⟩
  clear hp; have hp := hp0; clear hp0
  replace hp : Hp _ _ _ (Res.ar 92 v7 q5.2 :: Res.obj 40 v1 [.int .i64 cx0_Length, .int .u32 cx0_One, .int .u32 cx0_Two] :: ow) := hp
  refine ⟨_, rfl, ?_⟩
  clear hf; intro a hf
  refine st_allocA (E := (Ek.pair (Ek.wp v7) (Ek.wp v7))) (N := 64) (zs := List.replicate 64 ((none : Option Nat), (none : Option Nat))) (zv := .agg ((List.replicate 64 ([.pointer none, .pointer none] : List Value)).flatten).toArray) hf (by decide) (by decide) (by decide) (by kernel_rfl) (reps_replicate (E := (Ek.pair (Ek.wp v7) (Ek.wp v7))) (vs := ([.pointer none, .pointer none] : List Value)) (x := ((none : Option Nat), (none : Option Nat))) ⟨[.pointer none], [.pointer none], rfl, ⟨_, rfl, WP.nil _⟩, ⟨_, rfl, WP.nil _⟩⟩ 64) (by simp) hp rfl ?_
  clear hf; intro a w v12 hf hp0; clear hp; have hp := hp0; clear hp0
  replace hp : Hp _ _ _ (Res.sl (Ek.pair (Ek.wp v7) (Ek.wp v7)) 89 (aslv v12 64) (List.replicate 64 ((none : Option Nat), (none : Option Nat))) :: Res.ar 92 v7 q5.2 :: Res.obj 40 v1 [.int .i64 cx0_Length, .int .u32 cx0_One, .int .u32 cx0_Two] :: ow) := hp
  refine st_stArr hf hp (m := 0) rfl (by decide) rfl rfl rfl y9 y10 (by kernel_rfl) ?_
  clear hf; intro a w hf hp0; clear hp; have hp := hp0; clear hp0
  replace hp : Hp _ _ _ (Res.sl (Ek.pair (Ek.wp v7) (Ek.wp v7)) 89 (aslv v12 64) q5.1 :: Res.ar 92 v7 q5.2 :: Res.obj 40 v1 [.int .i64 cx0_Length, .int .u32 cx0_One, .int .u32 cx0_Two] :: ow) := hp
  refine st_nil hf ?_
  refine th_n ?_
  refine wp_seq ?_
  refine wp_seq ?_
  refine wp_reg ?_
  have hc14 : 0 ≤ (0 : Int) ∧ (0 : Int) < (64 : Int) := by decide
  refine st_iaA (E := (Ek.pair (Ek.wp v7) (Ek.wp v7))) (N := 64) hf (by decide) Try.underlying89 (by kernel_rfl) rfl rfl rfl (hp.sl (i := 0) rfl) rfl hc14.1 hc14.2 ?_
  clear hf; intro a ha hf; clear ha
  have hc16 : 0 ≤ (1 : Int) ∧ (1 : Int) < (2 : Int) := by decide
  refine st_iaP (sz := 1) hf (by decide) Try.underlying88 (by kernel_rfl) rfl rfl rfl (Sl.isP (hp.sl (i := 0) rfl) (aslv_ix (hp.sl (i := 0) rfl) hc14).1 (aslv_ix (hp.sl (i := 0) rfl) hc14).2) hc16.1 hc16.2 ?_
  clear hf; intro a ha hf; clear ha
  refine st_ldQW (bs := v7) (yv := (gt q5.1 (0 : Int)).2) hf (by decide) pl86 rfl rfl (Sl.part (E := (Ek.pair (Ek.wp v7) (Ek.wp v7))) (F := (Ek.wp v7)) (o := ((1 : Int)).toNat * 1) (Sub.snd (E := (Ek.wp v7)) (F := (Ek.wp v7))) (hp.sl (i := 0) rfl) (aslv_ix (hp.sl (i := 0) rfl) hc14).1 (aslv_ix (hp.sl (i := 0) rfl) hc14).2) ?_
  clear hf; intro a v17 y18 ha hf; clear ha
  refine st_wnilE hf (by decide) Try.underlying86 rfl rfl rfl y18 ?_
  clear hf; intro a ha hf; clear ha
  refine st_nil hf ?_
  refine th_n ?_
  refine wp_if hf rfl (fun hb => ?_) (fun hb => ?_)
  · replace h := ifT h hb
    refine wp_seq ?_
    refine wp_reg ?_
    refine st_assign hf rfl rfl (by decide) ?_
    clear hf; intro a ha hf; clear ha
    refine st_assign hf rfl rfl (by decide) ?_
    clear hf; intro a ha hf; clear ha
    refine st_nil hf ?_
    refine th_n ?_
    refine wp_ret ?_
    refine th_r ?_
    obtain rfl := Option.some.inj h
    have hp : Hp _ _ _ (ow) := Hp.sel (pre := [Res.sl (Ek.pair (Ek.wp v7) (Ek.wp v7)) 89 (aslv v12 64) q5.1, Res.ar 92 v7 q5.2, Res.obj 40 v1 [.int .i64 cx0_Length, .int .u32 cx0_One, .int .u32 cx0_Two]]) (tail := ow) (rs' := []) hp [] (by decide) (by simp) rfl
    exact ⟨rfl, ⟨_, hf.sub ⟨rfl, rfl, trivial⟩, rfl, hp⟩⟩
  replace h := ifF h hb
  refine wp_skip ?_
  refine th_n ?_
  refine wp_seq ?_
  obtain ⟨S19, hp20, rd21, up22, bk23⟩ := Hp.lendS hp (i := 0) rfl
  obtain ⟨S24, hp25, rd26, up27, bk28⟩ := Hp.lendA hp20 (i := 0) rfl
  have rl29 := ((((hl1.now hp).mono up22).now hp20).mono up27)
  have rl30 := rd26
  have rl31 := ((rd21.now hp20).mono up27)
  have hc32 : 0 ≤ (0 : Int) ∧ (0 : Int) < (64 : Int) := by decide
  have hc33 := aslv_ix rl31 hc32
  have hc34 : 0 ≤ (1 : Int) ∧ (1 : Int) < (2 : Int) := by decide
  obtain ⟨v40, y38, hl35⟩ := RdS.pinPW (p := (0 : Int)) (o := ((1 : Int)).toNat * 1) (Sub.snd (E := (Ek.wp v7)) (F := (Ek.wp v7))) rl31 hc33.1 hc33.2
  obtain ⟨n41, hx42, h⟩ := bnd h
  obtain ⟨v43, bb44, y45, y46, ho47⟩ := RdA.at rl30 y38 hx42
  have hc48 : 0 ≤ (0 : Int) ∧ (0 : Int) < (64 : Int) := by decide
  have hc49 := aslv_ix rl31 hc48
  have hc50 : 0 ≤ (0 : Int) ∧ (0 : Int) < (2 : Int) := by decide
  obtain ⟨v56, y54, hl51⟩ := RdS.pinPW (p := (0 : Int)) (o := ((0 : Int)).toNat * 1) (Sub.fst (E := (Ek.wp v7)) (F := (Ek.wp v7))) rl31 hc49.1 hc49.2
  obtain ⟨n57, hx58, h⟩ := bnd h
  obtain ⟨v59, bb60, y61, y62, ho63⟩ := RdA.at rl30 y54 hx58
  refine wp_cutN (fun a w => ∃ (bb64 : Nat), Fl.rep bb64 (fsub ((nth q5.2 n41).2.2.1) ((nth q5.2 n57).2.2.1)) ∧ Fr 40 a [(4, .float .f64 bb64), (5, .int .i64 (0 : Int))] ∧ Hp S w0 w (Res.sl (Ek.pair (Ek.wp v7) (Ek.wp v7)) 89 (aslv v12 64) q5.1 :: Res.ar 92 v7 q5.2 :: Res.obj 40 v1 [.int .i64 cx0_Length, .int .u32 cx0_One, .int .u32 cx0_Two] :: ow)) ?_ ?_
  · have hp := hp25.same (Same.drew w)
    refine dr_begin' (fun a w => ∃ (bb64 : Nat), Fl.rep bb64 (fsub ((nth q5.2 n41).2.2.1) ((nth q5.2 n57).2.2.1)) ∧ Fr 40 a [(4, .float .f64 bb64), (5, .int .i64 (0 : Int))] ∧ Hp S w0 w (Res.sl (Ek.pair (Ek.wp v7) (Ek.wp v7)) 89 (aslv v12 64) q5.1 :: Res.ar 92 v7 q5.2 :: Res.obj 40 v1 [.int .i64 cx0_Length, .int .u32 cx0_One, .int .u32 cx0_Two] :: ow)) (fun w' => ∃ l, Hp S24 w w' l) [] (by kernel_rfl) ?_
    refine dr_take 0 (eptr (aslv v12 64) (0 : Int) 2) rfl (by kernel_rfl) (by kernel_rfl) (by kernel_rfl) (by kernel_rfl) rfl rfl hf (by decide) rfl (fun w hp => ?_) ⟨_, hp⟩ ?_
    · obtain ⟨_, hp⟩ := hp
      refine st_iaA (E := (Ek.pair (Ek.wp v7) (Ek.wp v7))) (N := 64) hf (by decide) Try.underlying89 (by kernel_rfl) rfl rfl rfl (rl31.sl hp) rfl hc32.1 hc32.2 ?_
      clear hf; intro a ha hf
      exact st_nil hf (th_n ⟨ha, rfl⟩)
    clear hf; intro a hf
    refine dr_take 1 (optr (eptr (aslv v12 64) (0 : Int) 2) (((1 : Int)).toNat * 1)) rfl (by kernel_rfl) (by kernel_rfl) (by kernel_rfl) (by kernel_rfl) rfl rfl hf (by decide) rfl (fun w hp => ?_) ⟨_, hp⟩ ?_
    · obtain ⟨_, hp⟩ := hp
      refine st_iaP (sz := 1) hf (by decide) Try.underlying88 (by kernel_rfl) rfl rfl rfl (Sl.isP (rl31.sl hp) hc33.1 hc33.2) hc34.1 hc34.2 ?_
      clear hf; intro a ha hf
      exact st_nil hf (th_n ⟨ha, rfl⟩)
    clear hf; intro a hf
    refine dr_take 2 (v40) rfl (by kernel_rfl) (by kernel_rfl) (by kernel_rfl) (by kernel_rfl) rfl rfl hf (by decide) rfl (fun w hp => ?_) ⟨_, hp⟩ ?_
    · obtain ⟨_, hp⟩ := hp
      refine st_ldP hf (by decide) pl86 rfl rfl (hl35 _ _ hp) ?_
      clear hf; intro a ha hf
      exact st_nil hf (th_n ⟨ha, rfl⟩)
    clear hf; intro a hf
    refine dr_nilE 3 rfl (by kernel_rfl) (by kernel_rfl) (by kernel_rfl) hf (by decide) rfl rfl (WP.ptr y38 hx42) ?_
    clear hf; intro a hf
    refine dr_take 4 (optr v40 2) rfl (by kernel_rfl) (by kernel_rfl) (by kernel_rfl) (by kernel_rfl) rfl rfl hf (by decide) rfl (fun w hp => ?_) ⟨_, hp⟩ ?_
    · obtain ⟨_, hp⟩ := hp
      refine st_faP (off := 2) (sz := 1) hf (by decide) (by kernel_rfl) (by decide) rfl rfl (WP.isP y38 hx42) ?_
      clear hf; intro a ha hf
      exact st_nil hf (th_n ⟨ha, rfl⟩)
    clear hf; intro a hf
    refine dr_take 5 (.float .f64 bb44) rfl (by kernel_rfl) (by kernel_rfl) (by kernel_rfl) (by kernel_rfl) rfl rfl hf (by decide) rfl (fun w hp => ?_) ⟨_, hp⟩ ?_
    · obtain ⟨_, hp⟩ := hp
      refine st_ldO (u := .float .f64 bb44) hf (by decide) pl29 rfl rfl (ho47.ob hp) rfl ?_
      clear hf; intro a ha hf
      exact st_nil hf (th_n ⟨ha, rfl⟩)
    clear hf; intro a hf
    refine dr_take 6 (eptr (aslv v12 64) (0 : Int) 2) rfl (by kernel_rfl) (by kernel_rfl) (by kernel_rfl) (by kernel_rfl) rfl rfl hf (by decide) rfl (fun w hp => ?_) ⟨_, hp⟩ ?_
    · obtain ⟨_, hp⟩ := hp
      refine st_iaA (E := (Ek.pair (Ek.wp v7) (Ek.wp v7))) (N := 64) hf (by decide) Try.underlying89 (by kernel_rfl) rfl rfl rfl (rl31.sl hp) rfl hc48.1 hc48.2 ?_
      clear hf; intro a ha hf
      exact st_nil hf (th_n ⟨ha, rfl⟩)
    clear hf; intro a hf
    refine dr_take 7 (optr (eptr (aslv v12 64) (0 : Int) 2) (((0 : Int)).toNat * 1)) rfl (by kernel_rfl) (by kernel_rfl) (by kernel_rfl) (by kernel_rfl) rfl rfl hf (by decide) rfl (fun w hp => ?_) ⟨_, hp⟩ ?_
    · obtain ⟨_, hp⟩ := hp
      refine st_iaP (sz := 1) hf (by decide) Try.underlying88 (by kernel_rfl) rfl rfl rfl (Sl.isP (rl31.sl hp) hc49.1 hc49.2) hc50.1 hc50.2 ?_
      clear hf; intro a ha hf
      exact st_nil hf (th_n ⟨ha, rfl⟩)
    clear hf; intro a hf
    refine dr_take 8 (v56) rfl (by kernel_rfl) (by kernel_rfl) (by kernel_rfl) (by kernel_rfl) rfl rfl hf (by decide) rfl (fun w hp => ?_) ⟨_, hp⟩ ?_
    · obtain ⟨_, hp⟩ := hp
      refine st_ldP hf (by decide) pl86 rfl rfl (hl51 _ _ hp) ?_
      clear hf; intro a ha hf
      exact st_nil hf (th_n ⟨ha, rfl⟩)
    clear hf; intro a hf
    refine dr_nilE 9 rfl (by kernel_rfl) (by kernel_rfl) (by kernel_rfl) hf (by decide) rfl rfl (WP.ptr y54 hx58) ?_
    clear hf; intro a hf
    refine dr_take 10 (optr v56 2) rfl (by kernel_rfl) (by kernel_rfl) (by kernel_rfl) (by kernel_rfl) rfl rfl hf (by decide) rfl (fun w hp => ?_) ⟨_, hp⟩ ?_
    · obtain ⟨_, hp⟩ := hp
      refine st_faP (off := 2) (sz := 1) hf (by decide) (by kernel_rfl) (by decide) rfl rfl (WP.isP y54 hx58) ?_
      clear hf; intro a ha hf
      exact st_nil hf (th_n ⟨ha, rfl⟩)
    clear hf; intro a hf
    refine dr_take 11 (.float .f64 bb60) rfl (by kernel_rfl) (by kernel_rfl) (by kernel_rfl) (by kernel_rfl) rfl rfl hf (by decide) rfl (fun w hp => ?_) ⟨_, hp⟩ ?_
    · obtain ⟨_, hp⟩ := hp
      refine st_ldO (u := .float .f64 bb60) hf (by decide) pl29 rfl rfl (ho63.ob hp) rfl ?_
      clear hf; intro a ha hf
      exact st_nil hf (th_n ⟨ha, rfl⟩)
    clear hf; intro a hf
    refine dr_one 12 rfl (by kernel_rfl) ?_
    refine st_farith (op := .sub) rfl hf (by decide) hp rfl rfl rfl (show Fl.rep bb44 ((nth q5.2 n41).2.2.1) from y46) (show Fl.rep bb60 ((nth q5.2 n57).2.2.1) from y62) ?_
    clear hf; intro a w bb64 y65 hf hp0; clear hp; have hp := hp0; clear hp0
    replace hp : Hp _ _ _ (Res.obj 40 v1 [.int .i64 cx0_Length, .int .u32 cx0_One, .int .u32 cx0_Two] :: ow) := hp
    refine st_nil hf (th_n ⟨fun _ _ => ⟨_, hp⟩, ?_⟩)
    refine dr_take 13 (.float .f64 bb64) rfl (by kernel_rfl) (by kernel_rfl) (by kernel_rfl) (by kernel_rfl) rfl rfl hf (by decide) rfl (fun w hp => ?_) ⟨_, hp⟩ ?_
    · obtain ⟨_, hp⟩ := hp
      refine st_assign hf rfl rfl (by decide) ?_
      clear hf; intro a ha hf
      exact st_nil hf (th_n ⟨ha, rfl⟩)
    clear hf; intro a hf
    refine dr_take 14 (.int .i64 (0 : Int)) rfl (by kernel_rfl) (by kernel_rfl) (by kernel_rfl) (by kernel_rfl) rfl rfl hf (by decide) rfl (fun w hp => ?_) ⟨_, hp⟩ ?_
    · obtain ⟨_, hp⟩ := hp
      refine st_assign hf rfl rfl (by decide) ?_
      clear hf; intro a ha hf
      exact st_nil hf (th_n ⟨ha, rfl⟩)
    clear hf; intro a hf
    refine dr_end (by kernel_rfl) ?_ _
    have hp := bk28 _ _ hp
    have hp := bk23 _ _ hp
    exact ⟨bb64, y65, hf.sub ⟨rfl, rfl, trivial⟩, hp⟩
  rintro a w ⟨bb64, y65, hf, hp⟩
  refine th_n ?_
  refine wp_ret ?_
  obtain rfl := Option.some.inj h
  have hp : Hp _ _ _ (ow) := Hp.sel (pre := [Res.sl (Ek.pair (Ek.wp v7) (Ek.wp v7)) 89 (aslv v12 64) q5.1, Res.ar 92 v7 q5.2, Res.obj 40 v1 [.int .i64 cx0_Length, .int .u32 cx0_One, .int .u32 cx0_Two]]) (tail := ow) (rs' := []) hp [] (by decide) (by simp) rfl
  exact ⟨rfl, ⟨_, hf.sub ⟨rfl, rfl, trivial⟩, y65, hp⟩⟩

noncomputable def f_math_Inf.j1 (vx3 : Int) : Option Fl := (some (Fl.bits (vx3).toNat))
noncomputable def f_math_Inf (sign0 : Int) : Option Fl := (if (decide ((0 : Int) ≤ sign0)) = true then (f_math_Inf.j1 (9218868437227405312 : Int)) else (f_math_Inf.j1 (18442240474082181120 : Int)))
theorem f_math_Inf_c {S : Nat → Prop} {w0 w : World} {ow : List Res} (hp : Hp S w0 w ow) (sign0 : Int) {r : Fl} (h : f_math_Inf sign0 = some r) :
    Calls Try.prog 31 #[.int .i64 sign0] w (fun e w' => ∃ (b0 : Nat), e = .returned (.float .f64 b0) ∧ Fl.rep b0 r ∧ Hp S w0 w' (ow)) := by
  unfold f_math_Inf at h
  refine enter (n := 8) (args := [.int .i64 sign0]) Try.func31 rfl rfl (Nat.le_of_ble_eq_true rfl) fun a hf => ?_
  replace hf : Fr 8 a [(0, .int .i64 sign0)] := hf
  refine wp_mono (Q := fun e a w => e = .ret ∧ ∃ (b0 : Nat), Fr 8 a [(2, .float .f64 b0)] ∧ Fl.rep b0 r ∧ Hp S w0 w (ow)) ?_ ?_
  rotate_left
  · rintro e a w ⟨rfl, x0, hf, y0, hp⟩
    exact ret1 hf rfl rfl ⟨x0, rfl, y0, hp⟩
  refine wp_seq ?_
  refine wp_reg ?_
  refine st_assign hf rfl rfl (by decide) ?_
  clear hf; intro a ha hf; clear ha
  refine st_nil hf ?_
  refine th_n ?_
  refine wp_seq ?_
  refine wp_reg ?_
  refine st_assign hf rfl rfl (by decide) ?_
  clear hf; intro a ha hf; clear ha
  refine st_nil hf ?_
  refine th_n ?_
  refine wp_seq_cut (fun a w => ∃ (vx3 : Int), f_math_Inf.j1 vx3 = some r ∧ Fr 8 a [(3, .int .u64 vx3)] ∧ Hp S w0 w (ow)) ?_ ?_
  · skip
    refine wp_seq ?_
    refine wp_reg ?_
    refine st_move hf rfl rfl (by decide) ?_
    clear hf; intro a ha hf; clear ha
    refine st_igeq hf (by decide) rfl rfl rfl ?_
    clear hf; intro a ha hf; clear ha
    refine st_nil hf ?_
    refine th_n ?_
    refine wp_if hf rfl (fun hb => ?_) (fun hb => ?_)
    · replace h := ifT h hb
      refine wp_reg ?_
      refine st_assign hf rfl rfl (by decide) ?_
      clear hf; intro a ha hf; clear ha
      refine st_nil hf ?_
      refine th_n ?_
      exact ⟨_, h, hf.sub ⟨rfl, trivial⟩, hp⟩
    replace h := ifF h hb
    refine wp_reg ?_
    refine st_assign hf rfl rfl (by decide) ?_
    clear hf; intro a ha hf; clear ha
    refine st_nil hf ?_
    refine th_n ?_
    exact ⟨_, h, hf.sub ⟨rfl, trivial⟩, hp⟩
  rintro a w ⟨vx3, h, hf, hp⟩
  unfold f_math_Inf.j1 at h
  refine wp_seq ?_
  refine wp_reg ?_
  refine st_move hf rfl rfl (by decide) ?_
  clear hf; intro a ha hf; clear ha
  refine st_extern (ex := Extern.MathFloatBits.float64frombits) (r := .float .f64 (vx3).toNat) (f := 54) (vs := [.int .u64 vx3]) hf (by decide) Try.func54 rfl rfl (by kernel_rfl) (by kernel_rfl) rfl rfl rfl rfl ?_
  clear hf; intro a ha hf; clear ha
  refine st_assign hf rfl rfl (by decide) ?_
  clear hf; intro a ha hf; clear ha
  refine st_nil hf ?_
  refine th_n ?_
  refine wp_ret ?_
  obtain rfl := Option.some.inj h
  exact ⟨rfl, ⟨_, hf.sub ⟨rfl, trivial⟩, rfl, hp⟩⟩

noncomputable def f_foghornref23_Ends.s1c (q6 : (List (List ((List Bool) × Fl)))) (out8 : (List Fl)) (sx9 : Int) : Option (((List Fl) × Int) ⊕ (List Fl)) := (if (decide (sx9 < (q6.length : Int))) = true then ((f_math_Inf (1 : Int)).bind fun q17 => (if 0 ≤ sx9 ∧ sx9 < (q6.length : Int) then (if (decide ((0 : Int) < ((gt q6 sx9).length : Int))) = true then (if 0 ≤ sx9 ∧ sx9 < (q6.length : Int) then (if 0 ≤ (0 : Int) ∧ (0 : Int) < ((gt q6 sx9).length : Int) then (if (out8.length + ([(gt (gt q6 sx9) (0 : Int)).2]).length) * 8 ≤ 140737488355328 then (some (Sum.inl ((out8 ++ [(gt (gt q6 sx9) (0 : Int)).2]), (IntKind.i64.wrap (sx9 + (1 : Int)))))) else none) else none) else none) else (if (out8.length + ([q17]).length) * 8 ≤ 140737488355328 then (some (Sum.inl ((out8 ++ [q17]), (IntKind.i64.wrap (sx9 + (1 : Int)))))) else none)) else none)) else (some (Sum.inr out8)))
noncomputable def f_foghornref23_Ends.s1 (q6 : (List (List ((List Bool) × Fl)))) (s : ((List Fl) × Int)) : Option (((List Fl) × Int) ⊕ (List Fl)) := f_foghornref23_Ends.s1c q6 s.1 s.2
noncomputable def f_foghornref23_Ends (cx0_Length : Int) (cx0_One : Int) (cx0_Two : Int) (l1 : (List ((Fl × Fl) × Bool))) : Option ((List Fl) × Int) := ((f_foghornref23_wrong cx0_Length cx0_One cx0_Two l1 (0 : Int)).bind fun q3 => (if (q3 != (0 : Int)) = true then (some ([], q3)) else ((f_foghornref23_run cx0_Length cx0_One cx0_Two l1 (0 : Int)).bind fun q6 => ((loop (f_foghornref23_Ends.s1 q6) ([], (0 : Int))).bind (fun q34 => (some (q34, (0 : Int))))))))
theorem f_foghornref23_Ends_c {S : Nat → Prop} {w0 w : World} {ow : List Res} (hp : Hp S w0 w ow) (cx0_Length : Int) (cx0_One : Int) (cx0_Two : Int) (vl1 : Value) (l1 : (List ((Fl × Fl) × Bool))) (hl1 : RdS (Ek.pair Ek.c128 Ek.bool) S w0 vl1 l1) {r : ((List Fl) × Int)} (h : f_foghornref23_Ends cx0_Length cx0_One cx0_Two l1 = some r) :
    Calls Try.prog 25 #[.agg #[.int .i64 cx0_Length, .int .u32 cx0_One, .int .u32 cx0_Two], vl1] w (fun e w' => ∃ (u0 : Value), e = .returned (.tuple #[u0, .int .i64 r.2]) ∧ Hp S w0 w' (Res.sl Ek.f64 29 u0 r.1 :: ow)) := by
  unfold f_foghornref23_Ends at h
  refine enter (n := 45) (args := [.agg #[.int .i64 cx0_Length, .int .u32 cx0_One, .int .u32 cx0_Two], vl1]) Try.func25 rfl rfl (Nat.le_of_ble_eq_true rfl) fun a hf => ?_
  replace hf : Fr 45 a [(0, .agg #[.int .i64 cx0_Length, .int .u32 cx0_One, .int .u32 cx0_Two]), (1, vl1)] := hf
  refine wp_mono (Q := fun e a w => e = .ret ∧ ∃ (u0 : Value), Fr 45 a [(4, u0), (5, .int .i64 r.2)] ∧ Hp S w0 w (Res.sl Ek.f64 29 u0 r.1 :: ow)) ?_ ?_
  rotate_left
  · rintro e a w ⟨rfl, x0, hf, hp⟩
    exact ret2 hf rfl rfl rfl ⟨x0, rfl, hp⟩
  refine wp_seq ?_
  refine wp_reg ?_
  refine st_boxO (cs := [.int .i64 cx0_Length, .int .u32 cx0_One, .int .u32 cx0_Two]) hf (by decide) hp rfl rfl rfl ?_
  clear hf; intro a w v1 hf hp0; clear hp; have hp := hp0; clear hp0
  replace hp : Hp _ _ _ (Res.obj 24 v1 [.int .i64 cx0_Length, .int .u32 cx0_One, .int .u32 cx0_Two] :: ow) := hp
  refine st_assign hf rfl rfl (by decide) ?_
  clear hf; intro a ha hf; clear ha
  refine st_assign hf rfl rfl (by decide) ?_
  clear hf; intro a ha hf; clear ha
  refine st_nil hf ?_
  refine th_n ?_
  refine wp_seq ?_
  refine wp_reg ?_
  refine st_ldOA (m := 3) (us := [.int .i64 cx0_Length, .int .u32 cx0_One, .int .u32 cx0_Two]) hf (by decide) (by kernel_rfl) rfl rfl (hp.ob (i := 0) rfl) rfl rfl ?_
  clear hf; intro a ha hf; clear ha
  refine st_move hf rfl rfl (by decide) ?_
  clear hf; intro a ha hf; clear ha
  obtain ⟨q3, hcall4, h⟩ := bnd h
  refine st_call hf (by decide) Try.func48 rfl rfl rfl rfl rfl (f_foghornref23_wrong_c hp _ _ _ _ _ hl1 _ hcall4) ?_
  rintro _ w ⟨rfl, hp0⟩
  clear hp; have hp := hp0; clear hp0
  replace hp : Hp _ _ _ (Res.obj 24 v1 [.int .i64 cx0_Length, .int .u32 cx0_One, .int .u32 cx0_Two] :: ow) := hp
  refine ⟨_, rfl, ?_⟩
  clear hf; intro a hf
  refine st_assign hf rfl rfl (by decide) ?_
  clear hf; intro a ha hf; clear ha
  refine st_nil hf ?_
  refine th_n ?_
  refine wp_seq ?_
  refine wp_seq ?_
  refine wp_reg ?_
  refine st_move hf rfl rfl (by decide) ?_
  clear hf; intro a ha hf; clear ha
  refine st_ineq hf (by decide) rfl rfl rfl ?_
  clear hf; intro a ha hf; clear ha
  refine st_nil hf ?_
  refine th_n ?_
  refine wp_if hf rfl (fun hb => ?_) (fun hb => ?_)
  · replace h := ifT h hb
    refine wp_seq ?_
    refine wp_reg ?_
    refine st_move hf rfl rfl (by decide) ?_
    clear hf; intro a ha hf; clear ha
    refine st_assign hf rfl rfl (by decide) ?_
    clear hf; intro a ha hf; clear ha
    refine st_assign hf rfl rfl (by decide) ?_
    clear hf; intro a ha hf; clear ha
    refine st_nil hf ?_
    refine th_n ?_
    refine wp_ret ?_
    refine th_r ?_
    obtain rfl := Option.some.inj h
    have hp := hp.nil Ek.f64 29
    have hp : Hp _ _ _ (Res.sl Ek.f64 29 (.slice none 0 0) ([]) :: ow) := Hp.sel (pre := [Res.sl Ek.f64 29 (.slice none 0 0) ([]), Res.obj 24 v1 [.int .i64 cx0_Length, .int .u32 cx0_One, .int .u32 cx0_Two]]) (tail := ow) (rs' := [Res.sl Ek.f64 29 (.slice none 0 0) ([])]) hp [0] (by decide) (by simp) rfl
    exact ⟨rfl, ⟨_, hf.sub ⟨rfl, rfl, trivial⟩, hp⟩⟩
  replace h := ifF h hb
  refine wp_skip ?_
  refine th_n ?_
  refine wp_seq ?_
  refine wp_reg ?_
  refine st_ldOA (m := 3) (us := [.int .i64 cx0_Length, .int .u32 cx0_One, .int .u32 cx0_Two]) hf (by decide) (by kernel_rfl) rfl rfl (hp.ob (i := 0) rfl) rfl rfl ?_
  clear hf; intro a ha hf; clear ha
  refine st_move hf rfl rfl (by decide) ?_
  clear hf; intro a ha hf; clear ha
  obtain ⟨q6, hcall7, h⟩ := bnd h
  refine st_call hf (by decide) Try.func49 rfl rfl rfl rfl rfl (f_foghornref23_run_c hp _ _ _ _ _ hl1 _ hcall7) ?_
  rintro _ w ⟨v8, v9, v10, rfl, hp0⟩
  clear hp; have hp := hp0; clear hp0
  replace hp : Hp _ _ _ (Res.rows (RowK.sl (Ek.pair (Ek.fz v8) Ek.f64) 98) 94 v9 v10 q6 :: Res.fz 4 v8 :: Res.obj 24 v1 [.int .i64 cx0_Length, .int .u32 cx0_One, .int .u32 cx0_Two] :: ow) := hp
  refine ⟨_, rfl, ?_⟩
  clear hf; intro a hf
  refine st_assign hf rfl rfl (by decide) ?_
  clear hf; intro a ha hf; clear ha
  refine st_nil hf ?_
  refine th_n ?_
  refine wp_seq ?_
  refine wp_reg ?_
  refine st_assign hf rfl rfl (by decide) ?_
  clear hf; intro a ha hf; clear ha
  refine st_nil hf ?_
  refine th_n ?_
  refine wp_seq ?_
  refine wp_seq ?_
  refine wp_reg ?_
  refine st_assign hf rfl rfl (by decide) ?_
  clear hf; intro a ha hf; clear ha
  refine st_nil hf ?_
  refine th_n ?_
  refine wp_block ?_
  obtain ⟨q34, hl, h⟩ := bnd h
  have hp := hp.nil Ek.f64 29
  have hp : Hp _ _ _ (Res.sl Ek.f64 29 (.slice none 0 0) ([]) :: Res.fz 4 v8 :: Res.rows (RowK.sl (Ek.pair (Ek.fz v8) Ek.f64) 98) 94 v9 v10 q6 :: ow) := Hp.sel (pre := [Res.sl Ek.f64 29 (.slice none 0 0) ([]), Res.rows (RowK.sl (Ek.pair (Ek.fz v8) Ek.f64) 98) 94 v9 v10 q6, Res.fz 4 v8, Res.obj 24 v1 [.int .i64 cx0_Length, .int .u32 cx0_One, .int .u32 cx0_Two]]) (tail := ow) (rs' := [Res.sl Ek.f64 29 (.slice none 0 0) ([]), Res.fz 4 v8, Res.rows (RowK.sl (Ek.pair (Ek.fz v8) Ek.f64) 98) 94 v9 v10 q6]) hp [0, 2, 1] (by decide) (by simp) rfl
  refine wp_loop_pure (f := (f_foghornref23_Ends.s1 q6)) (s := ([], (0 : Int))) (fun s a w => ∃ (v13 : Value), Fr 45 a [(7, v9), (8, v13), (9, .int .i64 s.2)] ∧ Hp S w0 w (Res.sl Ek.f64 29 v13 s.1 :: Res.fz 4 v8 :: Res.rows (RowK.sl (Ek.pair (Ek.fz v8) Ek.f64) 98) 94 v9 v10 q6 :: ow)) (fun q e a w => e = .exit 0 ∧ ∃ (v15 : Value), Fr 45 a [(8, v15)] ∧ Hp S w0 w (Res.sl Ek.f64 29 v15 q :: Res.fz 4 v8 :: ow)) ?_ hl ⟨_, hf.sub ⟨rfl, rfl, rfl, trivial⟩, hp⟩ ?_
  · clear hl hf hp
    intro s x a w h hI
    obtain ⟨out8, sx9⟩ := s
    obtain ⟨v13, hf, hp⟩ : ∃ (v13 : Value), Fr 45 a [(7, v9), (8, v13), (9, .int .i64 sx9)] ∧ Hp S w0 w (Res.sl Ek.f64 29 v13 out8 :: Res.fz 4 v8 :: Res.rows (RowK.sl (Ek.pair (Ek.fz v8) Ek.f64) 98) 94 v9 v10 q6 :: ow) := hI
    replace h : f_foghornref23_Ends.s1c q6 out8 sx9 = some x := h
    unfold f_foghornref23_Ends.s1c at h
    refine wp_seq ?_
    refine wp_seq ?_
    refine wp_reg ?_
    refine st_move hf rfl rfl (by decide) ?_
    clear hf; intro a ha hf; clear ha
    refine st_move hf rfl rfl (by decide) ?_
    clear hf; intro a ha hf; clear ha
    refine st_lenV hf (by decide) Try.underlying95 rfl rfl (hp.rd (i := 2) rfl).shapeVY ?_
    clear hf; intro a ha hf; clear ha
    refine st_ilss hf (by decide) rfl rfl rfl ?_
    clear hf; intro a ha hf; clear ha
    refine st_nil hf ?_
    refine th_n ?_
    refine wp_if hf rfl (fun hb => ?_) (fun hb => ?_)
    · replace h := ifT h hb
      refine wp_skip ?_
      refine th_n ?_
      refine wp_seq ?_
      refine wp_block ?_
      refine wp_seq ?_
      refine wp_reg ?_
      obtain ⟨q17, hcall18, h⟩ := bnd h
      refine st_call hf (by decide) Try.func31 rfl rfl rfl rfl rfl (f_math_Inf_c hp _ hcall18) ?_
      rintro _ w ⟨v19, rfl, y20, hp0⟩
      clear hp; have hp := hp0; clear hp0
      replace hp : Hp _ _ _ (Res.sl Ek.f64 29 v13 out8 :: Res.fz 4 v8 :: Res.rows (RowK.sl (Ek.pair (Ek.fz v8) Ek.f64) 98) 94 v9 v10 q6 :: ow) := hp
      refine ⟨_, rfl, ?_⟩
      clear hf; intro a hf
      refine st_assign hf rfl rfl (by decide) ?_
      clear hf; intro a ha hf; clear ha
      refine st_nil hf ?_
      refine th_n ?_
      refine wp_seq ?_
      refine wp_seq ?_
      refine wp_reg ?_
      refine st_move hf rfl rfl (by decide) ?_
      clear hf; intro a ha hf; clear ha
      refine st_move hf rfl rfl (by decide) ?_
      clear hf; intro a ha hf; clear ha
      obtain ⟨hc21, h⟩ := chk h
      refine st_indexV (E := Ek.val) (m := q6.length) hf (by decide) Try.underlying95 eltv94 rfl rfl rfl (hp.rd (i := 2) rfl).shapeNY hc21.1 hc21.2 ?_
      clear hf; intro a ha hf; clear ha
      refine st_ldRY hf (by decide) pl94 rfl rfl (hp.rd (i := 2) rfl) hc21.1 hc21.2 ?_
      clear hf; intro a ha hf; clear ha
      refine st_len (E := (Ek.pair (Ek.fz v8) Ek.f64)) hf (by decide) Try.underlying94 rfl rfl (RdR.rowS (hp.rd (i := 2) rfl) hc21.1 hc21.2) ?_
      clear hf; intro a ha hf; clear ha
      refine st_igtr hf (by decide) rfl rfl rfl ?_
      clear hf; intro a ha hf; clear ha
      refine st_nil hf ?_
      refine th_n ?_
      refine wp_if hf rfl (fun hb => ?_) (fun hb => ?_)
      · replace h := ifT h hb
        refine wp_reg ?_
        refine st_move hf rfl rfl (by decide) ?_
        clear hf; intro a ha hf; clear ha
        refine st_move hf rfl rfl (by decide) ?_
        clear hf; intro a ha hf; clear ha
        obtain ⟨hc22, h⟩ := chk h
        refine st_indexV (E := Ek.val) (m := q6.length) hf (by decide) Try.underlying95 eltv94 rfl rfl rfl (hp.rd (i := 2) rfl).shapeNY hc22.1 hc22.2 ?_
        clear hf; intro a ha hf; clear ha
        refine st_ldRY hf (by decide) pl94 rfl rfl (hp.rd (i := 2) rfl) hc22.1 hc22.2 ?_
        clear hf; intro a ha hf; clear ha
        obtain ⟨hc23, h⟩ := chk h
        refine st_index (E := (Ek.pair (Ek.fz v8) Ek.f64)) hf (by decide) Try.underlying94 (elt98 v8) rfl rfl rfl (RdR.rowS (hp.rd (i := 2) rfl) hc22.1 hc22.2) hc23.1 hc23.2 ?_
        clear hf; intro a ha hf; clear ha
        refine st_faP (off := 1) (sz := 1) hf (by decide) (by kernel_rfl) (by decide) rfl rfl (Sl.isP (RdR.rowS (hp.rd (i := 2) rfl) hc22.1 hc22.2) hc23.1 hc23.2) ?_
        clear hf; intro a ha hf; clear ha
        refine st_ldQF (yv := (gt (gt q6 sx9) (0 : Int)).2) hf (by decide) pl29 rfl rfl (Sl.part (E := (Ek.pair (Ek.fz v8) Ek.f64)) (F := Ek.f64) (o := 1) (Sub.snd (E := (Ek.fz v8)) (F := Ek.f64)) (RdR.rowS (hp.rd (i := 2) rfl) hc22.1 hc22.2) hc23.1 hc23.2) ?_
        clear hf; intro a bb24 y25 ha hf; clear ha
        refine st_assign hf rfl rfl (by decide) ?_
        clear hf; intro a ha hf; clear ha
        refine st_nil hf ?_
        refine th_n ?_
        refine wp_reg ?_
        refine st_move hf rfl rfl (by decide) ?_
        clear hf; intro a ha hf; clear ha
        refine st_move hf rfl rfl (by decide) ?_
        clear hf; intro a ha hf; clear ha
        refine st_build (E := Ek.f64) (xs := [(gt (gt q6 sx9) (0 : Int)).2]) hf (by decide) elt29 Try.underlying50 hp (vals := #[(0, .float .f64 bb24)]) (cells := #[.float .f64 bb24]) rfl (by simp [hf.ev (x := (Operand.tmp 41)) rfl]) (Nat.le_of_ble_eq_true rfl) (Nat.le_of_ble_eq_true rfl) (z := .float .f64 0) (by kernel_rfl) (by kernel_rfl) rfl (reps_cons (cs := [.float .f64 bb24]) (show Ek.f64.rep [.float .f64 bb24] ((gt (gt q6 sx9) (0 : Int)).2) from ⟨_, rfl, y25⟩) (reps_nil _)) ?_
        clear hf; intro a w v26 hf hp0; clear hp; have hp := hp0; clear hp0
        replace hp : Hp _ _ _ (Res.sl Ek.f64 29 v26 ([(gt (gt q6 sx9) (0 : Int)).2]) :: Res.sl Ek.f64 29 v13 out8 :: Res.fz 4 v8 :: Res.rows (RowK.sl (Ek.pair (Ek.fz v8) Ek.f64) 98) 94 v9 v10 q6 :: ow) := hp
        obtain ⟨hc28, h⟩ := chk h
        refine st_append (E := Ek.f64) hf (by decide) elt29 Try.underlying50 (by decide) hp (i := 1) rfl rfl rfl rfl (hp.sl (i := 0) rfl) hc28 ?_
        clear hf; intro a w v29 hf hp0; clear hp; have hp := hp0; clear hp0
        replace hp : Hp _ _ _ (Res.sl Ek.f64 29 v26 ([(gt (gt q6 sx9) (0 : Int)).2]) :: Res.sl Ek.f64 29 v29 (out8 ++ [(gt (gt q6 sx9) (0 : Int)).2]) :: Res.fz 4 v8 :: Res.rows (RowK.sl (Ek.pair (Ek.fz v8) Ek.f64) 98) 94 v9 v10 q6 :: ow) := hp
        refine st_assign hf rfl rfl (by decide) ?_
        clear hf; intro a ha hf; clear ha
        refine st_nil hf ?_
        refine ib_n ?_
        refine th_n ?_
        refine wp_reg ?_
        refine st_move hf rfl rfl (by decide) ?_
        clear hf; intro a ha hf; clear ha
        refine st_iadd hf (by decide) rfl rfl rfl ?_
        clear hf; intro a ha hf; clear ha
        refine st_assign hf rfl rfl (by decide) ?_
        clear hf; intro a ha hf; clear ha
        refine st_nil hf ?_
        obtain rfl := Option.some.inj h
        have hp : Hp _ _ _ (Res.sl Ek.f64 29 v29 (out8 ++ [(gt (gt q6 sx9) (0 : Int)).2]) :: Res.fz 4 v8 :: Res.rows (RowK.sl (Ek.pair (Ek.fz v8) Ek.f64) 98) 94 v9 v10 q6 :: ow) := Hp.sel (pre := [Res.sl Ek.f64 29 v26 ([(gt (gt q6 sx9) (0 : Int)).2]), Res.sl Ek.f64 29 v29 (out8 ++ [(gt (gt q6 sx9) (0 : Int)).2]), Res.fz 4 v8, Res.rows (RowK.sl (Ek.pair (Ek.fz v8) Ek.f64) 98) 94 v9 v10 q6]) (tail := ow) (rs' := [Res.sl Ek.f64 29 v29 (out8 ++ [(gt (gt q6 sx9) (0 : Int)).2]), Res.fz 4 v8, Res.rows (RowK.sl (Ek.pair (Ek.fz v8) Ek.f64) 98) 94 v9 v10 q6]) hp [1, 2, 3] (by decide) (by simp) rfl
        exact rnd_l ⟨_, hf.sub ⟨rfl, rfl, rfl, trivial⟩, hp⟩
      replace h := ifF h hb
      refine wp_skip ?_
      refine th_n ?_
      refine wp_reg ?_
      refine st_move hf rfl rfl (by decide) ?_
      clear hf; intro a ha hf; clear ha
      refine st_move hf rfl rfl (by decide) ?_
      clear hf; intro a ha hf; clear ha
      refine st_build (E := Ek.f64) (xs := [q17]) hf (by decide) elt29 Try.underlying50 hp (vals := #[(0, .float .f64 v19)]) (cells := #[.float .f64 v19]) rfl (by simp [hf.ev (x := (Operand.tmp 41)) rfl]) (Nat.le_of_ble_eq_true rfl) (Nat.le_of_ble_eq_true rfl) (z := .float .f64 0) (by kernel_rfl) (by kernel_rfl) rfl (reps_cons (cs := [.float .f64 v19]) (show Ek.f64.rep [.float .f64 v19] q17 from ⟨_, rfl, y20⟩) (reps_nil _)) ?_
      clear hf; intro a w v30 hf hp0; clear hp; have hp := hp0; clear hp0
      replace hp : Hp _ _ _ (Res.sl Ek.f64 29 v30 ([q17]) :: Res.sl Ek.f64 29 v13 out8 :: Res.fz 4 v8 :: Res.rows (RowK.sl (Ek.pair (Ek.fz v8) Ek.f64) 98) 94 v9 v10 q6 :: ow) := hp
      obtain ⟨hc32, h⟩ := chk h
      refine st_append (E := Ek.f64) hf (by decide) elt29 Try.underlying50 (by decide) hp (i := 1) rfl rfl rfl rfl (hp.sl (i := 0) rfl) hc32 ?_
      clear hf; intro a w v33 hf hp0; clear hp; have hp := hp0; clear hp0
      replace hp : Hp _ _ _ (Res.sl Ek.f64 29 v30 ([q17]) :: Res.sl Ek.f64 29 v33 (out8 ++ [q17]) :: Res.fz 4 v8 :: Res.rows (RowK.sl (Ek.pair (Ek.fz v8) Ek.f64) 98) 94 v9 v10 q6 :: ow) := hp
      refine st_assign hf rfl rfl (by decide) ?_
      clear hf; intro a ha hf; clear ha
      refine st_nil hf ?_
      refine ib_n ?_
      refine th_n ?_
      refine wp_reg ?_
      refine st_move hf rfl rfl (by decide) ?_
      clear hf; intro a ha hf; clear ha
      refine st_iadd hf (by decide) rfl rfl rfl ?_
      clear hf; intro a ha hf; clear ha
      refine st_assign hf rfl rfl (by decide) ?_
      clear hf; intro a ha hf; clear ha
      refine st_nil hf ?_
      obtain rfl := Option.some.inj h
      have hp : Hp _ _ _ (Res.sl Ek.f64 29 v33 (out8 ++ [q17]) :: Res.fz 4 v8 :: Res.rows (RowK.sl (Ek.pair (Ek.fz v8) Ek.f64) 98) 94 v9 v10 q6 :: ow) := Hp.sel (pre := [Res.sl Ek.f64 29 v30 ([q17]), Res.sl Ek.f64 29 v33 (out8 ++ [q17]), Res.fz 4 v8, Res.rows (RowK.sl (Ek.pair (Ek.fz v8) Ek.f64) 98) 94 v9 v10 q6]) (tail := ow) (rs' := [Res.sl Ek.f64 29 v33 (out8 ++ [q17]), Res.fz 4 v8, Res.rows (RowK.sl (Ek.pair (Ek.fz v8) Ek.f64) 98) 94 v9 v10 q6]) hp [1, 2, 3] (by decide) (by simp) rfl
      exact rnd_l ⟨_, hf.sub ⟨rfl, rfl, rfl, trivial⟩, hp⟩
    replace h := ifF h hb
    refine wp_exit ?_
    refine th_e ?_
    obtain rfl := Option.some.inj h
    have hp : Hp _ _ _ (Res.sl Ek.f64 29 v13 out8 :: Res.fz 4 v8 :: ow) := Hp.sel (pre := [Res.sl Ek.f64 29 v13 out8, Res.fz 4 v8, Res.rows (RowK.sl (Ek.pair (Ek.fz v8) Ek.f64) 98) 94 v9 v10 q6]) (tail := ow) (rs' := [Res.sl Ek.f64 29 v13 out8, Res.fz 4 v8]) hp [0, 1] (by decide) (by simp) rfl
    exact rnd_r (by simp) ⟨rfl, _, hf.sub ⟨rfl, trivial⟩, hp⟩
  clear hl hf hp
  intro e a w hne hO
  obtain ⟨rfl, v15, hf, hp⟩ := hO
  refine ib_same ?_
  refine th_n ?_
  refine wp_seq ?_
  refine wp_reg ?_
  refine st_move hf rfl rfl (by decide) ?_
  clear hf; intro a ha hf; clear ha
  refine st_assign hf rfl rfl (by decide) ?_
  clear hf; intro a ha hf; clear ha
  refine st_assign hf rfl rfl (by decide) ?_
  clear hf; intro a ha hf; clear ha
  refine st_nil hf ?_
  refine th_n ?_
  refine wp_ret ?_
  obtain rfl := Option.some.inj h
  have hp : Hp _ _ _ (Res.sl Ek.f64 29 v15 q34 :: ow) := Hp.sel (pre := [Res.sl Ek.f64 29 v15 q34, Res.fz 4 v8]) (tail := ow) (rs' := [Res.sl Ek.f64 29 v15 q34]) hp [0] (by decide) (by simp) rfl
  exact ⟨rfl, ⟨_, hf.sub ⟨rfl, rfl, trivial⟩, hp⟩⟩

noncomputable def f_soft_Ends.s1c (q6 : ((List ((Option Nat) × (Option Nat))) × (List WayC))) (q15 : (Int × Int)) (out10 : (List Fl)) (t31 : Int) : Option (((List Fl) × Int) ⊕ (List Fl)) := (if (decide (t31 < ((List.replicate (q15.1).toNat (Fl.bits 0)).length : Int))) = true then ((f_math_Inf (1 : Int)).bind fun q24 => (if 0 ≤ t31 ∧ t31 < (out10.length : Int) then (if 0 ≤ t31 ∧ t31 < (64 : Int) then (if (!((gt q6.1 t31).1).isNone) = true then (((gt q6.1 t31).1).bind fun n34 => (if 0 ≤ t31 ∧ t31 < ((out10.set (t31).toNat q24).length : Int) then (some (Sum.inl (((out10.set (t31).toNat q24).set (t31).toNat ((nth q6.2 n34).2.2.1)), (IntKind.i64.wrap (t31 + (1 : Int)))))) else none)) else (some (Sum.inl ((out10.set (t31).toNat q24), (IntKind.i64.wrap (t31 + (1 : Int))))))) else none) else none)) else (some (Sum.inr out10)))
noncomputable def f_soft_Ends.s1 (q6 : ((List ((Option Nat) × (Option Nat))) × (List WayC))) (q15 : (Int × Int)) (s : ((List Fl) × Int)) : Option (((List Fl) × Int) ⊕ (List Fl)) := f_soft_Ends.s1c q6 q15 s.1 s.2
noncomputable def f_soft_Ends (cx0_Length : Int) (cx0_One : Int) (cx0_Two : Int) (l1 : (List ((Fl × Fl) × Bool))) : Option ((List Fl) × Int) := ((f_soft_check cx0_Length cx0_One cx0_Two l1 (0 : Int)).bind fun q3 => (if (q3 != (0 : Int)) = true then (some ([], q3)) else ((f_soft_run cx0_Length cx0_One cx0_Two l1 (0 : Int)).bind fun q6 => ((f_trellis_Code_States cx0_Length cx0_One cx0_Two).bind fun q15 => (if 0 ≤ q15.1 ∧ q15.1 ≤ q15.1 ∧ q15.1 * 8 ≤ 281474976710656 then ((loop (f_soft_Ends.s1 q6 q15) ((List.replicate (q15.1).toNat (Fl.bits 0)), (0 : Int))).bind (fun q42 => (some (q42, (0 : Int))))) else none)))))
theorem f_soft_Ends_c {S : Nat → Prop} {w0 w : World} {ow : List Res} (hp : Hp S w0 w ow) (cx0_Length : Int) (cx0_One : Int) (cx0_Two : Int) (vl1 : Value) (l1 : (List ((Fl × Fl) × Bool))) (hl1 : RdS (Ek.pair Ek.c128 Ek.bool) S w0 vl1 l1) {r : ((List Fl) × Int)} (h : f_soft_Ends cx0_Length cx0_One cx0_Two l1 = some r) :
    Calls Try.prog 22 #[.agg #[.int .i64 cx0_Length, .int .u32 cx0_One, .int .u32 cx0_Two], vl1] w (fun e w' => ∃ (u0 : Value), e = .returned (.tuple #[u0, .int .i64 r.2]) ∧ Hp S w0 w' (Res.sl Ek.f64 29 u0 r.1 :: ow)) := by
  unfold f_soft_Ends at h
  refine enter (n := 53) (args := [.agg #[.int .i64 cx0_Length, .int .u32 cx0_One, .int .u32 cx0_Two], vl1]) Try.func22 rfl rfl (Nat.le_of_ble_eq_true rfl) fun a hf => ?_
  replace hf : Fr 53 a [(0, .agg #[.int .i64 cx0_Length, .int .u32 cx0_One, .int .u32 cx0_Two]), (1, vl1)] := hf
  refine wp_mono (Q := fun e a w => e = .ret ∧ ∃ (u0 : Value), Fr 53 a [(4, u0), (5, .int .i64 r.2)] ∧ Hp S w0 w (Res.sl Ek.f64 29 u0 r.1 :: ow)) ?_ ?_
  rotate_left
  · rintro e a w ⟨rfl, x0, hf, hp⟩
    exact ret2 hf rfl rfl rfl ⟨x0, rfl, hp⟩
  refine wp_seq ?_
  refine wp_reg ?_
  refine st_boxO (cs := [.int .i64 cx0_Length, .int .u32 cx0_One, .int .u32 cx0_Two]) hf (by decide) hp rfl rfl rfl ?_
  clear hf; intro a w v1 hf hp0; clear hp; have hp := hp0; clear hp0
  replace hp : Hp _ _ _ (Res.obj 40 v1 [.int .i64 cx0_Length, .int .u32 cx0_One, .int .u32 cx0_Two] :: ow) := hp
  refine st_assign hf rfl rfl (by decide) ?_
  clear hf; intro a ha hf; clear ha
  refine st_assign hf rfl rfl (by decide) ?_
  clear hf; intro a ha hf; clear ha
  refine st_nil hf ?_
  refine th_n ?_
  refine wp_seq ?_
  refine wp_seq ?_
  refine wp_reg ?_
  refine st_ldOA (m := 3) (us := [.int .i64 cx0_Length, .int .u32 cx0_One, .int .u32 cx0_Two]) hf (by decide) (by kernel_rfl) rfl rfl (hp.ob (i := 0) rfl) rfl rfl ?_
  clear hf; intro a ha hf; clear ha
  refine st_move hf rfl rfl (by decide) ?_
  clear hf; intro a ha hf; clear ha
  obtain ⟨q3, hcall4, h⟩ := bnd h
  refine st_call hf (by decide) Try.func45 rfl rfl rfl rfl rfl (f_soft_check_c hp _ _ _ _ _ hl1 _ hcall4) ?_
  rintro _ w ⟨rfl, hp0⟩
  clear hp; have hp := hp0; clear hp0
  replace hp : Hp _ _ _ (Res.obj 40 v1 [.int .i64 cx0_Length, .int .u32 cx0_One, .int .u32 cx0_Two] :: ow) := hp
  refine ⟨_, rfl, ?_⟩
  clear hf; intro a hf
  refine st_assign hf rfl rfl (by decide) ?_
  clear hf; intro a ha hf; clear ha
  refine st_nil hf ?_
  refine th_n ?_
  refine wp_seq ?_
  refine wp_reg ?_
  refine st_move hf rfl rfl (by decide) ?_
  clear hf; intro a ha hf; clear ha
  refine st_ineq hf (by decide) rfl rfl rfl ?_
  clear hf; intro a ha hf; clear ha
  refine st_nil hf ?_
  refine th_n ?_
  refine wp_if hf rfl (fun hb => ?_) (fun hb => ?_)
  · replace h := ifT h hb
    refine wp_seq ?_
    refine wp_reg ?_
    refine st_move hf rfl rfl (by decide) ?_
    clear hf; intro a ha hf; clear ha
    refine st_assign hf rfl rfl (by decide) ?_
    clear hf; intro a ha hf; clear ha
    refine st_assign hf rfl rfl (by decide) ?_
    clear hf; intro a ha hf; clear ha
    refine st_nil hf ?_
    refine th_n ?_
    refine wp_ret ?_
    refine th_r ?_
    obtain rfl := Option.some.inj h
    have hp := hp.nil Ek.f64 29
    have hp : Hp _ _ _ (Res.sl Ek.f64 29 (.slice none 0 0) ([]) :: ow) := Hp.sel (pre := [Res.sl Ek.f64 29 (.slice none 0 0) ([]), Res.obj 40 v1 [.int .i64 cx0_Length, .int .u32 cx0_One, .int .u32 cx0_Two]]) (tail := ow) (rs' := [Res.sl Ek.f64 29 (.slice none 0 0) ([])]) hp [0] (by decide) (by simp) rfl
    exact ⟨rfl, ⟨_, hf.sub ⟨rfl, rfl, trivial⟩, hp⟩⟩
  replace h := ifF h hb
  refine wp_skip ?_
  refine th_n ?_
  refine wp_seq ?_
  refine wp_reg ?_
  refine st_ldOA (m := 3) (us := [.int .i64 cx0_Length, .int .u32 cx0_One, .int .u32 cx0_Two]) hf (by decide) (by kernel_rfl) rfl rfl (hp.ob (i := 0) rfl) rfl rfl ?_
  clear hf; intro a ha hf; clear ha
  refine st_move hf rfl rfl (by decide) ?_
  clear hf; intro a ha hf; clear ha
  obtain ⟨q6, hcall7, h⟩ := bnd h
  refine st_call hf (by decide) Try.func46 rfl rfl rfl rfl rfl (f_soft_run_c hp _ _ _ _ _ hl1 _ hcall7) ?_
  rintro _ w ⟨v8, v9, rfl, y10, y11, hp0⟩
  clear hp; have hp := hp0; clear hp0
  replace hp : Hp _ _ _ (Res.ar 92 v8 q6.2 :: Res.obj 40 v1 [.int .i64 cx0_Length, .int .u32 cx0_One, .int .u32 cx0_Two] :: ow) := hp
  refine ⟨_, rfl, ?_⟩
  clear hf; intro a hf
  refine st_allocA (E := (Ek.pair (Ek.wp v8) (Ek.wp v8))) (N := 64) (zs := List.replicate 64 ((none : Option Nat), (none : Option Nat))) (zv := .agg ((List.replicate 64 ([.pointer none, .pointer none] : List Value)).flatten).toArray) hf (by decide) (by decide) (by decide) (by kernel_rfl) (reps_replicate (E := (Ek.pair (Ek.wp v8) (Ek.wp v8))) (vs := ([.pointer none, .pointer none] : List Value)) (x := ((none : Option Nat), (none : Option Nat))) ⟨[.pointer none], [.pointer none], rfl, ⟨_, rfl, WP.nil _⟩, ⟨_, rfl, WP.nil _⟩⟩ 64) (by simp) hp rfl ?_
  clear hf; intro a w v13 hf hp0; clear hp; have hp := hp0; clear hp0
  replace hp : Hp _ _ _ (Res.sl (Ek.pair (Ek.wp v8) (Ek.wp v8)) 89 (aslv v13 64) (List.replicate 64 ((none : Option Nat), (none : Option Nat))) :: Res.ar 92 v8 q6.2 :: Res.obj 40 v1 [.int .i64 cx0_Length, .int .u32 cx0_One, .int .u32 cx0_Two] :: ow) := hp
  refine st_stArr hf hp (m := 0) rfl (by decide) rfl rfl rfl y10 y11 (by kernel_rfl) ?_
  clear hf; intro a w hf hp0; clear hp; have hp := hp0; clear hp0
  replace hp : Hp _ _ _ (Res.sl (Ek.pair (Ek.wp v8) (Ek.wp v8)) 89 (aslv v13 64) q6.1 :: Res.ar 92 v8 q6.2 :: Res.obj 40 v1 [.int .i64 cx0_Length, .int .u32 cx0_One, .int .u32 cx0_Two] :: ow) := hp
  refine st_nil hf ?_
  refine th_n ?_
  refine wp_seq ?_
  refine wp_reg ?_
  refine st_ldOA (m := 3) (us := [.int .i64 cx0_Length, .int .u32 cx0_One, .int .u32 cx0_Two]) hf (by decide) (by kernel_rfl) rfl rfl (hp.ob (i := 2) rfl) rfl rfl ?_
  clear hf; intro a ha hf; clear ha
  obtain ⟨q15, hcall16, h⟩ := bnd h
  refine st_call hf (by decide) Try.func47 rfl rfl rfl rfl rfl (f_trellis_Code_States_c hp _ _ _ hcall16) ?_
  rintro _ w ⟨rfl, hp0⟩
  clear hp; have hp := hp0; clear hp0
  replace hp : Hp _ _ _ (Res.sl (Ek.pair (Ek.wp v8) (Ek.wp v8)) 89 (aslv v13 64) q6.1 :: Res.ar 92 v8 q6.2 :: Res.obj 40 v1 [.int .i64 cx0_Length, .int .u32 cx0_One, .int .u32 cx0_Two] :: ow) := hp
  refine ⟨_, rfl, ?_⟩
  clear hf; intro a hf
  refine st_move hf rfl rfl (by decide) ?_
  clear hf; intro a ha hf; clear ha
  refine st_extract hf (by decide) rfl rfl rfl ?_
  clear hf; intro a ha hf; clear ha
  refine st_extract hf (by decide) rfl rfl rfl ?_
  clear hf; intro a ha hf; clear ha
  refine st_assign hf rfl rfl (by decide) ?_
  clear hf; intro a ha hf; clear ha
  refine st_assign hf rfl rfl (by decide) ?_
  clear hf; intro a ha hf; clear ha
  refine st_nil hf ?_
  refine th_n ?_
  refine wp_seq ?_
  refine wp_reg ?_
  refine st_move hf rfl rfl (by decide) ?_
  clear hf; intro a ha hf; clear ha
  obtain ⟨hc17, h⟩ := chk h
  refine st_make (E := Ek.f64) hf (by decide) elt29 Try.underlying50 (by decide) hp rfl rfl rfl hc17.1 hc17.2.1 hc17.2.2 ?_
  clear hf; intro a w v18 hf hp0; clear hp; have hp := hp0; clear hp0
  replace hp : Hp _ _ _ (Res.sl Ek.f64 29 v18 (List.replicate (q15.1).toNat (Fl.bits 0)) :: Res.sl (Ek.pair (Ek.wp v8) (Ek.wp v8)) 89 (aslv v13 64) q6.1 :: Res.ar 92 v8 q6.2 :: Res.obj 40 v1 [.int .i64 cx0_Length, .int .u32 cx0_One, .int .u32 cx0_Two] :: ow) := hp
  refine st_assign hf rfl rfl (by decide) ?_
  clear hf; intro a ha hf; clear ha
  refine st_nil hf ?_
  refine th_n ?_
  refine wp_seq ?_
  refine wp_seq ?_
  refine wp_reg ?_
  refine st_move hf rfl rfl (by decide) ?_
  clear hf; intro a ha hf; clear ha
  refine st_len (E := Ek.f64) hf (by decide) Try.underlying50 rfl rfl (hp.sl (i := 0) rfl) ?_
  clear hf; intro a ha hf; clear ha
  refine st_move hf rfl rfl (by decide) ?_
  clear hf; intro a ha hf; clear ha
  refine st_nil hf ?_
  refine th_n ?_
  refine wp_block ?_
  obtain ⟨q42, hl, h⟩ := bnd h
  have hp : Hp _ _ _ (Res.sl Ek.f64 29 v18 (List.replicate (q15.1).toNat (Fl.bits 0)) :: Res.ar 92 v8 q6.2 :: Res.sl (Ek.pair (Ek.wp v8) (Ek.wp v8)) 89 (aslv v13 64) q6.1 :: ow) := Hp.sel (pre := [Res.sl Ek.f64 29 v18 (List.replicate (q15.1).toNat (Fl.bits 0)), Res.sl (Ek.pair (Ek.wp v8) (Ek.wp v8)) 89 (aslv v13 64) q6.1, Res.ar 92 v8 q6.2, Res.obj 40 v1 [.int .i64 cx0_Length, .int .u32 cx0_One, .int .u32 cx0_Two]]) (tail := ow) (rs' := [Res.sl Ek.f64 29 v18 (List.replicate (q15.1).toNat (Fl.bits 0)), Res.ar 92 v8 q6.2, Res.sl (Ek.pair (Ek.wp v8) (Ek.wp v8)) 89 (aslv v13 64) q6.1]) hp [0, 2, 1] (by decide) (by simp) rfl
  refine wp_loop_pure (f := (f_soft_Ends.s1 q6 q15)) (s := ((List.replicate (q15.1).toNat (Fl.bits 0)), (0 : Int))) (fun s a w => ∃ (v20 : Value), Fr 53 a [(7, v13), (10, v20), (30, .int .i64 ((List.replicate (q15.1).toNat (Fl.bits 0)).length : Int)), (31, .int .i64 s.2)] ∧ Hp S w0 w (Res.sl Ek.f64 29 v20 s.1 :: Res.ar 92 v8 q6.2 :: Res.sl (Ek.pair (Ek.wp v8) (Ek.wp v8)) 89 (aslv v13 64) q6.1 :: ow)) (fun q e a w => e = .exit 0 ∧ ∃ (v22 : Value), Fr 53 a [(10, v22)] ∧ Hp S w0 w (Res.sl Ek.f64 29 v22 q :: Res.ar 92 v8 q6.2 :: ow)) ?_ hl ⟨_, hf.sub ⟨rfl, rfl, rfl, rfl, trivial⟩, hp⟩ ?_
  · clear hl hf hp
    intro s x a w h hI
    obtain ⟨out10, t31⟩ := s
    obtain ⟨v20, hf, hp⟩ : ∃ (v20 : Value), Fr 53 a [(7, v13), (10, v20), (30, .int .i64 ((List.replicate (q15.1).toNat (Fl.bits 0)).length : Int)), (31, .int .i64 t31)] ∧ Hp S w0 w (Res.sl Ek.f64 29 v20 out10 :: Res.ar 92 v8 q6.2 :: Res.sl (Ek.pair (Ek.wp v8) (Ek.wp v8)) 89 (aslv v13 64) q6.1 :: ow) := hI
    replace h : f_soft_Ends.s1c q6 q15 out10 t31 = some x := h
    unfold f_soft_Ends.s1c at h
    refine wp_seq ?_
    refine wp_reg ?_
    refine st_ilss hf (by decide) rfl rfl rfl ?_
    clear hf; intro a ha hf; clear ha
    refine st_nil hf ?_
    refine th_n ?_
    refine wp_seq ?_
    refine wp_if hf rfl (fun hb => ?_) (fun hb => ?_)
    · replace h := ifT h hb
      refine wp_skip ?_
      refine th_n ?_
      refine wp_seq ?_
      refine wp_block ?_
      refine wp_seq ?_
      refine wp_reg ?_
      refine st_move hf rfl rfl (by decide) ?_
      clear hf; intro a ha hf; clear ha
      refine st_assign hf rfl rfl (by decide) ?_
      clear hf; intro a ha hf; clear ha
      refine st_nil hf ?_
      refine th_n ?_
      refine wp_seq ?_
      refine wp_reg ?_
      refine st_move hf rfl rfl (by decide) ?_
      clear hf; intro a ha hf; clear ha
      refine st_move hf rfl rfl (by decide) ?_
      clear hf; intro a ha hf; clear ha
      obtain ⟨q24, hcall25, h⟩ := bnd h
      refine st_call hf (by decide) Try.func31 rfl rfl rfl rfl rfl (f_math_Inf_c hp _ hcall25) ?_
      rintro _ w ⟨v26, rfl, y27, hp0⟩
      clear hp; have hp := hp0; clear hp0
      replace hp : Hp _ _ _ (Res.sl Ek.f64 29 v20 out10 :: Res.ar 92 v8 q6.2 :: Res.sl (Ek.pair (Ek.wp v8) (Ek.wp v8)) 89 (aslv v13 64) q6.1 :: ow) := hp
      refine ⟨_, rfl, ?_⟩
      clear hf; intro a hf
      obtain ⟨hc28, h⟩ := chk h
      refine st_index (E := Ek.f64) hf (by decide) Try.underlying50 elt29 rfl rfl rfl (hp.sl (i := 0) rfl) hc28.1 hc28.2 ?_
      clear hf; intro a ha hf; clear ha
      refine st_store (E := Ek.f64) hf elt29 hp (i := 0) rfl rfl rfl rfl (show Ek.f64.rep [.float .f64 v26] q24 from ⟨_, rfl, y27⟩) hc28.1 hc28.2 ?_
      clear hf; intro a w hf hp0; clear hp; have hp := hp0; clear hp0
      replace hp : Hp _ _ _ (Res.sl Ek.f64 29 v20 (out10.set (t31).toNat q24) :: Res.ar 92 v8 q6.2 :: Res.sl (Ek.pair (Ek.wp v8) (Ek.wp v8)) 89 (aslv v13 64) q6.1 :: ow) := hp
      refine st_nil hf ?_
      refine th_n ?_
      refine wp_seq ?_
      refine wp_reg ?_
      refine st_move hf rfl rfl (by decide) ?_
      clear hf; intro a ha hf; clear ha
      obtain ⟨hc29, h⟩ := chk h
      refine st_iaA (E := (Ek.pair (Ek.wp v8) (Ek.wp v8))) (N := 64) hf (by decide) Try.underlying89 (by kernel_rfl) rfl rfl rfl (hp.sl (i := 2) rfl) rfl hc29.1 hc29.2 ?_
      clear hf; intro a ha hf; clear ha
      have hc31 : 0 ≤ (0 : Int) ∧ (0 : Int) < (2 : Int) := by decide
      refine st_iaP (sz := 1) hf (by decide) Try.underlying88 (by kernel_rfl) rfl rfl rfl (Sl.isP (hp.sl (i := 2) rfl) (aslv_ix (hp.sl (i := 2) rfl) hc29).1 (aslv_ix (hp.sl (i := 2) rfl) hc29).2) hc31.1 hc31.2 ?_
      clear hf; intro a ha hf; clear ha
      refine st_ldQW (bs := v8) (yv := (gt q6.1 t31).1) hf (by decide) pl86 rfl rfl (Sl.part (E := (Ek.pair (Ek.wp v8) (Ek.wp v8))) (F := (Ek.wp v8)) (o := ((0 : Int)).toNat * 1) (Sub.fst (E := (Ek.wp v8)) (F := (Ek.wp v8))) (hp.sl (i := 2) rfl) (aslv_ix (hp.sl (i := 2) rfl) hc29).1 (aslv_ix (hp.sl (i := 2) rfl) hc29).2) ?_
      clear hf; intro a v32 y33 ha hf; clear ha
      refine st_assign hf rfl rfl (by decide) ?_
      clear hf; intro a ha hf; clear ha
      refine st_nil hf ?_
      refine th_n ?_
      refine wp_seq ?_
      refine wp_reg ?_
      refine st_move hf rfl rfl (by decide) ?_
      clear hf; intro a ha hf; clear ha
      refine st_wnilN hf (by decide) Try.underlying86 rfl rfl rfl y33 ?_
      clear hf; intro a ha hf; clear ha
      refine st_nil hf ?_
      refine th_n ?_
      refine wp_if hf rfl (fun hb => ?_) (fun hb => ?_)
      · replace h := ifT h hb
        refine wp_reg ?_
        refine st_move hf rfl rfl (by decide) ?_
        clear hf; intro a ha hf; clear ha
        refine st_move hf rfl rfl (by decide) ?_
        clear hf; intro a ha hf; clear ha
        refine st_move hf rfl rfl (by decide) ?_
        clear hf; intro a ha hf; clear ha
        obtain ⟨n34, hx35, h⟩ := bnd h
        refine st_nilE hf (by decide) rfl rfl (WP.ptr y33 hx35) ?_
        clear hf; intro a ha hf; clear ha
        refine st_faP (off := 2) (sz := 1) hf (by decide) (by kernel_rfl) (by decide) rfl rfl (WP.isP y33 hx35) ?_
        clear hf; intro a ha hf; clear ha
        obtain ⟨v36, bb37, y38, y39, ho40⟩ := RdA.at (hp.ara (i := 1) rfl) y33 hx35
        refine st_ldO (u := .float .f64 bb37) hf (by decide) pl29 rfl rfl ho40 rfl ?_
        clear hf; intro a ha hf; clear ha
        obtain ⟨hc41, h⟩ := chk h
        refine st_index (E := Ek.f64) hf (by decide) Try.underlying50 elt29 rfl rfl rfl (hp.sl (i := 0) rfl) hc41.1 hc41.2 ?_
        clear hf; intro a ha hf; clear ha
        refine st_store (E := Ek.f64) hf elt29 hp (i := 0) rfl rfl rfl rfl (show Ek.f64.rep [.float .f64 bb37] ((nth q6.2 n34).2.2.1) from ⟨_, rfl, y39⟩) hc41.1 hc41.2 ?_
        clear hf; intro a w hf hp0; clear hp; have hp := hp0; clear hp0
        replace hp : Hp _ _ _ (Res.sl Ek.f64 29 v20 ((out10.set (t31).toNat q24).set (t31).toNat ((nth q6.2 n34).2.2.1)) :: Res.ar 92 v8 q6.2 :: Res.sl (Ek.pair (Ek.wp v8) (Ek.wp v8)) 89 (aslv v13 64) q6.1 :: ow) := hp
        refine st_nil hf ?_
        refine ib_n ?_
        refine th_n ?_
        refine wp_reg ?_
        refine st_iadd hf (by decide) rfl rfl rfl ?_
        clear hf; intro a ha hf; clear ha
        refine st_move hf rfl rfl (by decide) ?_
        clear hf; intro a ha hf; clear ha
        refine st_nil hf ?_
        obtain rfl := Option.some.inj h
        exact rnd_l ⟨_, hf.sub ⟨rfl, rfl, rfl, rfl, trivial⟩, hp⟩
      replace h := ifF h hb
      refine wp_skip ?_
      refine ib_n ?_
      refine th_n ?_
      refine wp_reg ?_
      refine st_iadd hf (by decide) rfl rfl rfl ?_
      clear hf; intro a ha hf; clear ha
      refine st_move hf rfl rfl (by decide) ?_
      clear hf; intro a ha hf; clear ha
      refine st_nil hf ?_
      obtain rfl := Option.some.inj h
      exact rnd_l ⟨_, hf.sub ⟨rfl, rfl, rfl, rfl, trivial⟩, hp⟩
    replace h := ifF h hb
    refine wp_exit ?_
    refine th_e ?_
    obtain rfl := Option.some.inj h
    have hp : Hp _ _ _ (Res.sl Ek.f64 29 v20 out10 :: Res.ar 92 v8 q6.2 :: ow) := Hp.sel (pre := [Res.sl Ek.f64 29 v20 out10, Res.ar 92 v8 q6.2, Res.sl (Ek.pair (Ek.wp v8) (Ek.wp v8)) 89 (aslv v13 64) q6.1]) (tail := ow) (rs' := [Res.sl Ek.f64 29 v20 out10, Res.ar 92 v8 q6.2]) hp [0, 1] (by decide) (by simp) rfl
    exact rnd_r (by simp) ⟨rfl, _, hf.sub ⟨rfl, trivial⟩, hp⟩
  clear hl hf hp
  intro e a w hne hO
  obtain ⟨rfl, v22, hf, hp⟩ := hO
  refine ib_same ?_
  refine th_n ?_
  refine wp_seq ?_
  refine wp_reg ?_
  refine st_move hf rfl rfl (by decide) ?_
  clear hf; intro a ha hf; clear ha
  refine st_assign hf rfl rfl (by decide) ?_
  clear hf; intro a ha hf; clear ha
  refine st_assign hf rfl rfl (by decide) ?_
  clear hf; intro a ha hf; clear ha
  refine st_nil hf ?_
  refine th_n ?_
  refine wp_ret ?_
  obtain rfl := Option.some.inj h
  have hp : Hp _ _ _ (Res.sl Ek.f64 29 v22 q42 :: ow) := Hp.sel (pre := [Res.sl Ek.f64 29 v22 q42, Res.ar 92 v8 q6.2]) (tail := ow) (rs' := [Res.sl Ek.f64 29 v22 q42]) hp [0] (by decide) (by simp) rfl
  exact ⟨rfl, ⟨_, hf.sub ⟨rfl, rfl, trivial⟩, hp⟩⟩

noncomputable def f_foghornref02_Same.s1c (ax0 : (List ((Fl × Fl) × Bool))) (bx1 : (List ((Fl × Fl) × Bool))) (i5 : Int) : Option (Int ⊕ (Unit ⊕ Bool)) := (if (decide (i5 < (ax0.length : Int))) = true then (if 0 ≤ i5 ∧ i5 < (ax0.length : Int) then (if 0 ≤ i5 ∧ i5 < (bx1.length : Int) then ((if (((gt ax0 i5).2) != ((gt bx1 i5).2)) = true then (some true) else (if 0 ≤ i5 ∧ i5 < (ax0.length : Int) then (if 0 ≤ i5 ∧ i5 < (bx1.length : Int) then (some (!ceq ((gt ax0 i5).1) ((gt bx1 i5).1))) else none) else none)).bind fun z17 => (if z17 = true then (some (Sum.inr (Sum.inr false))) else (some (Sum.inl (IntKind.i64.wrap (i5 + (1 : Int))))))) else none) else none) else (some (Sum.inr (Sum.inl ()))))
noncomputable def f_foghornref02_Same.s1 (ax0 : (List ((Fl × Fl) × Bool))) (bx1 : (List ((Fl × Fl) × Bool))) (s : Int) : Option (Int ⊕ (Unit ⊕ Bool)) := f_foghornref02_Same.s1c ax0 bx1 s
noncomputable def f_foghornref02_Same (ax0 : (List ((Fl × Fl) × Bool))) (bx1 : (List ((Fl × Fl) × Bool))) : Option Bool := (if ((ax0.length : Int) != (bx1.length : Int)) = true then (some false) else ((loop (f_foghornref02_Same.s1 ax0 bx1) (0 : Int)).bind (fun q18 => sm q18 (fun q19 => (some true)) (fun q20 => (some q20)))))
theorem f_foghornref02_Same_c {S : Nat → Prop} {w0 w : World} {ow : List Res} (hp : Hp S w0 w ow) (vax0 : Value) (ax0 : (List ((Fl × Fl) × Bool))) (hax0 : RdS (Ek.pair Ek.c128 Ek.bool) S w0 vax0 ax0) (vbx1 : Value) (bx1 : (List ((Fl × Fl) × Bool))) (hbx1 : RdS (Ek.pair Ek.c128 Ek.bool) S w0 vbx1 bx1) {r : Bool} (h : f_foghornref02_Same ax0 bx1 = some r) :
   Calls Try.prog 20 #[vax0, vbx1] w (fun e w' => e = .returned (.bool r) ∧ Hp S w0 w' (ow)) := by
  unfold f_foghornref02_Same at h
  refine enter (n := 41) (args := [vax0, vbx1]) Try.func20 rfl rfl (Nat.le_of_ble_eq_true rfl) fun a hf => ?_
  replace hf : Fr 41 a [(0, vax0), (1, vbx1)] := hf
  refine wp_mono (Q := fun e a w => e = .ret ∧ Fr 41 a [(4, .bool r)] ∧ Hp S w0 w (ow)) ?_ ?_
  rotate_left
  ·
   rintro e a w ⟨rfl, hf, hp⟩
   exact ret1 hf rfl rfl ⟨rfl, hp⟩
  refine wp_seq ?_
  refine wp_reg ?_
  refine st_assign hf rfl rfl (by decide) ?_
  clear hf; intro a ha hf; clear ha
  refine st_nil hf ?_
  refine th_n ?_
  refine wp_seq ?_
  refine wp_seq ?_
  refine wp_reg ?_
  refine st_move hf rfl rfl (by decide) ?_
  clear hf; intro a ha hf; clear ha
  refine st_len (E := (Ek.pair Ek.c128 Ek.bool)) hf (by decide) Try.underlying27 rfl rfl (hax0.sl hp) ?_
  clear hf; intro a ha hf; clear ha
  refine st_move hf rfl rfl (by decide) ?_
  clear hf; intro a ha hf; clear ha
  refine st_len (E := (Ek.pair Ek.c128 Ek.bool)) hf (by decide) Try.underlying27 rfl rfl (hbx1.sl hp) ?_
  clear hf; intro a ha hf; clear ha
  refine st_ineq hf (by decide) rfl rfl rfl ?_
  clear hf; intro a ha hf; clear ha
  refine st_nil hf ?_
  refine th_n ?_
  refine wp_if hf rfl (fun hb => ?_) (fun hb => ?_)
  ·
   replace h := ifT h hb
   refine wp_seq ?_
   refine wp_reg ?_
   refine st_assign hf rfl rfl (by decide) ?_
   clear hf; intro a ha hf; clear ha
   refine st_nil hf ?_
   refine th_n ?_
   refine wp_ret ?_
   refine th_r ?_
   obtain rfl := Option.some.inj h
   exact ⟨rfl, ⟨hf.sub ⟨rfl, trivial⟩, hp⟩⟩
  replace h := ifF h hb
  refine wp_skip ?_
  refine th_n ?_
  refine wp_seq ?_
  refine wp_seq ?_
  refine wp_reg ?_
  refine st_assign hf rfl rfl (by decide) ?_
  clear hf; intro a ha hf; clear ha
  refine st_nil hf ?_
  refine th_n ?_
  refine wp_block ?_
  obtain ⟨q18, hl, h⟩ := bnd h
  refine wp_loop_pure (f := (f_foghornref02_Same.s1 ax0 bx1)) (s := (0 : Int)) (fun s a w => Fr 41 a [(0, vax0), (1, vbx1), (5, .int .i64 s)] ∧ Hp S w0 w (ow)) (fun q e a w => match q with | (Sum.inl q) => e = .exit 0 ∧ Fr 41 a [] ∧ Hp S w0 w (ow) | (Sum.inr q) => e = .ret ∧ Fr 41 a [(4, .bool q)] ∧ Hp S w0 w (ow)) ?_ hl ⟨hf.sub ⟨rfl, rfl, rfl, trivial⟩, hp⟩ ?_
  ·
   clear hl hf hp
   intro s x a w h hI
   obtain ⟨i5, hs⟩ : ∃ z, z = s := ⟨s, rfl⟩; subst hs
   obtain ⟨hf, hp⟩ : Fr 41 a [(0, vax0), (1, vbx1), (5, .int .i64 i5)] ∧ Hp S w0 w (ow) := hI
   replace h : f_foghornref02_Same.s1c ax0 bx1 i5 = some x := h
   unfold f_foghornref02_Same.s1c at h
   refine wp_seq ?_
   refine wp_seq ?_
   refine wp_reg ?_
   refine st_move hf rfl rfl (by decide) ?_
   clear hf; intro a ha hf; clear ha
   refine st_move hf rfl rfl (by decide) ?_
   clear hf; intro a ha hf; clear ha
   refine st_len (E := (Ek.pair Ek.c128 Ek.bool)) hf (by decide) Try.underlying27 rfl rfl (hax0.sl hp) ?_
   clear hf; intro a ha hf; clear ha
   refine st_ilss hf (by decide) rfl rfl rfl ?_
   clear hf; intro a ha hf; clear ha
   refine st_nil hf ?_
   refine th_n ?_
   refine wp_if hf rfl (fun hb => ?_) (fun hb => ?_)
   ·
    replace h := ifT h hb
    refine wp_skip ?_
    refine th_n ?_
    refine wp_seq ?_
    refine wp_block ?_
    refine wp_seq ?_
    obtain ⟨hc1, h⟩ := chk h
    obtain ⟨hc2, h⟩ := chk h
    obtain ⟨z17, hz3, h⟩ := bnd h
    refine wp_cutN (fun a w => Fr 41 a [(0, vax0), (1, vbx1), (5, .int .i64 i5), (40, .bool z17)] ∧ Hp S w0 w (ow)) ?_ ?_
    ·
     have hp := hp.same (Same.drew w)
     rcases Bool.eq_false_or_eq_true (((gt ax0 i5).2) != ((gt bx1 i5).2)) with hb4 | hb4
     ·
      replace hz3 := ifT hz3 hb4
      replace hz3 := Option.some.inj hz3
      refine dr_begin' _ (fun w' => ∃ l, Hp S w0 w' l) [] (by kernel_rfl) ?_
      refine dr_takeK 0 (vax0) rfl hf rfl (fun w ⟨_, hp⟩ => ?_) ⟨_, hp⟩ ?_
      · exact st_move hf rfl rfl (by decide) tk
      clear hf; intro a hf
      refine dr_takeK 1 (.int .i64 i5) rfl hf rfl (fun w ⟨_, hp⟩ => ?_) ⟨_, hp⟩ ?_
      · exact st_move hf rfl rfl (by decide) tk
      clear hf; intro a hf
      refine dr_takeK 2 (eptr vax0 i5 2) rfl hf rfl (fun w ⟨_, hp⟩ => ?_) ⟨_, hp⟩ ?_
      · exact st_index (E := (Ek.pair Ek.c128 Ek.bool)) hf (by decide) Try.underlying27 elt35 rfl rfl rfl (hax0.sl hp) hc1.1 hc1.2 tk
      clear hf; intro a hf
      refine dr_takeK 3 (optr (eptr vax0 i5 2) 1) rfl hf rfl (fun w ⟨_, hp⟩ => ?_) ⟨_, hp⟩ ?_
      · exact st_faP (off := 1) (sz := 1) hf (by decide) (by kernel_rfl) (by decide) rfl rfl (Sl.isP (hax0.sl hp) hc1.1 hc1.2) tk
      clear hf; intro a hf
      refine dr_takeK 4 (.bool ((gt ax0 i5).2)) rfl hf rfl (fun w ⟨_, hp⟩ => ?_) ⟨_, hp⟩ ?_
      · exact st_ldQ (F := Ek.bool) (yv := (gt ax0 i5).2) hf (by decide) pl4 (fun x => .bool x) (fun _ _ h => h) rfl rfl (Sl.part (E := (Ek.pair Ek.c128 Ek.bool)) (F := Ek.bool) (o := 1) (Sub.snd (E := Ek.c128) (F := Ek.bool)) (hax0.sl hp) hc1.1 hc1.2) tk
      clear hf; intro a hf
      refine dr_takeK 5 (vbx1) rfl hf rfl (fun w ⟨_, hp⟩ => ?_) ⟨_, hp⟩ ?_
      · exact st_move hf rfl rfl (by decide) tk
      clear hf; intro a hf
      refine dr_takeK 6 (.int .i64 i5) rfl hf rfl (fun w ⟨_, hp⟩ => ?_) ⟨_, hp⟩ ?_
      · exact st_move hf rfl rfl (by decide) tk
      clear hf; intro a hf
      refine dr_takeK 7 (eptr vbx1 i5 2) rfl hf rfl (fun w ⟨_, hp⟩ => ?_) ⟨_, hp⟩ ?_
      · exact st_index (E := (Ek.pair Ek.c128 Ek.bool)) hf (by decide) Try.underlying27 elt35 rfl rfl rfl (hbx1.sl hp) hc2.1 hc2.2 tk
      clear hf; intro a hf
      refine dr_takeK 8 (optr (eptr vbx1 i5 2) 1) rfl hf rfl (fun w ⟨_, hp⟩ => ?_) ⟨_, hp⟩ ?_
      · exact st_faP (off := 1) (sz := 1) hf (by decide) (by kernel_rfl) (by decide) rfl rfl (Sl.isP (hbx1.sl hp) hc2.1 hc2.2) tk
      clear hf; intro a hf
      refine dr_takeK 9 (.bool ((gt bx1 i5).2)) rfl hf rfl (fun w ⟨_, hp⟩ => ?_) ⟨_, hp⟩ ?_
      · exact st_ldQ (F := Ek.bool) (yv := (gt bx1 i5).2) hf (by decide) pl4 (fun x => .bool x) (fun _ _ h => h) rfl rfl (Sl.part (E := (Ek.pair Ek.c128 Ek.bool)) (F := Ek.bool) (o := 1) (Sub.snd (E := Ek.c128) (F := Ek.bool)) (hbx1.sl hp) hc2.1 hc2.2) tk
      clear hf; intro a hf
      refine dr_takeK 10 (.bool (((gt ax0 i5).2) != ((gt bx1 i5).2))) rfl hf rfl (fun w ⟨_, hp⟩ => ?_) ⟨_, hp⟩ ?_
      · exact st_bneq hf (by decide) Try.underlying4 rfl rfl rfl tk
      clear hf; intro a hf
      refine dr_takeK 11 (.bool (((gt ax0 i5).2) != ((gt bx1 i5).2))) rfl hf rfl (fun w ⟨_, hp⟩ => ?_) ⟨_, hp⟩ ?_
      · exact st_move hf rfl rfl (by decide) tk
      clear hf; intro a hf
      refine dr_outK 12 rfl hf rfl (wantN hf rfl rfl hb4) ⟨_, hp⟩ ?_
      clear hf; intro a hf
      refine dr_outK 13 rfl hf rfl (wantN hf rfl rfl hb4) ⟨_, hp⟩ ?_
      clear hf; intro a hf
      refine dr_outK 14 rfl hf rfl (wantN hf rfl rfl hb4) ⟨_, hp⟩ ?_
      clear hf; intro a hf
      refine dr_outK 15 rfl hf rfl (wantN hf rfl rfl hb4) ⟨_, hp⟩ ?_
      clear hf; intro a hf
      refine dr_outK 16 rfl hf rfl (wantN hf rfl rfl hb4) ⟨_, hp⟩ ?_
      clear hf; intro a hf
      refine dr_outK 17 rfl hf rfl (wantN hf rfl rfl hb4) ⟨_, hp⟩ ?_
      clear hf; intro a hf
      refine dr_outK 18 rfl hf rfl (wantN hf rfl rfl hb4) ⟨_, hp⟩ ?_
      clear hf; intro a hf
      refine dr_outK 19 rfl hf rfl (wantN hf rfl rfl hb4) ⟨_, hp⟩ ?_
      clear hf; intro a hf
      refine dr_outK 20 rfl hf rfl (wantN hf rfl rfl hb4) ⟨_, hp⟩ ?_
      clear hf; intro a hf
      refine dr_outK 21 rfl hf rfl (wantN hf rfl rfl hb4) ⟨_, hp⟩ ?_
      clear hf; intro a hf
      refine dr_outK 22 rfl hf rfl (wantN hf rfl rfl hb4) ⟨_, hp⟩ ?_
      clear hf; intro a hf
      refine dr_takeK 23 (.bool z17) rfl hf rfl (fun w ⟨_, hp⟩ => ?_) ⟨_, hp⟩ ?_
      · exact st_pick (v := .bool z17) hf rfl rfl (fun _ => by rw [← hz3]; rfl) (fun hb' => absurd (hb4.symm.trans hb') (by decide)) (by decide) tk
      clear hf; intro a hf
      refine dr_end (by kernel_rfl) ?_ _
      exact ⟨hf.sub ⟨rfl, rfl, rfl, rfl, trivial⟩, hp⟩
     skip
     replace hz3 := ifF hz3 hb4
     obtain ⟨hc5, hz3⟩ := chk hz3
     obtain ⟨bb7, bb8, y9, y10, hl6⟩ := RdS.pinPC (p := i5) (o := 0) (Sub.fst (E := Ek.c128) (F := Ek.bool)) hax0 hc5.1 hc5.2
     obtain ⟨hc11, hz3⟩ := chk hz3
     obtain ⟨bb13, bb14, y15, y16, hl12⟩ := RdS.pinPC (p := i5) (o := 0) (Sub.fst (E := Ek.c128) (F := Ek.bool)) hbx1 hc11.1 hc11.2
     replace hz3 := Option.some.inj hz3
     refine dr_begin' _ (fun w' => ∃ l, Hp S w0 w' l) [] (by kernel_rfl) ?_
     refine dr_takeK 0 (vax0) rfl hf rfl (fun w ⟨_, hp⟩ => ?_) ⟨_, hp⟩ ?_
     · exact st_move hf rfl rfl (by decide) tk
     clear hf; intro a hf
     refine dr_takeK 1 (.int .i64 i5) rfl hf rfl (fun w ⟨_, hp⟩ => ?_) ⟨_, hp⟩ ?_
     · exact st_move hf rfl rfl (by decide) tk
     clear hf; intro a hf
     refine dr_takeK 2 (eptr vax0 i5 2) rfl hf rfl (fun w ⟨_, hp⟩ => ?_) ⟨_, hp⟩ ?_
     · exact st_index (E := (Ek.pair Ek.c128 Ek.bool)) hf (by decide) Try.underlying27 elt35 rfl rfl rfl (hax0.sl hp) hc1.1 hc1.2 tk
     clear hf; intro a hf
     refine dr_takeK 3 (optr (eptr vax0 i5 2) 1) rfl hf rfl (fun w ⟨_, hp⟩ => ?_) ⟨_, hp⟩ ?_
     · exact st_faP (off := 1) (sz := 1) hf (by decide) (by kernel_rfl) (by decide) rfl rfl (Sl.isP (hax0.sl hp) hc1.1 hc1.2) tk
     clear hf; intro a hf
     refine dr_takeK 4 (.bool ((gt ax0 i5).2)) rfl hf rfl (fun w ⟨_, hp⟩ => ?_) ⟨_, hp⟩ ?_
     · exact st_ldQ (F := Ek.bool) (yv := (gt ax0 i5).2) hf (by decide) pl4 (fun x => .bool x) (fun _ _ h => h) rfl rfl (Sl.part (E := (Ek.pair Ek.c128 Ek.bool)) (F := Ek.bool) (o := 1) (Sub.snd (E := Ek.c128) (F := Ek.bool)) (hax0.sl hp) hc1.1 hc1.2) tk
     clear hf; intro a hf
     refine dr_takeK 5 (vbx1) rfl hf rfl (fun w ⟨_, hp⟩ => ?_) ⟨_, hp⟩ ?_
     · exact st_move hf rfl rfl (by decide) tk
     clear hf; intro a hf
     refine dr_takeK 6 (.int .i64 i5) rfl hf rfl (fun w ⟨_, hp⟩ => ?_) ⟨_, hp⟩ ?_
     · exact st_move hf rfl rfl (by decide) tk
     clear hf; intro a hf
     refine dr_takeK 7 (eptr vbx1 i5 2) rfl hf rfl (fun w ⟨_, hp⟩ => ?_) ⟨_, hp⟩ ?_
     · exact st_index (E := (Ek.pair Ek.c128 Ek.bool)) hf (by decide) Try.underlying27 elt35 rfl rfl rfl (hbx1.sl hp) hc2.1 hc2.2 tk
     clear hf; intro a hf
     refine dr_takeK 8 (optr (eptr vbx1 i5 2) 1) rfl hf rfl (fun w ⟨_, hp⟩ => ?_) ⟨_, hp⟩ ?_
     · exact st_faP (off := 1) (sz := 1) hf (by decide) (by kernel_rfl) (by decide) rfl rfl (Sl.isP (hbx1.sl hp) hc2.1 hc2.2) tk
     clear hf; intro a hf
     refine dr_takeK 9 (.bool ((gt bx1 i5).2)) rfl hf rfl (fun w ⟨_, hp⟩ => ?_) ⟨_, hp⟩ ?_
     · exact st_ldQ (F := Ek.bool) (yv := (gt bx1 i5).2) hf (by decide) pl4 (fun x => .bool x) (fun _ _ h => h) rfl rfl (Sl.part (E := (Ek.pair Ek.c128 Ek.bool)) (F := Ek.bool) (o := 1) (Sub.snd (E := Ek.c128) (F := Ek.bool)) (hbx1.sl hp) hc2.1 hc2.2) tk
     clear hf; intro a hf
     refine dr_takeK 10 (.bool (((gt ax0 i5).2) != ((gt bx1 i5).2))) rfl hf rfl (fun w ⟨_, hp⟩ => ?_) ⟨_, hp⟩ ?_
     · exact st_bneq hf (by decide) Try.underlying4 rfl rfl rfl tk
     clear hf; intro a hf
     refine dr_takeK 11 (.bool (((gt ax0 i5).2) != ((gt bx1 i5).2))) rfl hf rfl (fun w ⟨_, hp⟩ => ?_) ⟨_, hp⟩ ?_
     · exact st_move hf rfl rfl (by decide) tk
     clear hf; intro a hf
     refine dr_takeK 12 (vax0) rfl hf (wantY hf rfl rfl hb4) (fun w ⟨_, hp⟩ => ?_) ⟨_, hp⟩ ?_
     · exact st_move hf (wantY hf rfl rfl hb4) rfl (by decide) tk
     clear hf; intro a hf
     refine dr_takeK 13 (.int .i64 i5) rfl hf (wantY hf rfl rfl hb4) (fun w ⟨_, hp⟩ => ?_) ⟨_, hp⟩ ?_
     · exact st_move hf (wantY hf rfl rfl hb4) rfl (by decide) tk
     clear hf; intro a hf
     refine dr_takeK 14 (eptr vax0 i5 2) rfl hf (wantY hf rfl rfl hb4) (fun w ⟨_, hp⟩ => ?_) ⟨_, hp⟩ ?_
     · exact st_index (E := (Ek.pair Ek.c128 Ek.bool)) hf (by decide) Try.underlying27 elt35 (wantY hf rfl rfl hb4) rfl rfl (hax0.sl hp) hc5.1 hc5.2 tk
     clear hf; intro a hf
     refine dr_takeK 15 (optr (eptr vax0 i5 2) 0) rfl hf (wantY hf rfl rfl hb4) (fun w ⟨_, hp⟩ => ?_) ⟨_, hp⟩ ?_
     · exact st_faP (off := 0) (sz := 1) hf (by decide) (by kernel_rfl) (by decide) (wantY hf rfl rfl hb4) rfl (Sl.isP (hax0.sl hp) hc5.1 hc5.2) tk
     clear hf; intro a hf
     refine dr_takeK 16 (.complex .f64 bb7 bb8) rfl hf (wantY hf rfl rfl hb4) (fun w ⟨_, hp⟩ => ?_) ⟨_, hp⟩ ?_
     · exact st_ldP hf (by decide) pl33 (wantY hf rfl rfl hb4) rfl (hl6 _ _ hp) tk
     clear hf; intro a hf
     refine dr_takeK 17 (vbx1) rfl hf (wantY hf rfl rfl hb4) (fun w ⟨_, hp⟩ => ?_) ⟨_, hp⟩ ?_
     · exact st_move hf (wantY hf rfl rfl hb4) rfl (by decide) tk
     clear hf; intro a hf
     refine dr_takeK 18 (.int .i64 i5) rfl hf (wantY hf rfl rfl hb4) (fun w ⟨_, hp⟩ => ?_) ⟨_, hp⟩ ?_
     · exact st_move hf (wantY hf rfl rfl hb4) rfl (by decide) tk
     clear hf; intro a hf
     refine dr_takeK 19 (eptr vbx1 i5 2) rfl hf (wantY hf rfl rfl hb4) (fun w ⟨_, hp⟩ => ?_) ⟨_, hp⟩ ?_
     · exact st_index (E := (Ek.pair Ek.c128 Ek.bool)) hf (by decide) Try.underlying27 elt35 (wantY hf rfl rfl hb4) rfl rfl (hbx1.sl hp) hc11.1 hc11.2 tk
     clear hf; intro a hf
     refine dr_takeK 20 (optr (eptr vbx1 i5 2) 0) rfl hf (wantY hf rfl rfl hb4) (fun w ⟨_, hp⟩ => ?_) ⟨_, hp⟩ ?_
     · exact st_faP (off := 0) (sz := 1) hf (by decide) (by kernel_rfl) (by decide) (wantY hf rfl rfl hb4) rfl (Sl.isP (hbx1.sl hp) hc11.1 hc11.2) tk
     clear hf; intro a hf
     refine dr_takeK 21 (.complex .f64 bb13 bb14) rfl hf (wantY hf rfl rfl hb4) (fun w ⟨_, hp⟩ => ?_) ⟨_, hp⟩ ?_
     · exact st_ldP hf (by decide) pl33 (wantY hf rfl rfl hb4) rfl (hl12 _ _ hp) tk
     clear hf; intro a hf
     refine dr_takeK 22 (.bool (!ceq ((gt ax0 i5).1) ((gt bx1 i5).1))) rfl hf (wantY hf rfl rfl hb4) (fun w ⟨_, hp⟩ => ?_) ⟨_, hp⟩ ?_
     · exact st_ccmp (r_cne (x := (gt ax0 i5).1) (y := (gt bx1 i5).1) y9 y10 y15 y16) hf (by decide) (wantY hf rfl rfl hb4) rfl rfl tk
     clear hf; intro a hf
     refine dr_takeK 23 (.bool z17) rfl hf rfl (fun w ⟨_, hp⟩ => ?_) ⟨_, hp⟩ ?_
     · exact st_pick (v := .bool z17) hf rfl rfl (fun hb' => absurd (hb4.symm.trans hb') (by decide)) (fun _ => by rw [← hz3]; rfl) (by decide) tk
     clear hf; intro a hf
     refine dr_end (by kernel_rfl) ?_ _
     exact ⟨hf.sub ⟨rfl, rfl, rfl, rfl, trivial⟩, hp⟩
    rintro a w ⟨hf, hp⟩
    refine th_n ?_
    refine wp_if hf rfl (fun hb => ?_) (fun hb => ?_)
    ·
     replace h := ifT h hb
     refine wp_seq ?_
     refine wp_reg ?_
     refine st_assign hf rfl rfl (by decide) ?_
     clear hf; intro a ha hf; clear ha
     refine st_nil hf ?_
     refine th_n ?_
     refine wp_ret ?_
     refine ib_r ?_
     refine th_r ?_
     obtain rfl := Option.some.inj h
     exact rnd_r (by simp) ⟨rfl, ⟨hf.sub ⟨rfl, trivial⟩, hp⟩⟩
    replace h := ifF h hb
    refine wp_skip ?_
    refine ib_n ?_
    refine th_n ?_
    refine wp_reg ?_
    refine st_move hf rfl rfl (by decide) ?_
    clear hf; intro a ha hf; clear ha
    refine st_iadd hf (by decide) rfl rfl rfl ?_
    clear hf; intro a ha hf; clear ha
    refine st_assign hf rfl rfl (by decide) ?_
    clear hf; intro a ha hf; clear ha
    refine st_nil hf ?_
    obtain rfl := Option.some.inj h
    exact rnd_l ⟨hf.sub ⟨rfl, rfl, rfl, trivial⟩, hp⟩
   replace h := ifF h hb
   refine wp_exit ?_
   refine th_e ?_
   obtain rfl := Option.some.inj h
   exact rnd_r (by simp) ⟨rfl, hf.sub trivial, hp⟩
  clear hl hf hp
  intro e a w hne hO
  rcases q18 with q19 | q20
  ·
   replace h := smL h
   obtain ⟨rfl, hf, hp⟩ := hO
   refine ib_same ?_
   refine th_n ?_
   refine wp_seq ?_
   refine wp_reg ?_
   refine st_assign hf rfl rfl (by decide) ?_
   clear hf; intro a ha hf; clear ha
   refine st_nil hf ?_
   refine th_n ?_
   refine wp_ret ?_
   obtain rfl := Option.some.inj h
   exact ⟨rfl, ⟨hf.sub ⟨rfl, trivial⟩, hp⟩⟩
  replace h := smR h
  obtain ⟨rfl, hf, hp⟩ := hO
  refine ib_r ?_
  refine th_r ?_
  obtain rfl := Option.some.inj h
  exact ⟨rfl, ⟨hf.sub ⟨rfl, trivial⟩, hp⟩⟩

end Go.Proofs.Ytcooefnbolobaaa
