/- The functions foghorn foghorntop.TopLinear: what each answers, as a plain function, and that its call answers it; printed by gen.py. -/
import Derived.Test.YtgdhjjdgghilhaaProg
import Derived.Test.YtgdhjjdgghilhaaGlUf
import Derived.KernelRfl
import Derived.Test.YtgdhjjdgghilhaaG1p1
set_option linter.unusedVariables false
set_option linter.unusedSimpArgs false
set_option maxRecDepth 100000
set_option maxHeartbeats 4000000
namespace Go.Proofs.Ytgdhjjdgghilhaa
open GL
noncomputable def f_foghorntop_taps.s1c (size5 : Fl) (k6 : Int) : Option ((Fl × Int) ⊕ Fl) := (if (decide ((0 : Int) < k6)) = true then (some (Sum.inl ((fquo size5 (Fl.bits 4611686018427387904)), (IntKind.i64.wrap (k6 - (1 : Int)))))) else (some (Sum.inr size5)))
noncomputable def f_foghorntop_taps.s1  (s : (Fl × Int)) : Option ((Fl × Int) ⊕ Fl) := f_foghorntop_taps.s1c s.1 s.2
noncomputable def f_foghorntop_taps.j1 (l8 : (List (Fl × Fl))) (left9 : Int) (i10 : Int) (ax11 : Int) (bx12 : Int) : Option (((List (Fl × Fl)) × Int × Int) ⊕ (List (Fl × Fl))) := ((f_foghorntop_abs ax11).bind fun q48 => ((f_foghorntop_abs bx12).bind fun q50 => (if (l8.length + ([((fquo (fofi ax11) (Fl.bits 4634204016564240384)), (fquo (fofi bx12) (Fl.bits 4634204016564240384)))]).length) * 16 ≤ 140737488355328 then (some (Sum.inl ((l8 ++ [((fquo (fofi ax11) (Fl.bits 4634204016564240384)), (fquo (fofi bx12) (Fl.bits 4634204016564240384)))]), (IntKind.i64.wrap ((IntKind.i64.wrap (left9 - q48)) - q50)), (IntKind.i64.wrap (i10 + (2 : Int)))))) else none)))
noncomputable def f_foghorntop_taps.s2c (hx0_Taps : (List Int)) (l8 : (List (Fl × Fl))) (left9 : Int) (i10 : Int) : Option (((List (Fl × Fl)) × Int × Int) ⊕ (List (Fl × Fl))) := (if ((decide ((IntKind.i64.wrap (i10 + (1 : Int))) < (hx0_Taps.length : Int))) && (decide ((l8.length : Int) < (12 : Int)))) = true then (if 0 ≤ i10 ∧ i10 < (hx0_Taps.length : Int) then ((f_foghorntop_mod (gt hx0_Taps i10) (129 : Int)).bind fun q43 => (if 0 ≤ (IntKind.i64.wrap (i10 + (1 : Int))) ∧ (IntKind.i64.wrap (i10 + (1 : Int))) < (hx0_Taps.length : Int) then ((f_foghorntop_mod (gt hx0_Taps (IntKind.i64.wrap (i10 + (1 : Int)))) (129 : Int)).bind fun q46 => ((f_foghorntop_abs (IntKind.i64.wrap (q43 - (64 : Int)))).bind fun q60 => ((f_foghorntop_abs (IntKind.i64.wrap (q46 - (64 : Int)))).bind fun q62 => (if (decide (left9 < (IntKind.i64.wrap (q60 + q62)))) = true then (f_foghorntop_taps.j1 l8 left9 i10 (0 : Int) (0 : Int)) else (f_foghorntop_taps.j1 l8 left9 i10 (IntKind.i64.wrap (q43 - (64 : Int))) (IntKind.i64.wrap (q46 - (64 : Int)))))))) else none)) else none) else (some (Sum.inr l8)))
noncomputable def f_foghorntop_taps.s2 (hx0_Taps : (List Int)) (s : ((List (Fl × Fl)) × Int × Int)) : Option (((List (Fl × Fl)) × Int × Int) ⊕ (List (Fl × Fl))) := f_foghorntop_taps.s2c hx0_Taps s.1 s.2.1 s.2.2
noncomputable def f_foghorntop_taps (hx0_Size : Int) (hx0_Pulse : Int) (hx0_Order : Int) (hx0_First : Int) (hx0_Taps : (List Int)) (hx0_Delay : Int) (hx0_Points : Int) (hx0_Blocks : Int) (hx0_Bits : (List Bool)) : Option ((List (Fl × Fl)) × Fl × Int) := ((f_foghorntop_mod hx0_First (12 : Int)).bind fun q3 => ((loop f_foghorntop_taps.s1 ((Fl.bits 4607182418800017408), (IntKind.i64.wrap ((q3).tdiv (4 : Int))))).bind (fun q11 => ((f_foghorntop_mod hx0_First (4 : Int)).bind fun q12 => ((f_foghorntop_quarter (q11, (Fl.bits 0)) q12).bind fun q14 => ((ftoi .i64 (fmul (fsub (Fl.bits 4616189618054758400) q11) (Fl.bits 4634204016564240384))).bind fun q26 => ((loop (f_foghorntop_taps.s2 hx0_Taps) ([q14], q26, (0 : Int))).bind (fun q64 => (some (q64, q11, q12))))))))))
theorem f_foghorntop_taps_c {S : Nat → Prop} {w0 w : World} {ow : List Res} (hp : Hp S w0 w ow) (hx0_Size : Int) (hx0_Pulse : Int) (hx0_Order : Int) (hx0_First : Int) (vhx0_Taps : Value) (hx0_Taps : (List Int)) (hhx0_Taps : RdS (Ek.int .i64) S w0 vhx0_Taps hx0_Taps) (hx0_Delay : Int) (hx0_Points : Int) (hx0_Blocks : Int) (vhx0_Bits : Value) (hx0_Bits : (List Bool)) (hhx0_Bits : RdS Ek.bool S w0 vhx0_Bits hx0_Bits) {r : ((List (Fl × Fl)) × Fl × Int)} (h : f_foghorntop_taps hx0_Size hx0_Pulse hx0_Order hx0_First hx0_Taps hx0_Delay hx0_Points hx0_Blocks hx0_Bits = some r) :
    Calls Try.prog 5 #[.agg #[.int .i64 hx0_Size, .int .i64 hx0_Pulse, .int .i64 hx0_Order, .int .i64 hx0_First, vhx0_Taps, .int .i64 hx0_Delay, .int .i64 hx0_Points, .int .i64 hx0_Blocks, vhx0_Bits]] w (fun e w' => ∃ (u0 : Value) (b1 : Nat), e = .returned (.tuple #[u0, .float .f64 b1, .int .i64 r.2.2]) ∧ Fl.rep b1 r.2.1 ∧ Hp S w0 w' (Res.sl Ek.c128 39 u0 r.1 :: ow)) := by
  unfold f_foghorntop_taps at h
  refine enter (n := 90) (args := [.agg #[.int .i64 hx0_Size, .int .i64 hx0_Pulse, .int .i64 hx0_Order, .int .i64 hx0_First, vhx0_Taps, .int .i64 hx0_Delay, .int .i64 hx0_Points, .int .i64 hx0_Blocks, vhx0_Bits]]) Try.func5 rfl rfl (Nat.le_of_ble_eq_true rfl) fun a hf => ?_
  replace hf : Fr 90 a [(0, .agg #[.int .i64 hx0_Size, .int .i64 hx0_Pulse, .int .i64 hx0_Order, .int .i64 hx0_First, vhx0_Taps, .int .i64 hx0_Delay, .int .i64 hx0_Points, .int .i64 hx0_Blocks, vhx0_Bits])] := hf
  refine wp_mono (Q := fun e a w => e = .ret ∧ ∃ (u0 : Value) (b1 : Nat), Fr 90 a [(2, u0), (3, .float .f64 b1), (4, .int .i64 r.2.2)] ∧ Fl.rep b1 r.2.1 ∧ Hp S w0 w (Res.sl Ek.c128 39 u0 r.1 :: ow)) ?_ ?_
  rotate_left
  · rintro e a w ⟨rfl, x0, x1, hf, y0, hp⟩
    exact ret3 hf rfl rfl rfl rfl ⟨x0, x1, rfl, y0, hp⟩
  refine wp_seq ?_
  refine wp_reg ?_
  refine st_boxO (cs := [.int .i64 hx0_Size, .int .i64 hx0_Pulse, .int .i64 hx0_Order, .int .i64 hx0_First, vhx0_Taps, .int .i64 hx0_Delay, .int .i64 hx0_Points, .int .i64 hx0_Blocks, vhx0_Bits]) hf (by decide) hp rfl rfl rfl ?_
  clear hf; intro a w v1 hf hp0; clear hp; have hp := hp0; clear hp0
  replace hp : Hp _ _ _ (Res.obj 25 v1 [.int .i64 hx0_Size, .int .i64 hx0_Pulse, .int .i64 hx0_Order, .int .i64 hx0_First, vhx0_Taps, .int .i64 hx0_Delay, .int .i64 hx0_Points, .int .i64 hx0_Blocks, vhx0_Bits] :: ow) := hp
  refine st_assign hf rfl rfl (by decide) ?_
  clear hf; intro a ha hf; clear ha
  refine st_assign hf rfl rfl (by decide) ?_
  clear hf; intro a ha hf; clear ha
  refine st_assign hf rfl rfl (by decide) ?_
  clear hf; intro a ha hf; clear ha
  refine st_nil hf ?_
  refine th_n ?_
  refine wp_seq ?_
  refine wp_reg ?_
  refine st_assign hf rfl rfl (by decide) ?_
  clear hf; intro a ha hf; clear ha
  refine st_nil hf ?_
  refine th_n ?_
  refine wp_seq ?_
  refine wp_seq ?_
  refine wp_reg ?_
  refine st_fa (o' := 3) hf (by decide) (off := 3) (sz := 1) (by kernel_rfl) (by decide) rfl rfl (hp.ob (i := 0) rfl) rfl ?_
  clear hf; intro a ha hf; clear ha
  refine st_ldO (u := .int .i64 hx0_First) hf (by decide) pl3 rfl rfl (hp.ob (i := 0) rfl) rfl ?_
  clear hf; intro a ha hf; clear ha
  obtain ⟨q3, hcall4, h⟩ := bnd h
  refine st_call hf (by decide) Try.func6 rfl rfl rfl rfl rfl (f_foghorntop_mod_c hp _ _ hcall4) ?_
  rintro _ w ⟨rfl, hp0⟩
  clear hp; have hp := hp0; clear hp0
  replace hp : Hp _ _ _ (Res.obj 25 v1 [.int .i64 hx0_Size, .int .i64 hx0_Pulse, .int .i64 hx0_Order, .int .i64 hx0_First, vhx0_Taps, .int .i64 hx0_Delay, .int .i64 hx0_Points, .int .i64 hx0_Blocks, vhx0_Bits] :: ow) := hp
  refine ⟨_, rfl, ?_⟩
  clear hf; intro a hf
  refine st_iquo hf (by decide) rfl rfl rfl (by decide) ?_
  clear hf; intro a ha hf; clear ha
  refine st_assign hf rfl rfl (by decide) ?_
  clear hf; intro a ha hf; clear ha
  refine st_nil hf ?_
  refine th_n ?_
  refine wp_block ?_
  obtain ⟨q11, hl, h⟩ := bnd h
  refine wp_loop_pure (f := f_foghorntop_taps.s1) (s := ((Fl.bits 4607182418800017408), (IntKind.i64.wrap ((q3).tdiv (4 : Int))))) (fun s a w => ∃ (bb5 : Nat), Fr 90 a [(1, optr v1 0), (5, .float .f64 bb5), (6, .int .i64 s.2)] ∧ Fl.rep bb5 s.1 ∧ Hp S w0 w (Res.obj 25 v1 [.int .i64 hx0_Size, .int .i64 hx0_Pulse, .int .i64 hx0_Order, .int .i64 hx0_First, vhx0_Taps, .int .i64 hx0_Delay, .int .i64 hx0_Points, .int .i64 hx0_Blocks, vhx0_Bits] :: ow)) (fun q e a w => e = .exit 0 ∧ ∃ (bb7 : Nat), Fr 90 a [(1, optr v1 0), (5, .float .f64 bb7)] ∧ Fl.rep bb7 q ∧ Hp S w0 w (Res.obj 25 v1 [.int .i64 hx0_Size, .int .i64 hx0_Pulse, .int .i64 hx0_Order, .int .i64 hx0_First, vhx0_Taps, .int .i64 hx0_Delay, .int .i64 hx0_Points, .int .i64 hx0_Blocks, vhx0_Bits] :: ow)) ?_ hl ⟨_, hf.sub ⟨rfl, rfl, rfl, trivial⟩, rfl, hp⟩ ?_
  · clear hl hf hp
    intro s x a w h hI
    obtain ⟨size5, k6⟩ := s
    obtain ⟨bb5, hf, y6, hp⟩ : ∃ (bb5 : Nat), Fr 90 a [(1, optr v1 0), (5, .float .f64 bb5), (6, .int .i64 k6)] ∧ Fl.rep bb5 size5 ∧ Hp S w0 w (Res.obj 25 v1 [.int .i64 hx0_Size, .int .i64 hx0_Pulse, .int .i64 hx0_Order, .int .i64 hx0_First, vhx0_Taps, .int .i64 hx0_Delay, .int .i64 hx0_Points, .int .i64 hx0_Blocks, vhx0_Bits] :: ow) := hI
    replace h : f_foghorntop_taps.s1c size5 k6 = some x := h
    unfold f_foghorntop_taps.s1c at h
    refine wp_seq ?_
    refine wp_seq ?_
    refine wp_reg ?_
    refine st_move hf rfl rfl (by decide) ?_
    clear hf; intro a ha hf; clear ha
    refine st_igtr hf (by decide) rfl rfl rfl ?_
    clear hf; intro a ha hf; clear ha
    refine st_nil hf ?_
    refine th_n ?_
    refine wp_if hf rfl (fun hb => ?_) (fun hb => ?_)
    · replace h := ifT h hb
      refine wp_skip ?_
      refine th_n ?_
      refine wp_seq ?_
      refine wp_block ?_
      refine wp_reg ?_
      refine st_move hf rfl rfl (by decide) ?_
      clear hf; intro a ha hf; clear ha
      refine st_farith (op := .quo) rfl hf (by decide) hp rfl rfl rfl (show Fl.rep bb5 size5 from y6) (show Fl.rep 4611686018427387904 (Fl.bits 4611686018427387904) from rfl) ?_
      clear hf; intro a w bb9 y10 hf hp0; clear hp; have hp := hp0; clear hp0
      replace hp : Hp _ _ _ (Res.obj 25 v1 [.int .i64 hx0_Size, .int .i64 hx0_Pulse, .int .i64 hx0_Order, .int .i64 hx0_First, vhx0_Taps, .int .i64 hx0_Delay, .int .i64 hx0_Points, .int .i64 hx0_Blocks, vhx0_Bits] :: ow) := hp
      refine st_assign hf rfl rfl (by decide) ?_
      clear hf; intro a ha hf; clear ha
      refine st_nil hf ?_
      refine ib_n ?_
      refine th_n ?_
      refine wp_reg ?_
      refine st_move hf rfl rfl (by decide) ?_
      clear hf; intro a ha hf; clear ha
      refine st_isub hf (by decide) rfl rfl rfl ?_
      clear hf; intro a ha hf; clear ha
      refine st_assign hf rfl rfl (by decide) ?_
      clear hf; intro a ha hf; clear ha
      refine st_nil hf ?_
      obtain rfl := Option.some.inj h
      exact rnd_l ⟨_, hf.sub ⟨rfl, rfl, rfl, trivial⟩, y10, hp⟩
    replace h := ifF h hb
    refine wp_exit ?_
    refine th_e ?_
    obtain rfl := Option.some.inj h
    exact rnd_r (by simp) ⟨rfl, _, hf.sub ⟨rfl, rfl, trivial⟩, y6, hp⟩
  clear hl hf hp
  intro e a w hne hO
  obtain ⟨rfl, bb7, hf, y8, hp⟩ := hO
  refine ib_same ?_
  refine th_n ?_
  refine wp_seq ?_
  refine wp_reg ?_
  refine st_fa (o' := 3) hf (by decide) (off := 3) (sz := 1) (by kernel_rfl) (by decide) rfl rfl (hp.ob (i := 0) rfl) rfl ?_
  clear hf; intro a ha hf; clear ha
  refine st_ldO (u := .int .i64 hx0_First) hf (by decide) pl3 rfl rfl (hp.ob (i := 0) rfl) rfl ?_
  clear hf; intro a ha hf; clear ha
  obtain ⟨q12, hcall13, h⟩ := bnd h
  refine st_call hf (by decide) Try.func6 rfl rfl rfl rfl rfl (f_foghorntop_mod_c hp _ _ hcall13) ?_
  rintro _ w ⟨rfl, hp0⟩
  clear hp; have hp := hp0; clear hp0
  replace hp : Hp _ _ _ (Res.obj 25 v1 [.int .i64 hx0_Size, .int .i64 hx0_Pulse, .int .i64 hx0_Order, .int .i64 hx0_First, vhx0_Taps, .int .i64 hx0_Delay, .int .i64 hx0_Points, .int .i64 hx0_Blocks, vhx0_Bits] :: ow) := hp
  refine ⟨_, rfl, ?_⟩
  clear hf; intro a hf
  refine st_assign hf rfl rfl (by decide) ?_
  clear hf; intro a ha hf; clear ha
  refine st_nil hf ?_
  refine th_n ?_
  refine wp_seq ?_
  refine wp_reg ?_
  refine st_move hf rfl rfl (by decide) ?_
  clear hf; intro a ha hf; clear ha
  refine st_complex hf (by decide) rfl rfl rfl ?_
  clear hf; intro a ha hf; clear ha
  refine st_move hf rfl rfl (by decide) ?_
  clear hf; intro a ha hf; clear ha
  obtain ⟨q14, hcall15, h⟩ := bnd h
  refine st_call hf (by decide) Try.func7 rfl rfl rfl rfl rfl (f_foghorntop_quarter_c hp _ _ _ (show Fl.rep bb7 ((q11, (Fl.bits 0))).1 from y8) (show Fl.rep 0 ((q11, (Fl.bits 0))).2 from rfl) _ hcall15) ?_
  rintro _ w ⟨v16, v17, rfl, y18, y19, hp0⟩
  clear hp; have hp := hp0; clear hp0
  replace hp : Hp _ _ _ (Res.obj 25 v1 [.int .i64 hx0_Size, .int .i64 hx0_Pulse, .int .i64 hx0_Order, .int .i64 hx0_First, vhx0_Taps, .int .i64 hx0_Delay, .int .i64 hx0_Points, .int .i64 hx0_Blocks, vhx0_Bits] :: ow) := hp
  refine ⟨_, rfl, ?_⟩
  clear hf; intro a hf
  refine st_build (E := Ek.c128) (xs := [q14]) hf (by decide) elt39 Try.underlying32 hp (vals := #[(0, .complex .f64 v16 v17)]) (cells := #[.complex .f64 v16 v17]) rfl (by simp [hf.ev (x := (Operand.tmp 29)) rfl]) (Nat.le_of_ble_eq_true rfl) (Nat.le_of_ble_eq_true rfl) (z := .complex .f64 0 0) (by kernel_rfl) (by kernel_rfl) rfl (reps_cons (cs := [.complex .f64 v16 v17]) (show Ek.c128.rep [.complex .f64 v16 v17] q14 from ⟨_, _, rfl, y18, y19⟩) (reps_nil _)) ?_
  clear hf; intro a w v20 hf hp0; clear hp; have hp := hp0; clear hp0
  replace hp : Hp _ _ _ (Res.sl Ek.c128 39 v20 ([q14]) :: Res.obj 25 v1 [.int .i64 hx0_Size, .int .i64 hx0_Pulse, .int .i64 hx0_Order, .int .i64 hx0_First, vhx0_Taps, .int .i64 hx0_Delay, .int .i64 hx0_Points, .int .i64 hx0_Blocks, vhx0_Bits] :: ow) := hp
  refine st_assign hf rfl rfl (by decide) ?_
  clear hf; intro a ha hf; clear ha
  refine st_nil hf ?_
  refine th_n ?_
  refine wp_seq ?_
  refine wp_reg ?_
  refine st_move hf rfl rfl (by decide) ?_
  clear hf; intro a ha hf; clear ha
  refine st_farith (op := .sub) rfl hf (by decide) hp rfl rfl rfl (show Fl.rep 4616189618054758400 (Fl.bits 4616189618054758400) from rfl) (show Fl.rep bb7 q11 from y8) ?_
  clear hf; intro a w bb22 y23 hf hp0; clear hp; have hp := hp0; clear hp0
  replace hp : Hp _ _ _ (Res.sl Ek.c128 39 v20 ([q14]) :: Res.obj 25 v1 [.int .i64 hx0_Size, .int .i64 hx0_Pulse, .int .i64 hx0_Order, .int .i64 hx0_First, vhx0_Taps, .int .i64 hx0_Delay, .int .i64 hx0_Points, .int .i64 hx0_Blocks, vhx0_Bits] :: ow) := hp
  refine st_farith (op := .mul) rfl hf (by decide) hp rfl rfl rfl (show Fl.rep bb22 (fsub (Fl.bits 4616189618054758400) q11) from y23) (show Fl.rep 4634204016564240384 (Fl.bits 4634204016564240384) from rfl) ?_
  clear hf; intro a w bb24 y25 hf hp0; clear hp; have hp := hp0; clear hp0
  replace hp : Hp _ _ _ (Res.sl Ek.c128 39 v20 ([q14]) :: Res.obj 25 v1 [.int .i64 hx0_Size, .int .i64 hx0_Pulse, .int .i64 hx0_Order, .int .i64 hx0_First, vhx0_Taps, .int .i64 hx0_Delay, .int .i64 hx0_Points, .int .i64 hx0_Blocks, vhx0_Bits] :: ow) := hp
  obtain ⟨q26, hq27, h⟩ := bnd h
  refine st_conv_fi (by rw [Try.underlying33]; rfl) Try.underlying3 hf (by decide) rfl rfl (show Fl.rep bb24 (fmul (fsub (Fl.bits 4616189618054758400) q11) (Fl.bits 4634204016564240384)) from y25) hq27 ?_
  clear hf; intro a ha hf; clear ha
  refine st_assign hf rfl rfl (by decide) ?_
  clear hf; intro a ha hf; clear ha
  refine st_nil hf ?_
  refine th_n ?_
  refine wp_seq ?_
  refine wp_seq ?_
  refine wp_reg ?_
  refine st_assign hf rfl rfl (by decide) ?_
  clear hf; intro a ha hf; clear ha
  refine st_nil hf ?_
  refine th_n ?_
  refine wp_block ?_
  obtain ⟨q64, hl, h⟩ := bnd h
  refine wp_loop_pure (f := (f_foghorntop_taps.s2 hx0_Taps)) (s := ([q14], q26, (0 : Int))) (fun s a w => ∃ (v28 : Value), Fr 90 a [(1, optr v1 0), (5, .float .f64 bb7), (7, .int .i64 q12), (8, v28), (9, .int .i64 s.2.1), (10, .int .i64 s.2.2)] ∧ Hp S w0 w (Res.sl Ek.c128 39 v28 s.1 :: Res.obj 25 v1 [.int .i64 hx0_Size, .int .i64 hx0_Pulse, .int .i64 hx0_Order, .int .i64 hx0_First, vhx0_Taps, .int .i64 hx0_Delay, .int .i64 hx0_Points, .int .i64 hx0_Blocks, vhx0_Bits] :: ow)) (fun q e a w => e = .exit 2 ∧ ∃ (v30 : Value), Fr 90 a [(5, .float .f64 bb7), (7, .int .i64 q12), (8, v30)] ∧ Hp S w0 w (Res.sl Ek.c128 39 v30 q :: ow)) ?_ hl ⟨_, hf.sub ⟨rfl, rfl, rfl, rfl, rfl, rfl, trivial⟩, hp⟩ ?_
  · clear hl hf hp
    intro s x a w h hI
    obtain ⟨l8, left9, i10⟩ := s
    obtain ⟨v28, hf, hp⟩ : ∃ (v28 : Value), Fr 90 a [(1, optr v1 0), (5, .float .f64 bb7), (7, .int .i64 q12), (8, v28), (9, .int .i64 left9), (10, .int .i64 i10)] ∧ Hp S w0 w (Res.sl Ek.c128 39 v28 l8 :: Res.obj 25 v1 [.int .i64 hx0_Size, .int .i64 hx0_Pulse, .int .i64 hx0_Order, .int .i64 hx0_First, vhx0_Taps, .int .i64 hx0_Delay, .int .i64 hx0_Points, .int .i64 hx0_Blocks, vhx0_Bits] :: ow) := hI
    replace h : f_foghorntop_taps.s2c hx0_Taps l8 left9 i10 = some x := h
    unfold f_foghorntop_taps.s2c at h
    refine wp_seq ?_
    refine wp_seq ?_
    refine wp_reg ?_
    refine st_move hf rfl rfl (by decide) ?_
    clear hf; intro a ha hf; clear ha
    refine st_iadd hf (by decide) rfl rfl rfl ?_
    clear hf; intro a ha hf; clear ha
    refine st_fa (o' := 4) hf (by decide) (off := 4) (sz := 1) (by kernel_rfl) (by decide) rfl rfl (hp.ob (i := 1) rfl) rfl ?_
    clear hf; intro a ha hf; clear ha
    refine st_ldO (u := vhx0_Taps) hf (by decide) pl22 rfl rfl (hp.ob (i := 1) rfl) rfl ?_
    clear hf; intro a ha hf; clear ha
    refine st_len (E := (Ek.int .i64)) hf (by decide) Try.underlying22 rfl rfl (hhx0_Taps.sl hp) ?_
    clear hf; intro a ha hf; clear ha
    refine st_ilss hf (by decide) rfl rfl rfl ?_
    clear hf; intro a ha hf; clear ha
    refine st_move hf rfl rfl (by decide) ?_
    clear hf; intro a ha hf; clear ha
    refine wpList_cut 4 (fun a w => Fr 90 a [(1, optr v1 0), (5, .float .f64 bb7), (7, .int .i64 q12), (8, v28), (9, .int .i64 left9), (10, .int .i64 i10), (45, .bool ((decide ((IntKind.i64.wrap (i10 + (1 : Int))) < (hx0_Taps.length : Int))) && (decide ((l8.length : Int) < (12 : Int)))))] ∧ Hp S w0 w (Res.sl Ek.c128 39 v28 l8 :: Res.obj 25 v1 [.int .i64 hx0_Size, .int .i64 hx0_Pulse, .int .i64 hx0_Order, .int .i64 hx0_First, vhx0_Taps, .int .i64 hx0_Delay, .int .i64 hx0_Points, .int .i64 hx0_Blocks, vhx0_Bits] :: ow)) ?_ ?_
    · rcases Bool.eq_false_or_eq_true (decide ((IntKind.i64.wrap (i10 + (1 : Int))) < (hx0_Taps.length : Int))) with hb33 | hb33
      · skip
        refine st_move hf (wantY hf rfl rfl hb33) rfl (by decide) ?_
        clear hf; intro a ha hf; clear ha
        refine st_len (E := Ek.c128) hf (by decide) Try.underlying32 (wantY hf rfl rfl hb33) rfl (hp.sl (i := 0) rfl) ?_
        clear hf; intro a ha hf; clear ha
        refine st_ilss hf (by decide) (wantY hf rfl rfl hb33) rfl rfl ?_
        clear hf; intro a ha hf; clear ha
        refine st_pick (v := .bool (decide ((l8.length : Int) < (12 : Int)))) hf rfl rfl (fun hb' => ?_) (fun hb' => ?_) (by decide) ?_
        · rfl
        · exact absurd (hb33.symm.trans hb') (by decide)
        clear hf; intro a ha hf; clear ha
        refine st_nil hf (th_n ?_)
        exact ⟨hf.sub ⟨rfl, rfl, rfl, rfl, rfl, rfl, (by rw [hb33]; rfl), trivial⟩, hp⟩
      refine st_skip hf (wantN hf rfl rfl hb33) rfl (by decide) ?_ rfl
      clear hf; intro a hf
      refine st_skip hf (wantN hf rfl rfl hb33) rfl (by decide) ?_ rfl
      clear hf; intro a hf
      refine st_skip hf (wantN hf rfl rfl hb33) rfl (by decide) ?_ rfl
      clear hf; intro a hf
      refine st_pick (v := .bool false) hf rfl rfl (fun hb' => ?_) (fun hb' => ?_) (by decide) ?_
      · exact absurd (hb33.symm.trans hb') (by decide)
      · rfl
      clear hf; intro a ha hf; clear ha
      refine st_nil hf (th_n ?_)
      exact ⟨hf.sub ⟨rfl, rfl, rfl, rfl, rfl, rfl, (by rw [hb33]; rfl), trivial⟩, hp⟩
    rintro a w ⟨hf, hp⟩
    refine st_nil hf ?_
    refine th_n ?_
    refine wp_if hf rfl (fun hb => ?_) (fun hb => ?_)
    · replace h := ifT h hb
      refine wp_skip ?_
      refine th_n ?_
      refine wp_seq ?_
      refine wp_block ?_
      refine wp_seq ?_
      obtain ⟨S34, hp35, rd36, up37, bk38⟩ := Hp.lendO hp (i := 1) rfl
      have rl39 := rd36
      have rl40 := ((hhx0_Taps.now hp).mono up37)
      have rl41 := ((hhx0_Bits.now hp).mono up37)
      obtain ⟨hc42, h⟩ := chk h
      obtain ⟨q43, hcall44, h⟩ := bnd h
      obtain ⟨hc45, h⟩ := chk h
      obtain ⟨q46, hcall47, h⟩ := bnd h
      refine wp_cutN (fun a w => Fr 90 a [(1, optr v1 0), (5, .float .f64 bb7), (7, .int .i64 q12), (8, v28), (9, .int .i64 left9), (10, .int .i64 i10), (11, .int .i64 (IntKind.i64.wrap (q43 - (64 : Int)))), (12, .int .i64 (IntKind.i64.wrap (q46 - (64 : Int))))] ∧ Hp S w0 w (Res.obj 25 v1 [.int .i64 hx0_Size, .int .i64 hx0_Pulse, .int .i64 hx0_Order, .int .i64 hx0_First, vhx0_Taps, .int .i64 hx0_Delay, .int .i64 hx0_Points, .int .i64 hx0_Blocks, vhx0_Bits] :: Res.sl Ek.c128 39 v28 l8 :: ow)) ?_ ?_
      · have hp := hp35.same (Same.drew w)
        refine dr_begin' (fun a w => Fr 90 a [(1, optr v1 0), (5, .float .f64 bb7), (7, .int .i64 q12), (8, v28), (9, .int .i64 left9), (10, .int .i64 i10), (11, .int .i64 (IntKind.i64.wrap (q43 - (64 : Int)))), (12, .int .i64 (IntKind.i64.wrap (q46 - (64 : Int))))] ∧ Hp S w0 w (Res.obj 25 v1 [.int .i64 hx0_Size, .int .i64 hx0_Pulse, .int .i64 hx0_Order, .int .i64 hx0_First, vhx0_Taps, .int .i64 hx0_Delay, .int .i64 hx0_Points, .int .i64 hx0_Blocks, vhx0_Bits] :: Res.sl Ek.c128 39 v28 l8 :: ow)) (fun w' => ∃ l, Hp S34 w w' l) [] (by kernel_rfl) ?_
        refine dr_take 0 (optr v1 4) rfl (by kernel_rfl) (by kernel_rfl) (by kernel_rfl) (by kernel_rfl) rfl rfl hf (by decide) rfl (fun w hp => ?_) ⟨_, hp⟩ ?_
        · obtain ⟨_, hp⟩ := hp
          refine st_fa (o' := 4) hf (by decide) (off := 4) (sz := 1) (by kernel_rfl) (by decide) rfl rfl (rl39.ob hp) rfl ?_
          clear hf; intro a ha hf
          exact st_nil hf (th_n ⟨ha, rfl⟩)
        clear hf; intro a hf
        refine dr_take 1 (vhx0_Taps) rfl (by kernel_rfl) (by kernel_rfl) (by kernel_rfl) (by kernel_rfl) rfl rfl hf (by decide) rfl (fun w hp => ?_) ⟨_, hp⟩ ?_
        · obtain ⟨_, hp⟩ := hp
          refine st_ldO (u := vhx0_Taps) hf (by decide) pl22 rfl rfl (rl39.ob hp) rfl ?_
          clear hf; intro a ha hf
          exact st_nil hf (th_n ⟨ha, rfl⟩)
        clear hf; intro a hf
        refine dr_take 2 (.int .i64 i10) rfl (by kernel_rfl) (by kernel_rfl) (by kernel_rfl) (by kernel_rfl) rfl rfl hf (by decide) rfl (fun w hp => ?_) ⟨_, hp⟩ ?_
        · obtain ⟨_, hp⟩ := hp
          refine st_move hf rfl rfl (by decide) ?_
          clear hf; intro a ha hf
          exact st_nil hf (th_n ⟨ha, rfl⟩)
        clear hf; intro a hf
        refine dr_take 3 (eptr vhx0_Taps i10 1) rfl (by kernel_rfl) (by kernel_rfl) (by kernel_rfl) (by kernel_rfl) rfl rfl hf (by decide) rfl (fun w hp => ?_) ⟨_, hp⟩ ?_
        · obtain ⟨_, hp⟩ := hp
          refine st_index (E := (Ek.int .i64)) hf (by decide) Try.underlying22 elt3 rfl rfl rfl (rl40.sl hp) hc42.1 hc42.2 ?_
          clear hf; intro a ha hf
          exact st_nil hf (th_n ⟨ha, rfl⟩)
        clear hf; intro a hf
        refine dr_take 4 (.int .i64 (gt hx0_Taps i10)) rfl (by kernel_rfl) (by kernel_rfl) (by kernel_rfl) (by kernel_rfl) rfl rfl hf (by decide) rfl (fun w hp => ?_) ⟨_, hp⟩ ?_
        · obtain ⟨_, hp⟩ := hp
          refine st_ldI hf (by decide) pl3 rfl rfl (rl40.sl hp) hc42.1 hc42.2 ?_
          clear hf; intro a ha hf
          exact st_nil hf (th_n ⟨ha, rfl⟩)
        clear hf; intro a hf
        refine dr_take 7 (optr v1 4) rfl (by kernel_rfl) (by kernel_rfl) (by kernel_rfl) (by kernel_rfl) rfl rfl hf (by decide) rfl (fun w hp => ?_) ⟨_, hp⟩ ?_
        · obtain ⟨_, hp⟩ := hp
          refine st_fa (o' := 4) hf (by decide) (off := 4) (sz := 1) (by kernel_rfl) (by decide) rfl rfl (rl39.ob hp) rfl ?_
          clear hf; intro a ha hf
          exact st_nil hf (th_n ⟨ha, rfl⟩)
        clear hf; intro a hf
        refine dr_take 8 (vhx0_Taps) rfl (by kernel_rfl) (by kernel_rfl) (by kernel_rfl) (by kernel_rfl) rfl rfl hf (by decide) rfl (fun w hp => ?_) ⟨_, hp⟩ ?_
        · obtain ⟨_, hp⟩ := hp
          refine st_ldO (u := vhx0_Taps) hf (by decide) pl22 rfl rfl (rl39.ob hp) rfl ?_
          clear hf; intro a ha hf
          exact st_nil hf (th_n ⟨ha, rfl⟩)
        clear hf; intro a hf
        refine dr_take 9 (.int .i64 i10) rfl (by kernel_rfl) (by kernel_rfl) (by kernel_rfl) (by kernel_rfl) rfl rfl hf (by decide) rfl (fun w hp => ?_) ⟨_, hp⟩ ?_
        · obtain ⟨_, hp⟩ := hp
          refine st_move hf rfl rfl (by decide) ?_
          clear hf; intro a ha hf
          exact st_nil hf (th_n ⟨ha, rfl⟩)
        clear hf; intro a hf
        refine dr_take 10 (.int .i64 (IntKind.i64.wrap (i10 + (1 : Int)))) rfl (by kernel_rfl) (by kernel_rfl) (by kernel_rfl) (by kernel_rfl) rfl rfl hf (by decide) rfl (fun w hp => ?_) ⟨_, hp⟩ ?_
        · obtain ⟨_, hp⟩ := hp
          refine st_iadd hf (by decide) rfl rfl rfl ?_
          clear hf; intro a ha hf
          exact st_nil hf (th_n ⟨ha, rfl⟩)
        clear hf; intro a hf
        refine dr_take 11 (eptr vhx0_Taps (IntKind.i64.wrap (i10 + (1 : Int))) 1) rfl (by kernel_rfl) (by kernel_rfl) (by kernel_rfl) (by kernel_rfl) rfl rfl hf (by decide) rfl (fun w hp => ?_) ⟨_, hp⟩ ?_
        · obtain ⟨_, hp⟩ := hp
          refine st_index (E := (Ek.int .i64)) hf (by decide) Try.underlying22 elt3 rfl rfl rfl (rl40.sl hp) hc45.1 hc45.2 ?_
          clear hf; intro a ha hf
          exact st_nil hf (th_n ⟨ha, rfl⟩)
        clear hf; intro a hf
        refine dr_take 12 (.int .i64 (gt hx0_Taps (IntKind.i64.wrap (i10 + (1 : Int))))) rfl (by kernel_rfl) (by kernel_rfl) (by kernel_rfl) (by kernel_rfl) rfl rfl hf (by decide) rfl (fun w hp => ?_) ⟨_, hp⟩ ?_
        · obtain ⟨_, hp⟩ := hp
          refine st_ldI hf (by decide) pl3 rfl rfl (rl40.sl hp) hc45.1 hc45.2 ?_
          clear hf; intro a ha hf
          exact st_nil hf (th_n ⟨ha, rfl⟩)
        clear hf; intro a hf
        refine dr_one 5 rfl (by kernel_rfl) ?_
        refine st_call hf (by decide) Try.func6 rfl rfl rfl rfl rfl (f_foghorntop_mod_c hp _ _ hcall44) ?_
        rintro _ w ⟨rfl, hp0⟩
        clear hp; have hp := hp0; clear hp0
        replace hp : Hp _ _ _ (Res.sl Ek.c128 39 v28 l8 :: ow) := hp
        refine ⟨_, rfl, ?_⟩
        clear hf; intro a hf
        refine st_nil hf (th_n ⟨fun _ _ => ⟨_, hp⟩, ?_⟩)
        refine dr_take 6 (.int .i64 (IntKind.i64.wrap (q43 - (64 : Int)))) rfl (by kernel_rfl) (by kernel_rfl) (by kernel_rfl) (by kernel_rfl) rfl rfl hf (by decide) rfl (fun w hp => ?_) ⟨_, hp⟩ ?_
        · obtain ⟨_, hp⟩ := hp
          refine st_isub hf (by decide) rfl rfl rfl ?_
          clear hf; intro a ha hf
          exact st_nil hf (th_n ⟨ha, rfl⟩)
        clear hf; intro a hf
        refine dr_one 13 rfl (by kernel_rfl) ?_
        refine st_call hf (by decide) Try.func6 rfl rfl rfl rfl rfl (f_foghorntop_mod_c hp _ _ hcall47) ?_
        rintro _ w ⟨rfl, hp0⟩
        clear hp; have hp := hp0; clear hp0
        replace hp : Hp _ _ _ (Res.sl Ek.c128 39 v28 l8 :: ow) := hp
        refine ⟨_, rfl, ?_⟩
        clear hf; intro a hf
        refine st_nil hf (th_n ⟨fun _ _ => ⟨_, hp⟩, ?_⟩)
        refine dr_take 14 (.int .i64 (IntKind.i64.wrap (q46 - (64 : Int)))) rfl (by kernel_rfl) (by kernel_rfl) (by kernel_rfl) (by kernel_rfl) rfl rfl hf (by decide) rfl (fun w hp => ?_) ⟨_, hp⟩ ?_
        · obtain ⟨_, hp⟩ := hp
          refine st_isub hf (by decide) rfl rfl rfl ?_
          clear hf; intro a ha hf
          exact st_nil hf (th_n ⟨ha, rfl⟩)
        clear hf; intro a hf
        refine dr_take 15 (.int .i64 (IntKind.i64.wrap (q43 - (64 : Int)))) rfl (by kernel_rfl) (by kernel_rfl) (by kernel_rfl) (by kernel_rfl) rfl rfl hf (by decide) rfl (fun w hp => ?_) ⟨_, hp⟩ ?_
        · obtain ⟨_, hp⟩ := hp
          refine st_assign hf rfl rfl (by decide) ?_
          clear hf; intro a ha hf
          exact st_nil hf (th_n ⟨ha, rfl⟩)
        clear hf; intro a hf
        refine dr_take 16 (.int .i64 (IntKind.i64.wrap (q46 - (64 : Int)))) rfl (by kernel_rfl) (by kernel_rfl) (by kernel_rfl) (by kernel_rfl) rfl rfl hf (by decide) rfl (fun w hp => ?_) ⟨_, hp⟩ ?_
        · obtain ⟨_, hp⟩ := hp
          refine st_assign hf rfl rfl (by decide) ?_
          clear hf; intro a ha hf
          exact st_nil hf (th_n ⟨ha, rfl⟩)
        clear hf; intro a hf
        refine dr_end (by kernel_rfl) ?_ _
        have hp := bk38 _ _ hp
        exact ⟨hf.sub ⟨rfl, rfl, rfl, rfl, rfl, rfl, rfl, rfl, trivial⟩, hp⟩
      rintro a w ⟨hf, hp⟩
      refine th_n ?_
      refine wp_seq_cut (fun a w => ∃ (ax11 : Int) (bx12 : Int), f_foghorntop_taps.j1 l8 left9 i10 ax11 bx12 = some x ∧ Fr 90 a [(1, optr v1 0), (5, .float .f64 bb7), (7, .int .i64 q12), (8, v28), (9, .int .i64 left9), (10, .int .i64 i10), (11, .int .i64 ax11), (12, .int .i64 bx12)] ∧ Hp S w0 w (Res.obj 25 v1 [.int .i64 hx0_Size, .int .i64 hx0_Pulse, .int .i64 hx0_Order, .int .i64 hx0_First, vhx0_Taps, .int .i64 hx0_Delay, .int .i64 hx0_Points, .int .i64 hx0_Blocks, vhx0_Bits] :: Res.sl Ek.c128 39 v28 l8 :: ow)) ?_ ?_
      · skip
        refine wp_seq ?_
        refine wp_reg ?_
        refine st_move hf rfl rfl (by decide) ?_
        clear hf; intro a ha hf; clear ha
        obtain ⟨q60, hcall61, h⟩ := bnd h
        refine st_call hf (by decide) Try.func11 rfl rfl rfl rfl rfl (f_foghorntop_abs_c hp _ hcall61) ?_
        rintro _ w ⟨rfl, hp0⟩
        clear hp; have hp := hp0; clear hp0
        replace hp : Hp _ _ _ (Res.obj 25 v1 [.int .i64 hx0_Size, .int .i64 hx0_Pulse, .int .i64 hx0_Order, .int .i64 hx0_First, vhx0_Taps, .int .i64 hx0_Delay, .int .i64 hx0_Points, .int .i64 hx0_Blocks, vhx0_Bits] :: Res.sl Ek.c128 39 v28 l8 :: ow) := hp
        refine ⟨_, rfl, ?_⟩
        clear hf; intro a hf
        refine st_move hf rfl rfl (by decide) ?_
        clear hf; intro a ha hf; clear ha
        obtain ⟨q62, hcall63, h⟩ := bnd h
        refine st_call hf (by decide) Try.func11 rfl rfl rfl rfl rfl (f_foghorntop_abs_c hp _ hcall63) ?_
        rintro _ w ⟨rfl, hp0⟩
        clear hp; have hp := hp0; clear hp0
        replace hp : Hp _ _ _ (Res.obj 25 v1 [.int .i64 hx0_Size, .int .i64 hx0_Pulse, .int .i64 hx0_Order, .int .i64 hx0_First, vhx0_Taps, .int .i64 hx0_Delay, .int .i64 hx0_Points, .int .i64 hx0_Blocks, vhx0_Bits] :: Res.sl Ek.c128 39 v28 l8 :: ow) := hp
        refine ⟨_, rfl, ?_⟩
        clear hf; intro a hf
        refine st_iadd hf (by decide) rfl rfl rfl ?_
        clear hf; intro a ha hf; clear ha
        refine st_move hf rfl rfl (by decide) ?_
        clear hf; intro a ha hf; clear ha
        refine st_igtr hf (by decide) rfl rfl rfl ?_
        clear hf; intro a ha hf; clear ha
        refine st_nil hf ?_
        refine th_n ?_
        refine wp_if hf rfl (fun hb => ?_) (fun hb => ?_)
        · replace h := ifT h hb
          refine wp_reg ?_
          refine st_assign hf rfl rfl (by decide) ?_
          clear hf; intro a ha hf; clear ha
          refine st_assign hf rfl rfl (by decide) ?_
          clear hf; intro a ha hf; clear ha
          refine st_nil hf ?_
          refine th_n ?_
          exact ⟨_, _, h, hf.sub ⟨rfl, rfl, rfl, rfl, rfl, rfl, rfl, rfl, trivial⟩, hp⟩
        replace h := ifF h hb
        refine wp_skip ?_
        refine th_n ?_
        exact ⟨_, _, h, hf.sub ⟨rfl, rfl, rfl, rfl, rfl, rfl, rfl, rfl, trivial⟩, hp⟩
      rintro a w ⟨ax11, bx12, h, hf, hp⟩
      unfold f_foghorntop_taps.j1 at h
      refine wp_seq ?_
      refine wp_reg ?_
      refine st_move hf rfl rfl (by decide) ?_
      clear hf; intro a ha hf; clear ha
      refine st_move hf rfl rfl (by decide) ?_
      clear hf; intro a ha hf; clear ha
      obtain ⟨q48, hcall49, h⟩ := bnd h
      refine st_call hf (by decide) Try.func11 rfl rfl rfl rfl rfl (f_foghorntop_abs_c hp _ hcall49) ?_
      rintro _ w ⟨rfl, hp0⟩
      clear hp; have hp := hp0; clear hp0
      replace hp : Hp _ _ _ (Res.obj 25 v1 [.int .i64 hx0_Size, .int .i64 hx0_Pulse, .int .i64 hx0_Order, .int .i64 hx0_First, vhx0_Taps, .int .i64 hx0_Delay, .int .i64 hx0_Points, .int .i64 hx0_Blocks, vhx0_Bits] :: Res.sl Ek.c128 39 v28 l8 :: ow) := hp
      refine ⟨_, rfl, ?_⟩
      clear hf; intro a hf
      refine st_isub hf (by decide) rfl rfl rfl ?_
      clear hf; intro a ha hf; clear ha
      refine st_move hf rfl rfl (by decide) ?_
      clear hf; intro a ha hf; clear ha
      obtain ⟨q50, hcall51, h⟩ := bnd h
      refine st_call hf (by decide) Try.func11 rfl rfl rfl rfl rfl (f_foghorntop_abs_c hp _ hcall51) ?_
      rintro _ w ⟨rfl, hp0⟩
      clear hp; have hp := hp0; clear hp0
      replace hp : Hp _ _ _ (Res.obj 25 v1 [.int .i64 hx0_Size, .int .i64 hx0_Pulse, .int .i64 hx0_Order, .int .i64 hx0_First, vhx0_Taps, .int .i64 hx0_Delay, .int .i64 hx0_Points, .int .i64 hx0_Blocks, vhx0_Bits] :: Res.sl Ek.c128 39 v28 l8 :: ow) := hp
      refine ⟨_, rfl, ?_⟩
      clear hf; intro a hf
      refine st_isub hf (by decide) rfl rfl rfl ?_
      clear hf; intro a ha hf; clear ha
      refine st_assign hf rfl rfl (by decide) ?_
      clear hf; intro a ha hf; clear ha
      refine st_nil hf ?_
      refine th_n ?_
      refine wp_reg ?_
      refine st_move hf rfl rfl (by decide) ?_
      clear hf; intro a ha hf; clear ha
      refine st_move hf rfl rfl (by decide) ?_
      clear hf; intro a ha hf; clear ha
      refine st_conv_if Try.underlying3 Try.underlying33 hf (by decide) rfl rfl ?_
      clear hf; intro a ha hf; clear ha
      refine st_farith (op := .quo) rfl hf (by decide) hp rfl rfl rfl (show Fl.rep (FloatKind.f64.nearest ax11) (fofi ax11) from rfl) (show Fl.rep 4634204016564240384 (Fl.bits 4634204016564240384) from rfl) ?_
      clear hf; intro a w bb52 y53 hf hp0; clear hp; have hp := hp0; clear hp0
      replace hp : Hp _ _ _ (Res.obj 25 v1 [.int .i64 hx0_Size, .int .i64 hx0_Pulse, .int .i64 hx0_Order, .int .i64 hx0_First, vhx0_Taps, .int .i64 hx0_Delay, .int .i64 hx0_Points, .int .i64 hx0_Blocks, vhx0_Bits] :: Res.sl Ek.c128 39 v28 l8 :: ow) := hp
      refine st_move hf rfl rfl (by decide) ?_
      clear hf; intro a ha hf; clear ha
      refine st_conv_if Try.underlying3 Try.underlying33 hf (by decide) rfl rfl ?_
      clear hf; intro a ha hf; clear ha
      refine st_farith (op := .quo) rfl hf (by decide) hp rfl rfl rfl (show Fl.rep (FloatKind.f64.nearest bx12) (fofi bx12) from rfl) (show Fl.rep 4634204016564240384 (Fl.bits 4634204016564240384) from rfl) ?_
      clear hf; intro a w bb54 y55 hf hp0; clear hp; have hp := hp0; clear hp0
      replace hp : Hp _ _ _ (Res.obj 25 v1 [.int .i64 hx0_Size, .int .i64 hx0_Pulse, .int .i64 hx0_Order, .int .i64 hx0_First, vhx0_Taps, .int .i64 hx0_Delay, .int .i64 hx0_Points, .int .i64 hx0_Blocks, vhx0_Bits] :: Res.sl Ek.c128 39 v28 l8 :: ow) := hp
      refine st_complex hf (by decide) rfl rfl rfl ?_
      clear hf; intro a ha hf; clear ha
      refine st_build (E := Ek.c128) (xs := [((fquo (fofi ax11) (Fl.bits 4634204016564240384)), (fquo (fofi bx12) (Fl.bits 4634204016564240384)))]) hf (by decide) elt39 Try.underlying32 hp (vals := #[(0, .complex .f64 bb52 bb54)]) (cells := #[.complex .f64 bb52 bb54]) rfl (by simp [hf.ev (x := (Operand.tmp 84)) rfl]) (Nat.le_of_ble_eq_true rfl) (Nat.le_of_ble_eq_true rfl) (z := .complex .f64 0 0) (by kernel_rfl) (by kernel_rfl) rfl (reps_cons (cs := [.complex .f64 bb52 bb54]) (show Ek.c128.rep [.complex .f64 bb52 bb54] ((fquo (fofi ax11) (Fl.bits 4634204016564240384)), (fquo (fofi bx12) (Fl.bits 4634204016564240384))) from ⟨_, _, rfl, y53, y55⟩) (reps_nil _)) ?_
      clear hf; intro a w v56 hf hp0; clear hp; have hp := hp0; clear hp0
      replace hp : Hp _ _ _ (Res.sl Ek.c128 39 v56 ([((fquo (fofi ax11) (Fl.bits 4634204016564240384)), (fquo (fofi bx12) (Fl.bits 4634204016564240384)))]) :: Res.obj 25 v1 [.int .i64 hx0_Size, .int .i64 hx0_Pulse, .int .i64 hx0_Order, .int .i64 hx0_First, vhx0_Taps, .int .i64 hx0_Delay, .int .i64 hx0_Points, .int .i64 hx0_Blocks, vhx0_Bits] :: Res.sl Ek.c128 39 v28 l8 :: ow) := hp
      obtain ⟨hc58, h⟩ := chk h
      refine st_append (E := Ek.c128) hf (by decide) elt39 Try.underlying32 (by decide) hp (i := 2) rfl rfl rfl rfl (hp.sl (i := 0) rfl) hc58 ?_
      clear hf; intro a w v59 hf hp0; clear hp; have hp := hp0; clear hp0
      replace hp : Hp _ _ _ (Res.sl Ek.c128 39 v56 ([((fquo (fofi ax11) (Fl.bits 4634204016564240384)), (fquo (fofi bx12) (Fl.bits 4634204016564240384)))]) :: Res.obj 25 v1 [.int .i64 hx0_Size, .int .i64 hx0_Pulse, .int .i64 hx0_Order, .int .i64 hx0_First, vhx0_Taps, .int .i64 hx0_Delay, .int .i64 hx0_Points, .int .i64 hx0_Blocks, vhx0_Bits] :: Res.sl Ek.c128 39 v59 (l8 ++ [((fquo (fofi ax11) (Fl.bits 4634204016564240384)), (fquo (fofi bx12) (Fl.bits 4634204016564240384)))]) :: ow) := hp
      refine st_assign hf rfl rfl (by decide) ?_
      clear hf; intro a ha hf; clear ha
      refine st_nil hf ?_
      refine ib_n ?_
      refine th_n ?_
      refine wp_reg ?_
      refine st_move hf rfl rfl (by decide) ?_
      clear hf; intro a ha hf; clear ha
      refine st_iadd hf (by decide) rfl rfl rfl ?_
      clear hf; intro a ha hf; clear ha
      refine st_assign hf rfl rfl (by decide) ?_
      clear hf; intro a ha hf; clear ha
      refine st_nil hf ?_
      obtain rfl := Option.some.inj h
      have hp : Hp _ _ _ (Res.sl Ek.c128 39 v59 (l8 ++ [((fquo (fofi ax11) (Fl.bits 4634204016564240384)), (fquo (fofi bx12) (Fl.bits 4634204016564240384)))]) :: Res.obj 25 v1 [.int .i64 hx0_Size, .int .i64 hx0_Pulse, .int .i64 hx0_Order, .int .i64 hx0_First, vhx0_Taps, .int .i64 hx0_Delay, .int .i64 hx0_Points, .int .i64 hx0_Blocks, vhx0_Bits] :: ow) := Hp.sel (pre := [Res.sl Ek.c128 39 v56 ([((fquo (fofi ax11) (Fl.bits 4634204016564240384)), (fquo (fofi bx12) (Fl.bits 4634204016564240384)))]), Res.obj 25 v1 [.int .i64 hx0_Size, .int .i64 hx0_Pulse, .int .i64 hx0_Order, .int .i64 hx0_First, vhx0_Taps, .int .i64 hx0_Delay, .int .i64 hx0_Points, .int .i64 hx0_Blocks, vhx0_Bits], Res.sl Ek.c128 39 v59 (l8 ++ [((fquo (fofi ax11) (Fl.bits 4634204016564240384)), (fquo (fofi bx12) (Fl.bits 4634204016564240384)))])]) (tail := ow) (rs' := [Res.sl Ek.c128 39 v59 (l8 ++ [((fquo (fofi ax11) (Fl.bits 4634204016564240384)), (fquo (fofi bx12) (Fl.bits 4634204016564240384)))]), Res.obj 25 v1 [.int .i64 hx0_Size, .int .i64 hx0_Pulse, .int .i64 hx0_Order, .int .i64 hx0_First, vhx0_Taps, .int .i64 hx0_Delay, .int .i64 hx0_Points, .int .i64 hx0_Blocks, vhx0_Bits]]) hp [2, 1] (by decide) (by simp) rfl
      exact rnd_l ⟨_, hf.sub ⟨rfl, rfl, rfl, rfl, rfl, rfl, trivial⟩, hp⟩
    replace h := ifF h hb
    refine wp_exit ?_
    refine th_e ?_
    obtain rfl := Option.some.inj h
    have hp : Hp _ _ _ (Res.sl Ek.c128 39 v28 l8 :: ow) := Hp.sel (pre := [Res.sl Ek.c128 39 v28 l8, Res.obj 25 v1 [.int .i64 hx0_Size, .int .i64 hx0_Pulse, .int .i64 hx0_Order, .int .i64 hx0_First, vhx0_Taps, .int .i64 hx0_Delay, .int .i64 hx0_Points, .int .i64 hx0_Blocks, vhx0_Bits]]) (tail := ow) (rs' := [Res.sl Ek.c128 39 v28 l8]) hp [0] (by decide) (by simp) rfl
    exact rnd_r (by simp) ⟨rfl, _, hf.sub ⟨rfl, rfl, rfl, trivial⟩, hp⟩
  clear hl hf hp
  intro e a w hne hO
  obtain ⟨rfl, v30, hf, hp⟩ := hO
  refine ib_same ?_
  refine th_n ?_
  refine wp_seq ?_
  refine wp_reg ?_
  refine st_move hf rfl rfl (by decide) ?_
  clear hf; intro a ha hf; clear ha
  refine st_move hf rfl rfl (by decide) ?_
  clear hf; intro a ha hf; clear ha
  refine st_move hf rfl rfl (by decide) ?_
  clear hf; intro a ha hf; clear ha
  refine st_assign hf rfl rfl (by decide) ?_
  clear hf; intro a ha hf; clear ha
  refine st_assign hf rfl rfl (by decide) ?_
  clear hf; intro a ha hf; clear ha
  refine st_assign hf rfl rfl (by decide) ?_
  clear hf; intro a ha hf; clear ha
  refine st_nil hf ?_
  refine th_n ?_
  refine wp_ret ?_
  obtain rfl := Option.some.inj h
  exact ⟨rfl, ⟨_, _, hf.sub ⟨rfl, rfl, rfl, trivial⟩, y8, hp⟩⟩

noncomputable def f_points_square  : Option Unit := (some ())
theorem f_points_square_c {S : Nat → Prop} {w0 w : World} {ow : List Res} (hp : Hp S w0 w ow) {r : Unit} (h : f_points_square = some r) :
    Calls Try.prog 34 #[.int .i64 (2 : Int), .int .i64 (1 : Int)] w (fun e w' => ∃ (u0 : Value) (u1 : Value) (u2 : Value), e = .returned (.agg #[.int .i64 (2 : Int), .int .i64 (1 : Int), .func (.func 53) #[] #[optr u0 0, optr u2 0]]) ∧ Hp S w0 w' (Res.obj 3 u0 [.int .i64 (2 : Int)] :: Res.obj 3 u1 [.int .i64 (1 : Int)] :: Res.obj 108 u2 [.func (.func 51) #[] #[optr u1 0]] :: ow)) := by
  unfold f_points_square at h
  refine enter (n := 11) (args := [.int .i64 (2 : Int), .int .i64 (1 : Int)]) Try.func34 rfl rfl (Nat.le_of_ble_eq_true rfl) fun a hf => ?_
  replace hf : Fr 11 a [(0, .int .i64 (2 : Int)), (1, .int .i64 (1 : Int))] := hf
  refine wp_mono (Q := fun e a w => e = .ret ∧ ∃ (u0 : Value) (u1 : Value) (u2 : Value) (c0 : Value), Fr 11 a [(4, optr c0 0)] ∧ Hp S w0 w (Res.obj 71 c0 [.int .i64 (2 : Int), .int .i64 (1 : Int), .func (.func 53) #[] #[optr u0 0, optr u2 0]] :: Res.obj 3 u0 [.int .i64 (2 : Int)] :: Res.obj 3 u1 [.int .i64 (1 : Int)] :: Res.obj 108 u2 [.func (.func 51) #[] #[optr u1 0]] :: ow)) ?_ ?_
  rotate_left
  · rintro e a w ⟨rfl, x0, x1, x2, c0, hf, hp⟩
    exact retG1 hf rfl ⟨_, _, rfl, hp.ob (i := 0) rfl, .inr ⟨by kernel_rfl, rfl⟩⟩ ⟨x0, x1, x2, rfl, hp.drop⟩
  refine wp_seq ?_
  refine wp_reg ?_
  refine st_boxO (cs := [.int .i64 (2 : Int)]) hf (by decide) hp rfl rfl rfl ?_
  clear hf; intro a w v1 hf hp0; clear hp; have hp := hp0; clear hp0
  replace hp : Hp _ _ _ (Res.obj 3 v1 [.int .i64 (2 : Int)] :: ow) := hp
  refine st_boxO (cs := [.int .i64 (1 : Int)]) hf (by decide) hp rfl rfl rfl ?_
  clear hf; intro a w v3 hf hp0; clear hp; have hp := hp0; clear hp0
  replace hp : Hp _ _ _ (Res.obj 3 v3 [.int .i64 (1 : Int)] :: Res.obj 3 v1 [.int .i64 (2 : Int)] :: ow) := hp
  refine st_alloc (cs := [.int .i64 (0 : Int), .int .i64 (0 : Int), .nilFunc]) (zv := .agg #[.int .i64 (0 : Int), .int .i64 (0 : Int), .nilFunc]) hf (by decide) (by kernel_rfl) rfl hp rfl ?_
  clear hf; intro a w v5 hf hp0; clear hp; have hp := hp0; clear hp0
  replace hp : Hp _ _ _ (Res.obj 71 v5 [.int .i64 (0 : Int), .int .i64 (0 : Int), .nilFunc] :: Res.obj 3 v3 [.int .i64 (1 : Int)] :: Res.obj 3 v1 [.int .i64 (2 : Int)] :: ow) := hp
  refine st_nil hf ?_
  refine th_n ?_
  refine wp_seq ?_
  refine wp_reg ?_
  refine st_makeFunc1 hf (by decide) rfl rfl ?_
  clear hf; intro a ha hf; clear ha
  refine st_alloc (cs := [.nilFunc]) (zv := .nilFunc) hf (by decide) (by kernel_rfl) rfl hp rfl ?_
  clear hf; intro a w v7 hf hp0; clear hp; have hp := hp0; clear hp0
  replace hp : Hp _ _ _ (Res.obj 108 v7 [.nilFunc] :: Res.obj 71 v5 [.int .i64 (0 : Int), .int .i64 (0 : Int), .nilFunc] :: Res.obj 3 v3 [.int .i64 (1 : Int)] :: Res.obj 3 v1 [.int .i64 (2 : Int)] :: ow) := hp
  refine st_stO (us := [.func (.func 51) #[] #[optr v3 0]]) hf hp (i := 0) rfl rfl rfl rfl rfl (by rfl) (by kernel_rfl) (Nat.le_of_ble_eq_true rfl) ?_
  clear hf; intro a w hf hp0; clear hp; have hp := hp0; clear hp0
  replace hp : Hp _ _ _ (Res.obj 108 v7 [.func (.func 51) #[] #[optr v3 0]] :: Res.obj 71 v5 [.int .i64 (0 : Int), .int .i64 (0 : Int), .nilFunc] :: Res.obj 3 v3 [.int .i64 (1 : Int)] :: Res.obj 3 v1 [.int .i64 (2 : Int)] :: ow) := hp
  refine st_nil hf ?_
  refine th_n ?_
  refine wp_seq ?_
  refine wp_reg ?_
  refine st_ldO (u := .int .i64 (2 : Int)) hf (by decide) pl3 rfl rfl (hp.ob (i := 3) rfl) rfl ?_
  clear hf; intro a ha hf; clear ha
  refine st_ldO (u := .int .i64 (1 : Int)) hf (by decide) pl3 rfl rfl (hp.ob (i := 2) rfl) rfl ?_
  clear hf; intro a ha hf; clear ha
  refine st_makeFunc2 hf (by decide) rfl rfl rfl ?_
  clear hf; intro a ha hf; clear ha
  refine st_buildA (vals := [(0, .int .i64 (2 : Int)), (1, .int .i64 (1 : Int)), (2, .func (.func 53) #[] #[optr v1 0, optr v7 0])]) (cells := [.int .i64 (2 : Int), .int .i64 (1 : Int), .func (.func 53) #[] #[optr v1 0, optr v7 0]]) hf (by decide) rfl (by simp [hf.ev (x := (Operand.tmp 7)) rfl, hf.ev (x := (Operand.tmp 8)) rfl, hf.ev (x := (Operand.tmp 9)) rfl]) (fun w => by kernel_rfl) ?_
  clear hf; intro a ha hf; clear ha
  refine st_stO (us := [.int .i64 (2 : Int), .int .i64 (1 : Int), .func (.func 53) #[] #[optr v1 0, optr v7 0]]) hf hp (i := 1) rfl rfl rfl rfl rfl (by rfl) (by kernel_rfl) (Nat.le_of_ble_eq_true rfl) ?_
  clear hf; intro a w hf hp0; clear hp; have hp := hp0; clear hp0
  replace hp : Hp _ _ _ (Res.obj 108 v7 [.func (.func 51) #[] #[optr v3 0]] :: Res.obj 71 v5 [.int .i64 (2 : Int), .int .i64 (1 : Int), .func (.func 53) #[] #[optr v1 0, optr v7 0]] :: Res.obj 3 v3 [.int .i64 (1 : Int)] :: Res.obj 3 v1 [.int .i64 (2 : Int)] :: ow) := hp
  refine st_nil hf ?_
  refine th_n ?_
  refine wp_ret ?_
  obtain rfl := Option.some.inj h
  have hp : Hp _ _ _ (Res.obj 71 v5 [.int .i64 (2 : Int), .int .i64 (1 : Int), .func (.func 53) #[] #[optr v1 0, optr v7 0]] :: Res.obj 3 v1 [.int .i64 (2 : Int)] :: Res.obj 3 v3 [.int .i64 (1 : Int)] :: Res.obj 108 v7 [.func (.func 51) #[] #[optr v3 0]] :: ow) := Hp.sel (pre := [Res.obj 108 v7 [.func (.func 51) #[] #[optr v3 0]], Res.obj 71 v5 [.int .i64 (2 : Int), .int .i64 (1 : Int), .func (.func 53) #[] #[optr v1 0, optr v7 0]], Res.obj 3 v3 [.int .i64 (1 : Int)], Res.obj 3 v1 [.int .i64 (2 : Int)]]) (tail := ow) (rs' := [Res.obj 71 v5 [.int .i64 (2 : Int), .int .i64 (1 : Int), .func (.func 53) #[] #[optr v1 0, optr v7 0]], Res.obj 3 v1 [.int .i64 (2 : Int)], Res.obj 3 v3 [.int .i64 (1 : Int)], Res.obj 108 v7 [.func (.func 51) #[] #[optr v3 0]]]) hp [1, 3, 2, 0] (by decide) (by simp) rfl
  exact ⟨rfl, ⟨_, _, _, _, hf.sub ⟨rfl, trivial⟩, hp⟩⟩

noncomputable def f_points_of  : Option (Unit × Bool) := ((f_points_square).bind fun q3 => (some ((), true)))
theorem f_points_of_c {S : Nat → Prop} {w0 w : World} {ow : List Res} (hp : Hp S w0 w ow) {r : (Unit × Bool)} (h : f_points_of = some r) :
    Calls Try.prog 19 #[.int .i64 (4 : Int)] w (fun e w' => ∃ (u0 : Value) (u1 : Value) (u2 : Value), e = .returned (.tuple #[.agg #[.int .i64 (2 : Int), .int .i64 (1 : Int), .func (.func 53) #[] #[optr u0 0, optr u2 0]], .bool r.2]) ∧ Hp S w0 w' (Res.obj 3 u0 [.int .i64 (2 : Int)] :: Res.obj 3 u1 [.int .i64 (1 : Int)] :: Res.obj 108 u2 [.func (.func 51) #[] #[optr u1 0]] :: ow)) := by
  unfold f_points_of at h
  refine enter (n := 24) (args := [.int .i64 (4 : Int)]) Try.func19 rfl rfl (Nat.le_of_ble_eq_true rfl) fun a hf => ?_
  replace hf : Fr 24 a [(0, .int .i64 (4 : Int))] := hf
  refine wp_mono (Q := fun e a w => e = .ret ∧ ∃ (u0 : Value) (u1 : Value) (u2 : Value) (c0 : Value), Fr 24 a [(2, optr c0 0), (3, .bool r.2)] ∧ Hp S w0 w (Res.obj 71 c0 [.int .i64 (2 : Int), .int .i64 (1 : Int), .func (.func 53) #[] #[optr u0 0, optr u2 0]] :: Res.obj 3 u0 [.int .i64 (2 : Int)] :: Res.obj 3 u1 [.int .i64 (1 : Int)] :: Res.obj 108 u2 [.func (.func 51) #[] #[optr u1 0]] :: ow)) ?_ ?_
  rotate_left
  · rintro e a w ⟨rfl, x0, x1, x2, c0, hf, hp⟩
    exact retG2 hf rfl ⟨_, _, rfl, hp.ob (i := 0) rfl, .inr ⟨by kernel_rfl, rfl⟩⟩ rfl ⟨x0, x1, x2, rfl, hp.drop⟩
  refine wp_seq ?_
  refine wp_reg ?_
  refine st_alloc (cs := [.int .i64 (0 : Int), .int .i64 (0 : Int), .nilFunc]) (zv := .agg #[.int .i64 (0 : Int), .int .i64 (0 : Int), .nilFunc]) hf (by decide) (by kernel_rfl) rfl hp rfl ?_
  clear hf; intro a w v1 hf hp0; clear hp; have hp := hp0; clear hp0
  replace hp : Hp _ _ _ (Res.obj 71 v1 [.int .i64 (0 : Int), .int .i64 (0 : Int), .nilFunc] :: ow) := hp
  refine st_assign hf rfl rfl (by decide) ?_
  clear hf; intro a ha hf; clear ha
  refine st_nil hf ?_
  refine th_n ?_
  refine wp_seq ?_
  refine wp_seq ?_
  refine wp_reg ?_
  refine st_move hf rfl rfl (by decide) ?_
  clear hf; intro a ha hf; clear ha
  refine st_nil hf ?_
  refine th_n ?_
  refine wp_block ?_
  refine wp_seq ?_
  refine wp_reg ?_
  refine st_ieql hf (by decide) rfl rfl rfl ?_
  clear hf; intro a ha hf; clear ha
  replace hf : Fr _ _ ((6, .bool true) :: _) := hf
  refine st_assign hf rfl rfl (by decide) ?_
  clear hf; intro a ha hf; clear ha
  refine st_nil hf ?_
  refine th_n ?_
  refine wp_if hf rfl (fun hb => ?_) (fun hb => ?_)
  rotate_left
  · exact absurd hb (by decide)
  refine wp_seq ?_
  refine wp_reg ?_
  obtain ⟨q3, hcall4, h⟩ := bnd h
  refine st_call hf (by decide) Try.func34 rfl rfl rfl rfl rfl (f_points_square_c hp  hcall4) ?_
  rintro _ w ⟨v5, v6, v7, rfl, hp0⟩
  clear hp; have hp := hp0; clear hp0
  replace hp : Hp _ _ _ (Res.obj 3 v5 [.int .i64 (2 : Int)] :: Res.obj 3 v6 [.int .i64 (1 : Int)] :: Res.obj 108 v7 [.func (.func 51) #[] #[optr v6 0]] :: Res.obj 71 v1 [.int .i64 (0 : Int), .int .i64 (0 : Int), .nilFunc] :: ow) := hp
  refine ⟨_, rfl, ?_⟩
  clear hf; intro a hf
  refine st_stO (us := [.int .i64 (2 : Int), .int .i64 (1 : Int), .func (.func 53) #[] #[optr v5 0, optr v7 0]]) hf hp (i := 3) rfl rfl rfl rfl rfl (by rfl) (by kernel_rfl) (Nat.le_of_ble_eq_true rfl) ?_
  clear hf; intro a w hf hp0; clear hp; have hp := hp0; clear hp0
  replace hp : Hp _ _ _ (Res.obj 3 v5 [.int .i64 (2 : Int)] :: Res.obj 3 v6 [.int .i64 (1 : Int)] :: Res.obj 108 v7 [.func (.func 51) #[] #[optr v6 0]] :: Res.obj 71 v1 [.int .i64 (2 : Int), .int .i64 (1 : Int), .func (.func 53) #[] #[optr v5 0, optr v7 0]] :: ow) := hp
  refine st_assign hf rfl rfl (by decide) ?_
  clear hf; intro a ha hf; clear ha
  refine st_nil hf ?_
  refine th_n ?_
  refine wp_ret ?_
  refine ib_r ?_
  refine th_r ?_
  obtain rfl := Option.some.inj h
  have hp : Hp _ _ _ (Res.obj 71 v1 [.int .i64 (2 : Int), .int .i64 (1 : Int), .func (.func 53) #[] #[optr v5 0, optr v7 0]] :: Res.obj 3 v5 [.int .i64 (2 : Int)] :: Res.obj 3 v6 [.int .i64 (1 : Int)] :: Res.obj 108 v7 [.func (.func 51) #[] #[optr v6 0]] :: ow) := Hp.sel (pre := [Res.obj 3 v5 [.int .i64 (2 : Int)], Res.obj 3 v6 [.int .i64 (1 : Int)], Res.obj 108 v7 [.func (.func 51) #[] #[optr v6 0]], Res.obj 71 v1 [.int .i64 (2 : Int), .int .i64 (1 : Int), .func (.func 53) #[] #[optr v5 0, optr v7 0]]]) (tail := ow) (rs' := [Res.obj 71 v1 [.int .i64 (2 : Int), .int .i64 (1 : Int), .func (.func 53) #[] #[optr v5 0, optr v7 0]], Res.obj 3 v5 [.int .i64 (2 : Int)], Res.obj 3 v6 [.int .i64 (1 : Int)], Res.obj 108 v7 [.func (.func 51) #[] #[optr v6 0]]]) hp [3, 0, 1, 2] (by decide) (by simp) rfl
  exact ⟨rfl, ⟨_, _, _, _, hf.sub ⟨rfl, rfl, trivial⟩, hp⟩⟩

noncomputable def f_points_Edge  : Option (Int × Int) := ((f_points_of).bind fun q1 => (if (!q1.2) = true then (some ((0 : Int), (1 : Int))) else (some ((1 : Int), (0 : Int)))))
theorem f_points_Edge_c {S : Nat → Prop} {w0 w : World} {ow : List Res} (hp : Hp S w0 w ow) {r : (Int × Int)} (h : f_points_Edge = some r) :
    Calls Try.prog 44 #[.int .i64 (4 : Int)] w (fun e w' => e = .returned (.tuple #[.int .i64 r.1, .int .i64 r.2]) ∧ Hp S w0 w' (ow)) := by
  unfold f_points_Edge at h
  refine enter (n := 15) (args := [.int .i64 (4 : Int)]) Try.func44 rfl rfl (Nat.le_of_ble_eq_true rfl) fun a hf => ?_
  replace hf : Fr 15 a [(0, .int .i64 (4 : Int))] := hf
  refine wp_mono (Q := fun e a w => e = .ret ∧ Fr 15 a [(2, .int .i64 r.1), (3, .int .i64 r.2)] ∧ Hp S w0 w (ow)) ?_ ?_
  rotate_left
  · rintro e a w ⟨rfl, hf, hp⟩
    exact ret2 hf rfl rfl rfl ⟨rfl, hp⟩
  refine wp_seq ?_
  refine wp_reg ?_
  refine st_assign hf rfl rfl (by decide) ?_
  clear hf; intro a ha hf; clear ha
  refine st_assign hf rfl rfl (by decide) ?_
  clear hf; intro a ha hf; clear ha
  refine st_nil hf ?_
  refine th_n ?_
  refine wp_seq ?_
  refine wp_reg ?_
  refine st_move hf rfl rfl (by decide) ?_
  clear hf; intro a ha hf; clear ha
  obtain ⟨q1, hcall2, h⟩ := bnd h
  refine st_call hf (by decide) Try.func19 rfl rfl rfl rfl rfl (f_points_of_c hp  hcall2) ?_
  rintro _ w ⟨v3, v4, v5, rfl, hp0⟩
  clear hp; have hp := hp0; clear hp0
  replace hp : Hp _ _ _ (Res.obj 3 v3 [.int .i64 (2 : Int)] :: Res.obj 3 v4 [.int .i64 (1 : Int)] :: Res.obj 108 v5 [.func (.func 51) #[] #[optr v4 0]] :: ow) := hp
  refine ⟨_, rfl, ?_⟩
  clear hf; intro a hf
  refine st_move hf rfl rfl (by decide) ?_
  clear hf; intro a ha hf; clear ha
  refine st_extract hf (by decide) rfl rfl rfl ?_
  clear hf; intro a ha hf; clear ha
  refine st_extract hf (by decide) rfl rfl rfl ?_
  clear hf; intro a ha hf; clear ha
  refine st_alloc (cs := [.int .i64 (0 : Int), .int .i64 (0 : Int), .nilFunc]) (zv := .agg #[.int .i64 (0 : Int), .int .i64 (0 : Int), .nilFunc]) hf (by decide) (by kernel_rfl) rfl hp rfl ?_
  clear hf; intro a w v9 hf hp0; clear hp; have hp := hp0; clear hp0
  replace hp : Hp _ _ _ (Res.obj 71 v9 [.int .i64 (0 : Int), .int .i64 (0 : Int), .nilFunc] :: Res.obj 3 v3 [.int .i64 (2 : Int)] :: Res.obj 3 v4 [.int .i64 (1 : Int)] :: Res.obj 108 v5 [.func (.func 51) #[] #[optr v4 0]] :: ow) := hp
  refine st_stO (us := [.int .i64 (2 : Int), .int .i64 (1 : Int), .func (.func 53) #[] #[optr v3 0, optr v5 0]]) hf hp (i := 0) rfl rfl rfl rfl rfl (by rfl) (by kernel_rfl) (Nat.le_of_ble_eq_true rfl) ?_
  clear hf; intro a w hf hp0; clear hp; have hp := hp0; clear hp0
  replace hp : Hp _ _ _ (Res.obj 71 v9 [.int .i64 (2 : Int), .int .i64 (1 : Int), .func (.func 53) #[] #[optr v3 0, optr v5 0]] :: Res.obj 3 v3 [.int .i64 (2 : Int)] :: Res.obj 3 v4 [.int .i64 (1 : Int)] :: Res.obj 108 v5 [.func (.func 51) #[] #[optr v4 0]] :: ow) := hp
  refine st_assign hf rfl rfl (by decide) ?_
  clear hf; intro a ha hf; clear ha
  refine st_nil hf ?_
  refine th_n ?_
  refine wp_seq ?_
  refine wp_seq ?_
  refine wp_reg ?_
  refine st_move hf rfl rfl (by decide) ?_
  clear hf; intro a ha hf; clear ha
  refine st_not hf (by decide) rfl rfl ?_
  clear hf; intro a ha hf; clear ha
  refine st_nil hf ?_
  refine th_n ?_
  refine wp_if hf rfl (fun hb => ?_) (fun hb => ?_)
  · replace h := ifT h hb
    refine wp_seq ?_
    refine wp_reg ?_
    refine st_assign hf rfl rfl (by decide) ?_
    clear hf; intro a ha hf; clear ha
    refine st_assign hf rfl rfl (by decide) ?_
    clear hf; intro a ha hf; clear ha
    refine st_nil hf ?_
    refine th_n ?_
    refine wp_ret ?_
    refine th_r ?_
    obtain rfl := Option.some.inj h
    have hp : Hp _ _ _ (ow) := Hp.sel (pre := [Res.obj 71 v9 [.int .i64 (2 : Int), .int .i64 (1 : Int), .func (.func 53) #[] #[optr v3 0, optr v5 0]], Res.obj 3 v3 [.int .i64 (2 : Int)], Res.obj 3 v4 [.int .i64 (1 : Int)], Res.obj 108 v5 [.func (.func 51) #[] #[optr v4 0]]]) (tail := ow) (rs' := []) hp [] (by decide) (by simp) rfl
    exact ⟨rfl, ⟨hf.sub ⟨rfl, rfl, trivial⟩, hp⟩⟩
  replace h := ifF h hb
  refine wp_skip ?_
  refine th_n ?_
  refine wp_seq ?_
  refine wp_reg ?_
  refine st_fa (o' := 1) hf (by decide) (off := 1) (sz := 1) (by kernel_rfl) (by decide) rfl rfl (hp.ob (i := 0) rfl) rfl ?_
  clear hf; intro a ha hf; clear ha
  refine st_ldO (u := .int .i64 (1 : Int)) hf (by decide) pl3 rfl rfl (hp.ob (i := 0) rfl) rfl ?_
  clear hf; intro a ha hf; clear ha
  refine st_assign hf rfl rfl (by decide) ?_
  clear hf; intro a ha hf; clear ha
  refine st_assign hf rfl rfl (by decide) ?_
  clear hf; intro a ha hf; clear ha
  refine st_nil hf ?_
  refine th_n ?_
  refine wp_ret ?_
  obtain rfl := Option.some.inj h
  have hp : Hp _ _ _ (ow) := Hp.sel (pre := [Res.obj 71 v9 [.int .i64 (2 : Int), .int .i64 (1 : Int), .func (.func 53) #[] #[optr v3 0, optr v5 0]], Res.obj 3 v3 [.int .i64 (2 : Int)], Res.obj 3 v4 [.int .i64 (1 : Int)], Res.obj 108 v5 [.func (.func 51) #[] #[optr v4 0]]]) (tail := ow) (rs' := []) hp [] (by decide) (by simp) rfl
  exact ⟨rfl, ⟨hf.sub ⟨rfl, rfl, trivial⟩, hp⟩⟩

noncomputable def f_math_Abs (xx0 : Fl) : Option Fl := ((fbits xx0).bind fun q1 => (some (Fl.bits ((iandn .u64 q1 (9223372036854775808 : Int))).toNat)))
theorem f_math_Abs_c {S : Nat → Prop} {w0 w : World} {ow : List Res} (hp : Hp S w0 w ow) (bxx0 : Nat) (xx0 : Fl) (hxx0 : xx0.rep bxx0) {r : Fl} (h : f_math_Abs xx0 = some r) :
    Calls Try.prog 37 #[.float .f64 bxx0] w (fun e w' => ∃ (b0 : Nat), e = .returned (.float .f64 b0) ∧ Fl.rep b0 r ∧ Hp S w0 w' (ow)) := by
  unfold f_math_Abs at h
  refine enter (n := 7) (args := [.float .f64 bxx0]) Try.func37 rfl rfl (Nat.le_of_ble_eq_true rfl) fun a hf => ?_
  replace hf : Fr 7 a [(0, .float .f64 bxx0)] := hf
  refine wp_mono (Q := fun e a w => e = .ret ∧ ∃ (b0 : Nat), Fr 7 a [(2, .float .f64 b0)] ∧ Fl.rep b0 r ∧ Hp S w0 w (ow)) ?_ ?_
  rotate_left
  · rintro e a w ⟨rfl, x0, hf, y0, hp⟩
    exact ret1 hf rfl rfl ⟨x0, rfl, y0, hp⟩
  refine wp_seq ?_
  refine wp_reg ?_
  refine st_assign hf rfl rfl (by decide) ?_
  clear hf; intro a ha hf; clear ha
  refine st_nil hf ?_
  refine th_n ?_
  refine wp_seq ?_
  refine wp_reg ?_
  refine st_move hf rfl rfl (by decide) ?_
  clear hf; intro a ha hf; clear ha
  obtain ⟨q1, hq2, h⟩ := bnd h
  refine st_extern (ex := Extern.MathFloatBits.float64bits) (r := .int .u64 (bxx0 : Int)) (f := 56) (vs := [.float .f64 bxx0]) hf (by decide) Try.func56 rfl rfl (by kernel_rfl) (by kernel_rfl) rfl rfl rfl rfl ?_
  clear hf; intro a ha hf; clear ha
  have he3 := fbits_rep hxx0 hq2; rw [← he3] at hf
  refine st_iandn hf (by decide) rfl rfl rfl ?_
  clear hf; intro a ha hf; clear ha
  refine st_extern (ex := Extern.MathFloatBits.float64frombits) (r := .float .f64 ((iandn .u64 q1 (9223372036854775808 : Int))).toNat) (f := 55) (vs := [.int .u64 (iandn .u64 q1 (9223372036854775808 : Int))]) hf (by decide) Try.func55 rfl rfl (by kernel_rfl) (by kernel_rfl) rfl rfl rfl rfl ?_
  clear hf; intro a ha hf; clear ha
  refine st_assign hf rfl rfl (by decide) ?_
  clear hf; intro a ha hf; clear ha
  refine st_nil hf ?_
  refine th_n ?_
  refine wp_ret ?_
  obtain rfl := Option.some.inj h
  exact ⟨rfl, ⟨_, hf.sub ⟨rfl, trivial⟩, rfl, hp⟩⟩

noncomputable def f_math_Floor (xx0 : Fl) : Option Fl := (some (fint Ieee.Toward.down xx0))
theorem f_math_Floor_c {S : Nat → Prop} {w0 w : World} {ow : List Res} (hp : Hp S w0 w ow) (bxx0 : Nat) (xx0 : Fl) (hxx0 : xx0.rep bxx0) {r : Fl} (h : f_math_Floor xx0 = some r) :
    Calls Try.prog 71 #[.float .f64 bxx0] w (fun e w' => ∃ (b0 : Nat), e = .returned (.float .f64 b0) ∧ Fl.rep b0 r ∧ Hp S w0 w' (ow)) := by
  unfold f_math_Floor at h
  refine enter (n := 7) (args := [.float .f64 bxx0]) Try.func71 rfl rfl (Nat.le_of_ble_eq_true rfl) fun a hf => ?_
  replace hf : Fr 7 a [(0, .float .f64 bxx0)] := hf
  refine wp_mono (Q := fun e a w => e = .ret ∧ ∃ (b0 : Nat), Fr 7 a [(2, .float .f64 b0)] ∧ Fl.rep b0 r ∧ Hp S w0 w (ow)) ?_ ?_
  rotate_left
  · rintro e a w ⟨rfl, x0, hf, y0, hp⟩
    exact ret1 hf rfl rfl ⟨x0, rfl, y0, hp⟩
  refine wp_seq ?_
  refine wp_reg ?_
  refine st_assign hf rfl rfl (by decide) ?_
  clear hf; intro a ha hf; clear ha
  refine st_nil hf ?_
  refine th_n ?_
  refine wp_seq ?_
  refine wp_if hf rfl (fun hb => ?_) (fun hb => ?_)
  rotate_left
  · exact absurd hb (by decide)
  refine wp_seq ?_
  refine wp_reg ?_
  refine st_move hf rfl rfl (by decide) ?_
  clear hf; intro a ha hf; clear ha
  refine st_fint (fx := xx0) (nm := "math.archFloor") (way := Ieee.Toward.down) (f := 78) hf (by decide) hp Try.func78 rfl rfl (by kernel_rfl) (by kernel_rfl) rfl rfl rfl hxx0 ?_
  clear hf; intro a w bb1 y2 hf hp0; clear hp; have hp := hp0; clear hp0
  replace hp : Hp _ _ _ (ow) := hp
  refine st_assign hf rfl rfl (by decide) ?_
  clear hf; intro a ha hf; clear ha
  refine st_nil hf ?_
  refine th_n ?_
  refine wp_ret ?_
  refine th_r ?_
  obtain rfl := Option.some.inj h
  exact ⟨rfl, ⟨_, hf.sub ⟨rfl, trivial⟩, y2, hp⟩⟩

noncomputable def f_feedback_step (xx0 : Fl) : Option Bool := ((f_math_Abs xx0).bind fun q1 => ((if (fle q1 (Fl.bits 4607182418800017408)) = true then ((f_math_Floor (fmul xx0 (Fl.bits 4634204016564240384))).bind fun q10 => (some (feq q10 (fmul xx0 (Fl.bits 4634204016564240384))))) else (some false)).bind fun z7 => (some z7)))
theorem f_feedback_step_c {S : Nat → Prop} {w0 w : World} {ow : List Res} (hp : Hp S w0 w ow) (bxx0 : Nat) (xx0 : Fl) (hxx0 : xx0.rep bxx0) {r : Bool} (h : f_feedback_step xx0 = some r) :
    Calls Try.prog 69 #[.float .f64 bxx0] w (fun e w' => e = .returned (.bool r) ∧ Hp S w0 w' (ow)) := by
  unfold f_feedback_step at h
  refine enter (n := 14) (args := [.float .f64 bxx0]) Try.func69 rfl rfl (Nat.le_of_ble_eq_true rfl) fun a hf => ?_
  replace hf : Fr 14 a [(0, .float .f64 bxx0)] := hf
  refine wp_mono (Q := fun e a w => e = .ret ∧ Fr 14 a [(2, .bool r)] ∧ Hp S w0 w (ow)) ?_ ?_
  rotate_left
  · rintro e a w ⟨rfl, hf, hp⟩
    exact ret1 hf rfl rfl ⟨rfl, hp⟩
  refine wp_seq ?_
  refine wp_reg ?_
  refine st_assign hf rfl rfl (by decide) ?_
  clear hf; intro a ha hf; clear ha
  refine st_nil hf ?_
  refine th_n ?_
  refine wp_seq ?_
  refine wp_reg ?_
  refine st_move hf rfl rfl (by decide) ?_
  clear hf; intro a ha hf; clear ha
  obtain ⟨q1, hcall2, h⟩ := bnd h
  refine st_call hf (by decide) Try.func37 rfl rfl rfl rfl rfl (f_math_Abs_c hp _ _ (show Fl.rep bxx0 xx0 from hxx0) hcall2) ?_
  rintro _ w ⟨v3, rfl, y4, hp0⟩
  clear hp; have hp := hp0; clear hp0
  replace hp : Hp _ _ _ (ow) := hp
  refine ⟨_, rfl, ?_⟩
  clear hf; intro a hf
  refine st_fcmp (r_fle (fx := q1) (fy := (Fl.bits 4607182418800017408)) y4 rfl) hf (by decide) rfl rfl rfl ?_
  clear hf; intro a ha hf; clear ha
  refine st_move hf rfl rfl (by decide) ?_
  clear hf; intro a ha hf; clear ha
  obtain ⟨z7, hz5, h⟩ := bnd h
  refine wpList_cut 7 (fun a w => Fr 14 a [(13, .bool z7)] ∧ Hp S w0 w (ow)) ?_ ?_
  · rcases Bool.eq_false_or_eq_true (fle q1 (Fl.bits 4607182418800017408)) with hb6 | hb6
    · skip
      replace hz5 := ifT hz5 hb6
      refine st_move hf (wantY hf rfl rfl hb6) rfl (by decide) ?_
      clear hf; intro a ha hf; clear ha
      refine st_farith (op := .mul) rfl hf (by decide) hp (wantY hf rfl rfl hb6) rfl rfl (show Fl.rep bxx0 xx0 from hxx0) (show Fl.rep 4634204016564240384 (Fl.bits 4634204016564240384) from rfl) ?_
      clear hf; intro a w bb8 y9 hf hp0; clear hp; have hp := hp0; clear hp0
      replace hp : Hp _ _ _ (ow) := hp
      obtain ⟨q10, hcall11, hz5⟩ := bnd hz5
      refine st_call hf (by decide) Try.func71 rfl rfl (wantY hf rfl rfl hb6) rfl rfl (f_math_Floor_c hp _ _ (show Fl.rep bb8 (fmul xx0 (Fl.bits 4634204016564240384)) from y9) hcall11) ?_
      rintro _ w ⟨v12, rfl, y13, hp0⟩
      clear hp; have hp := hp0; clear hp0
      replace hp : Hp _ _ _ (ow) := hp
      refine ⟨_, rfl, ?_⟩
      clear hf; intro a hf
      refine st_move hf (wantY hf rfl rfl hb6) rfl (by decide) ?_
      clear hf; intro a ha hf; clear ha
      refine st_farith (op := .mul) rfl hf (by decide) hp (wantY hf rfl rfl hb6) rfl rfl (show Fl.rep bxx0 xx0 from hxx0) (show Fl.rep 4634204016564240384 (Fl.bits 4634204016564240384) from rfl) ?_
      clear hf; intro a w bb14 y15 hf hp0; clear hp; have hp := hp0; clear hp0
      replace hp : Hp _ _ _ (ow) := hp
      refine st_fcmp (r_feq (fx := q10) (fy := (fmul xx0 (Fl.bits 4634204016564240384))) y13 y15) hf (by decide) (wantY hf rfl rfl hb6) rfl rfl ?_
      clear hf; intro a ha hf; clear ha
      obtain rfl := Option.some.inj hz5
      refine st_pick (v := .bool (feq q10 (fmul xx0 (Fl.bits 4634204016564240384)))) hf rfl rfl (fun hb' => ?_) (fun hb' => ?_) (by decide) ?_
      · rfl
      · exact absurd (hb6.symm.trans hb') (by decide)
      clear hf; intro a ha hf; clear ha
      refine st_nil hf (th_n ?_)
      exact ⟨hf.sub ⟨rfl, trivial⟩, hp⟩
    replace hz5 := ifF hz5 hb6
    refine st_skip hf (wantN hf rfl rfl hb6) rfl (by decide) ?_ rfl
    clear hf; intro a hf
    refine st_skip hf (wantN hf rfl rfl hb6) rfl (by decide) ?_ rfl
    clear hf; intro a hf
    refine st_skip hf (wantN hf rfl rfl hb6) rfl (by decide) ?_ rfl
    clear hf; intro a hf
    refine st_skip hf (wantN hf rfl rfl hb6) rfl (by decide) ?_ rfl
    clear hf; intro a hf
    refine st_skip hf (wantN hf rfl rfl hb6) rfl (by decide) ?_ rfl
    clear hf; intro a hf
    refine st_skip hf (wantN hf rfl rfl hb6) rfl (by decide) ?_ rfl
    clear hf; intro a hf
    obtain rfl := Option.some.inj hz5
    refine st_pick (v := .bool false) hf rfl rfl (fun hb' => ?_) (fun hb' => ?_) (by decide) ?_
    · exact absurd (hb6.symm.trans hb') (by decide)
    · rfl
    clear hf; intro a ha hf; clear ha
    refine st_nil hf (th_n ?_)
    exact ⟨hf.sub ⟨rfl, trivial⟩, hp⟩
  rintro a w ⟨hf, hp⟩
  refine st_assign hf rfl rfl (by decide) ?_
  clear hf; intro a ha hf; clear ha
  refine st_nil hf ?_
  refine th_n ?_
  refine wp_ret ?_
  obtain rfl := Option.some.inj h
  exact ⟨rfl, ⟨hf.sub ⟨rfl, trivial⟩, hp⟩⟩

noncomputable def f_feedback_taps.s1c (l0 : (List (Fl × Fl))) (sum3 : Fl) (t8 : Int) : Option ((Fl × Int) ⊕ (Fl ⊕ Bool)) := (if (decide (t8 < (l0.length : Int))) = true then (if 0 ≤ t8 ∧ t8 < (l0.length : Int) then ((f_feedback_step ((gt l0 t8).1)).bind fun q10 => ((if (!q10) = true then (some true) else ((f_feedback_step ((gt l0 t8).2)).bind fun q15 => (some (!q15)))).bind fun z14 => (if z14 = true then (some (Sum.inr (Sum.inr false))) else ((f_math_Abs ((gt l0 t8).1)).bind fun q17 => ((f_math_Abs ((gt l0 t8).2)).bind fun q21 => (some (Sum.inl ((fadd sum3 (fadd q17 q21)), (IntKind.i64.wrap (t8 + (1 : Int))))))))))) else none) else (some (Sum.inr (Sum.inl sum3))))
noncomputable def f_feedback_taps.s1 (l0 : (List (Fl × Fl))) (s : (Fl × Int)) : Option ((Fl × Int) ⊕ (Fl ⊕ Bool)) := f_feedback_taps.s1c l0 s.1 s.2
noncomputable def f_feedback_taps (l0 : (List (Fl × Fl))) : Option Bool := ((loop (f_feedback_taps.s1 l0) ((Fl.bits 0), (0 : Int))).bind (fun q29 => sm q29 (fun q30 => (some (((decide ((0 : Int) < (l0.length : Int))) && (decide ((l0.length : Int) ≤ (64 : Int)))) && (fle q30 (Fl.bits 4616189618054758400))))) (fun q31 => (some q31))))
theorem f_feedback_taps_c {S : Nat → Prop} {w0 w : World} {ow : List Res} (hp : Hp S w0 w ow) (vl0 : Value) (l0 : (List (Fl × Fl))) (hl0 : RdS Ek.c128 S w0 vl0 l0) {r : Bool} (h : f_feedback_taps l0 = some r) :
    Calls Try.prog 63 #[vl0] w (fun e w' => e = .returned (.bool r) ∧ Hp S w0 w' (ow)) := by
  unfold f_feedback_taps at h
  refine enter (n := 44) (args := [vl0]) Try.func63 rfl rfl (Nat.le_of_ble_eq_true rfl) fun a hf => ?_
  replace hf : Fr 44 a [(0, vl0)] := hf
  refine wp_mono (Q := fun e a w => e = .ret ∧ Fr 44 a [(2, .bool r)] ∧ Hp S w0 w (ow)) ?_ ?_
  rotate_left
  · rintro e a w ⟨rfl, hf, hp⟩
    exact ret1 hf rfl rfl ⟨rfl, hp⟩
  refine wp_seq ?_
  refine wp_reg ?_
  refine st_assign hf rfl rfl (by decide) ?_
  clear hf; intro a ha hf; clear ha
  refine st_nil hf ?_
  refine th_n ?_
  refine wp_seq ?_
  refine wp_reg ?_
  refine st_assign hf rfl rfl (by decide) ?_
  clear hf; intro a ha hf; clear ha
  refine st_nil hf ?_
  refine th_n ?_
  refine wp_seq ?_
  refine wp_seq ?_
  refine wp_reg ?_
  refine st_move hf rfl rfl (by decide) ?_
  clear hf; intro a ha hf; clear ha
  refine st_len (E := Ek.c128) hf (by decide) Try.underlying32 rfl rfl (hl0.sl hp) ?_
  clear hf; intro a ha hf; clear ha
  refine st_move hf rfl rfl (by decide) ?_
  clear hf; intro a ha hf; clear ha
  refine st_nil hf ?_
  refine th_n ?_
  refine wp_block ?_
  obtain ⟨q29, hl, h⟩ := bnd h
  refine wp_loop_pure (f := (f_feedback_taps.s1 l0)) (s := ((Fl.bits 0), (0 : Int))) (fun s a w => ∃ (bb1 : Nat), Fr 44 a [(0, vl0), (3, .float .f64 bb1), (6, vl0), (7, .int .i64 (l0.length : Int)), (8, .int .i64 s.2)] ∧ Fl.rep bb1 s.1 ∧ Hp S w0 w (ow)) (fun q e a w => match q with | (Sum.inl q) => e = .exit 0 ∧ ∃ (bb3 : Nat), Fr 44 a [(0, vl0), (3, .float .f64 bb3)] ∧ Fl.rep bb3 q ∧ Hp S w0 w (ow) | (Sum.inr q) => e = .ret ∧ Fr 44 a [(2, .bool q)] ∧ Hp S w0 w (ow)) ?_ hl ⟨_, hf.sub ⟨rfl, rfl, rfl, rfl, rfl, trivial⟩, rfl, hp⟩ ?_
  · clear hl hf hp
    intro s x a w h hI
    obtain ⟨sum3, t8⟩ := s
    obtain ⟨bb1, hf, y2, hp⟩ : ∃ (bb1 : Nat), Fr 44 a [(0, vl0), (3, .float .f64 bb1), (6, vl0), (7, .int .i64 (l0.length : Int)), (8, .int .i64 t8)] ∧ Fl.rep bb1 sum3 ∧ Hp S w0 w (ow) := hI
    replace h : f_feedback_taps.s1c l0 sum3 t8 = some x := h
    unfold f_feedback_taps.s1c at h
    refine wp_seq ?_
    refine wp_reg ?_
    refine st_ilss hf (by decide) rfl rfl rfl ?_
    clear hf; intro a ha hf; clear ha
    refine st_nil hf ?_
    refine th_n ?_
    refine wp_seq ?_
    refine wp_if hf rfl (fun hb => ?_) (fun hb => ?_)
    · replace h := ifT h hb
      refine wp_skip ?_
      refine th_n ?_
      refine wp_seq ?_
      refine wp_block ?_
      refine wp_seq ?_
      refine wp_reg ?_
      obtain ⟨hc5, h⟩ := chk h
      refine st_index (E := Ek.c128) hf (by decide) Try.underlying32 elt39 rfl rfl rfl (hl0.sl hp) hc5.1 hc5.2 ?_
      clear hf; intro a ha hf; clear ha
      refine st_ldC hf (by decide) pl39 rfl rfl (hl0.sl hp) hc5.1 hc5.2 ?_
      clear hf; intro a bb6 bb7 y8 y9 ha hf; clear ha
      refine st_assign hf rfl rfl (by decide) ?_
      clear hf; intro a ha hf; clear ha
      refine st_nil hf ?_
      refine th_n ?_
      refine wp_seq ?_
      refine wp_seq ?_
      refine wp_reg ?_
      refine st_move hf rfl rfl (by decide) ?_
      clear hf; intro a ha hf; clear ha
      refine st_real hf (by decide) rfl rfl ?_
      clear hf; intro a ha hf; clear ha
      obtain ⟨q10, hcall11, h⟩ := bnd h
      refine st_call hf (by decide) Try.func69 rfl rfl rfl rfl rfl (f_feedback_step_c hp _ _ (show Fl.rep bb6 ((gt l0 t8).1) from y8) hcall11) ?_
      rintro _ w ⟨rfl, hp0⟩
      clear hp; have hp := hp0; clear hp0
      replace hp : Hp _ _ _ (ow) := hp
      refine ⟨_, rfl, ?_⟩
      clear hf; intro a hf
      refine st_not hf (by decide) rfl rfl ?_
      clear hf; intro a ha hf; clear ha
      refine st_move hf rfl rfl (by decide) ?_
      clear hf; intro a ha hf; clear ha
      obtain ⟨z14, hz12, h⟩ := bnd h
      refine wpList_cut 5 (fun a w => Fr 44 a [(0, vl0), (3, .float .f64 bb1), (5, .complex .f64 bb6 bb7), (6, vl0), (7, .int .i64 (l0.length : Int)), (8, .int .i64 t8), (21, .bool z14)] ∧ Hp S w0 w (ow)) ?_ ?_
      · rcases Bool.eq_false_or_eq_true (!q10) with hb13 | hb13
        · skip
          replace hz12 := ifT hz12 hb13
          refine st_skip hf (wantN hf rfl rfl hb13) rfl (by decide) ?_ rfl
          clear hf; intro a hf
          refine st_skip hf (wantN hf rfl rfl hb13) rfl (by decide) ?_ rfl
          clear hf; intro a hf
          refine st_skip hf (wantN hf rfl rfl hb13) rfl (by decide) ?_ rfl
          clear hf; intro a hf
          refine st_skip hf (wantN hf rfl rfl hb13) rfl (by decide) ?_ rfl
          clear hf; intro a hf
          obtain rfl := Option.some.inj hz12
          refine st_pick (v := .bool true) hf rfl rfl (fun hb' => ?_) (fun hb' => ?_) (by decide) ?_
          · rfl
          · exact absurd (hb13.symm.trans hb') (by decide)
          clear hf; intro a ha hf; clear ha
          refine st_nil hf (th_n ?_)
          exact ⟨hf.sub ⟨rfl, rfl, rfl, rfl, rfl, rfl, rfl, trivial⟩, hp⟩
        replace hz12 := ifF hz12 hb13
        refine st_move hf (wantY hf rfl rfl hb13) rfl (by decide) ?_
        clear hf; intro a ha hf; clear ha
        refine st_imag hf (by decide) (wantY hf rfl rfl hb13) rfl ?_
        clear hf; intro a ha hf; clear ha
        obtain ⟨q15, hcall16, hz12⟩ := bnd hz12
        refine st_call hf (by decide) Try.func69 rfl rfl (wantY hf rfl rfl hb13) rfl rfl (f_feedback_step_c hp _ _ (show Fl.rep bb7 ((gt l0 t8).2) from y9) hcall16) ?_
        rintro _ w ⟨rfl, hp0⟩
        clear hp; have hp := hp0; clear hp0
        replace hp : Hp _ _ _ (ow) := hp
        refine ⟨_, rfl, ?_⟩
        clear hf; intro a hf
        refine st_not hf (by decide) (wantY hf rfl rfl hb13) rfl ?_
        clear hf; intro a ha hf; clear ha
        obtain rfl := Option.some.inj hz12
        refine st_pick (v := .bool (!q15)) hf rfl rfl (fun hb' => ?_) (fun hb' => ?_) (by decide) ?_
        · exact absurd (hb13.symm.trans hb') (by decide)
        · rfl
        clear hf; intro a ha hf; clear ha
        refine st_nil hf (th_n ?_)
        exact ⟨hf.sub ⟨rfl, rfl, rfl, rfl, rfl, rfl, rfl, trivial⟩, hp⟩
      rintro a w ⟨hf, hp⟩
      refine st_nil hf ?_
      refine th_n ?_
      refine wp_if hf rfl (fun hb => ?_) (fun hb => ?_)
      · replace h := ifT h hb
        refine wp_seq ?_
        refine wp_reg ?_
        refine st_assign hf rfl rfl (by decide) ?_
        clear hf; intro a ha hf; clear ha
        refine st_nil hf ?_
        refine th_n ?_
        refine wp_ret ?_
        refine th_r ?_
        refine ib_r ?_
        refine th_r ?_
        obtain rfl := Option.some.inj h
        exact rnd_r (by simp) ⟨rfl, ⟨hf.sub ⟨rfl, trivial⟩, hp⟩⟩
      replace h := ifF h hb
      refine wp_skip ?_
      refine th_n ?_
      refine wp_reg ?_
      refine st_move hf rfl rfl (by decide) ?_
      clear hf; intro a ha hf; clear ha
      refine st_move hf rfl rfl (by decide) ?_
      clear hf; intro a ha hf; clear ha
      refine st_real hf (by decide) rfl rfl ?_
      clear hf; intro a ha hf; clear ha
      obtain ⟨q17, hcall18, h⟩ := bnd h
      refine st_call hf (by decide) Try.func37 rfl rfl rfl rfl rfl (f_math_Abs_c hp _ _ (show Fl.rep bb6 ((gt l0 t8).1) from y8) hcall18) ?_
      rintro _ w ⟨v19, rfl, y20, hp0⟩
      clear hp; have hp := hp0; clear hp0
      replace hp : Hp _ _ _ (ow) := hp
      refine ⟨_, rfl, ?_⟩
      clear hf; intro a hf
      refine st_move hf rfl rfl (by decide) ?_
      clear hf; intro a ha hf; clear ha
      refine st_imag hf (by decide) rfl rfl ?_
      clear hf; intro a ha hf; clear ha
      obtain ⟨q21, hcall22, h⟩ := bnd h
      refine st_call hf (by decide) Try.func37 rfl rfl rfl rfl rfl (f_math_Abs_c hp _ _ (show Fl.rep bb7 ((gt l0 t8).2) from y9) hcall22) ?_
      rintro _ w ⟨v23, rfl, y24, hp0⟩
      clear hp; have hp := hp0; clear hp0
      replace hp : Hp _ _ _ (ow) := hp
      refine ⟨_, rfl, ?_⟩
      clear hf; intro a hf
      refine st_farith (op := .add) rfl hf (by decide) hp rfl rfl rfl (show Fl.rep v19 q17 from y20) (show Fl.rep v23 q21 from y24) ?_
      clear hf; intro a w bb25 y26 hf hp0; clear hp; have hp := hp0; clear hp0
      replace hp : Hp _ _ _ (ow) := hp
      refine st_farith (op := .add) rfl hf (by decide) hp rfl rfl rfl (show Fl.rep bb1 sum3 from y2) (show Fl.rep bb25 (fadd q17 q21) from y26) ?_
      clear hf; intro a w bb27 y28 hf hp0; clear hp; have hp := hp0; clear hp0
      replace hp : Hp _ _ _ (ow) := hp
      refine st_assign hf rfl rfl (by decide) ?_
      clear hf; intro a ha hf; clear ha
      refine st_nil hf ?_
      refine ib_n ?_
      refine th_n ?_
      refine wp_reg ?_
      refine st_iadd hf (by decide) rfl rfl rfl ?_
      clear hf; intro a ha hf; clear ha
      refine st_move hf rfl rfl (by decide) ?_
      clear hf; intro a ha hf; clear ha
      refine st_nil hf ?_
      obtain rfl := Option.some.inj h
      exact rnd_l ⟨_, hf.sub ⟨rfl, rfl, rfl, rfl, rfl, trivial⟩, y28, hp⟩
    replace h := ifF h hb
    refine wp_exit ?_
    refine th_e ?_
    obtain rfl := Option.some.inj h
    exact rnd_r (by simp) ⟨rfl, _, hf.sub ⟨rfl, rfl, trivial⟩, y2, hp⟩
  clear hl hf hp
  intro e a w hne hO
  rcases q29 with q30 | q31
  · replace h := smL h
    obtain ⟨rfl, bb3, hf, y4, hp⟩ := hO
    refine ib_same ?_
    refine th_n ?_
    refine wp_seq ?_
    refine wp_reg ?_
    refine st_move hf rfl rfl (by decide) ?_
    clear hf; intro a ha hf; clear ha
    refine st_len (E := Ek.c128) hf (by decide) Try.underlying32 rfl rfl (hl0.sl hp) ?_
    clear hf; intro a ha hf; clear ha
    refine st_igtr hf (by decide) rfl rfl rfl ?_
    clear hf; intro a ha hf; clear ha
    refine st_move hf rfl rfl (by decide) ?_
    clear hf; intro a ha hf; clear ha
    refine wpList_cut 4 (fun a w => Fr 44 a [(3, .float .f64 bb3), (39, .bool ((decide ((0 : Int) < (l0.length : Int))) && (decide ((l0.length : Int) ≤ (64 : Int)))))] ∧ Hp S w0 w (ow)) ?_ ?_
    · rcases Bool.eq_false_or_eq_true (decide ((0 : Int) < (l0.length : Int))) with hb33 | hb33
      · skip
        refine st_move hf (wantY hf rfl rfl hb33) rfl (by decide) ?_
        clear hf; intro a ha hf; clear ha
        refine st_len (E := Ek.c128) hf (by decide) Try.underlying32 (wantY hf rfl rfl hb33) rfl (hl0.sl hp) ?_
        clear hf; intro a ha hf; clear ha
        refine st_ileq hf (by decide) (wantY hf rfl rfl hb33) rfl rfl ?_
        clear hf; intro a ha hf; clear ha
        refine st_pick (v := .bool (decide ((l0.length : Int) ≤ (64 : Int)))) hf rfl rfl (fun hb' => ?_) (fun hb' => ?_) (by decide) ?_
        · rfl
        · exact absurd (hb33.symm.trans hb') (by decide)
        clear hf; intro a ha hf; clear ha
        refine st_nil hf (th_n ?_)
        exact ⟨hf.sub ⟨rfl, (by rw [hb33]; rfl), trivial⟩, hp⟩
      refine st_skip hf (wantN hf rfl rfl hb33) rfl (by decide) ?_ rfl
      clear hf; intro a hf
      refine st_skip hf (wantN hf rfl rfl hb33) rfl (by decide) ?_ rfl
      clear hf; intro a hf
      refine st_skip hf (wantN hf rfl rfl hb33) rfl (by decide) ?_ rfl
      clear hf; intro a hf
      refine st_pick (v := .bool false) hf rfl rfl (fun hb' => ?_) (fun hb' => ?_) (by decide) ?_
      · exact absurd (hb33.symm.trans hb') (by decide)
      · rfl
      clear hf; intro a ha hf; clear ha
      refine st_nil hf (th_n ?_)
      exact ⟨hf.sub ⟨rfl, (by rw [hb33]; rfl), trivial⟩, hp⟩
    rintro a w ⟨hf, hp⟩
    refine st_move hf rfl rfl (by decide) ?_
    clear hf; intro a ha hf; clear ha
    refine wpList_cut 3 (fun a w => Fr 44 a [(43, .bool (((decide ((0 : Int) < (l0.length : Int))) && (decide ((l0.length : Int) ≤ (64 : Int)))) && (fle q30 (Fl.bits 4616189618054758400))))] ∧ Hp S w0 w (ow)) ?_ ?_
    · rcases Bool.eq_false_or_eq_true ((decide ((0 : Int) < (l0.length : Int))) && (decide ((l0.length : Int) ≤ (64 : Int)))) with hb35 | hb35
      · skip
        refine st_move hf (wantY hf rfl rfl hb35) rfl (by decide) ?_
        clear hf; intro a ha hf; clear ha
        refine st_fcmp (r_fle (fx := q30) (fy := (Fl.bits 4616189618054758400)) y4 rfl) hf (by decide) (wantY hf rfl rfl hb35) rfl rfl ?_
        clear hf; intro a ha hf; clear ha
        refine st_pick (v := .bool (fle q30 (Fl.bits 4616189618054758400))) hf rfl rfl (fun hb' => ?_) (fun hb' => ?_) (by decide) ?_
        · rfl
        · exact absurd (hb35.symm.trans hb') (by decide)
        clear hf; intro a ha hf; clear ha
        refine st_nil hf (th_n ?_)
        exact ⟨hf.sub ⟨(by rw [hb35]; rfl), trivial⟩, hp⟩
      refine st_skip hf (wantN hf rfl rfl hb35) rfl (by decide) ?_ rfl
      clear hf; intro a hf
      refine st_skip hf (wantN hf rfl rfl hb35) rfl (by decide) ?_ rfl
      clear hf; intro a hf
      refine st_pick (v := .bool false) hf rfl rfl (fun hb' => ?_) (fun hb' => ?_) (by decide) ?_
      · exact absurd (hb35.symm.trans hb') (by decide)
      · rfl
      clear hf; intro a ha hf; clear ha
      refine st_nil hf (th_n ?_)
      exact ⟨hf.sub ⟨(by rw [hb35]; rfl), trivial⟩, hp⟩
    rintro a w ⟨hf, hp⟩
    refine st_assign hf rfl rfl (by decide) ?_
    clear hf; intro a ha hf; clear ha
    refine st_nil hf ?_
    refine th_n ?_
    refine wp_ret ?_
    obtain rfl := Option.some.inj h
    exact ⟨rfl, ⟨hf.sub ⟨rfl, trivial⟩, hp⟩⟩
  replace h := smR h
  obtain ⟨rfl, hf, hp⟩ := hO
  refine ib_r ?_
  refine th_r ?_
  obtain rfl := Option.some.inj h
  exact ⟨rfl, ⟨hf.sub ⟨rfl, trivial⟩, hp⟩⟩

noncomputable def f_feedback_turned.s1c (n1 : Int) (zx0 : (Fl × Fl)) (t6 : Int) : Option (((Fl × Fl) × Int) ⊕ (Fl × Fl)) := (if (decide (t6 < n1)) = true then (some (Sum.inl ((zx0.2, (fneg zx0.1)), (IntKind.i64.wrap (t6 + (1 : Int)))))) else (some (Sum.inr zx0)))
noncomputable def f_feedback_turned.s1 (n1 : Int) (s : ((Fl × Fl) × Int)) : Option (((Fl × Fl) × Int) ⊕ (Fl × Fl)) := f_feedback_turned.s1c n1 s.1 s.2
noncomputable def f_feedback_turned (zx0 : (Fl × Fl)) (n1 : Int) : Option (Fl × Fl) := ((loop (f_feedback_turned.s1 n1) (zx0, (0 : Int))).bind (fun q9 => (some q9)))
theorem f_feedback_turned_c {S : Nat → Prop} {w0 w : World} {ow : List Res} (hp : Hp S w0 w ow) (bzx0 czx0 : Nat) (zx0 : Fl × Fl) (hzx0 : zx0.1.rep bzx0) (kzx0 : zx0.2.rep czx0) (n1 : Int) {r : (Fl × Fl)} (h : f_feedback_turned zx0 n1 = some r) :
    Calls Try.prog 49 #[.complex .f64 bzx0 czx0, .int .i64 n1] w (fun e w' => ∃ (b0 : Nat) (b1 : Nat), e = .returned (.complex .f64 b0 b1) ∧ Fl.rep b0 r.1 ∧ Fl.rep b1 r.2 ∧ Hp S w0 w' (ow)) := by
  unfold f_feedback_turned at h
  refine enter (n := 16) (args := [.complex .f64 bzx0 czx0, .int .i64 n1]) Try.func49 rfl rfl (Nat.le_of_ble_eq_true rfl) fun a hf => ?_
  replace hf : Fr 16 a [(0, .complex .f64 bzx0 czx0), (1, .int .i64 n1)] := hf
  refine wp_mono (Q := fun e a w => e = .ret ∧ ∃ (b0 : Nat) (b1 : Nat), Fr 16 a [(4, .complex .f64 b0 b1)] ∧ Fl.rep b0 r.1 ∧ Fl.rep b1 r.2 ∧ Hp S w0 w (ow)) ?_ ?_
  rotate_left
  · rintro e a w ⟨rfl, x0, x1, hf, y0, y1, hp⟩
    exact ret1 hf rfl rfl ⟨x0, x1, rfl, y0, y1, hp⟩
  refine wp_seq ?_
  refine wp_reg ?_
  refine st_assign hf rfl rfl (by decide) ?_
  clear hf; intro a ha hf; clear ha
  refine st_nil hf ?_
  refine th_n ?_
  refine wp_seq ?_
  refine wp_seq ?_
  refine wp_reg ?_
  refine st_move hf rfl rfl (by decide) ?_
  clear hf; intro a ha hf; clear ha
  refine st_move hf rfl rfl (by decide) ?_
  clear hf; intro a ha hf; clear ha
  refine st_nil hf ?_
  refine th_n ?_
  refine wp_block ?_
  obtain ⟨q9, hl, h⟩ := bnd h
  refine wp_loop_pure (f := (f_feedback_turned.s1 n1)) (s := (zx0, (0 : Int))) (fun s a w => ∃ (bb1 : Nat) (bb2 : Nat), Fr 16 a [(0, .complex .f64 bb1 bb2), (5, .int .i64 n1), (6, .int .i64 s.2)] ∧ Fl.rep bb1 s.1.1 ∧ Fl.rep bb2 s.1.2 ∧ Hp S w0 w (ow)) (fun q e a w => e = .exit 0 ∧ ∃ (bb5 : Nat) (bb6 : Nat), Fr 16 a [(0, .complex .f64 bb5 bb6)] ∧ Fl.rep bb5 q.1 ∧ Fl.rep bb6 q.2 ∧ Hp S w0 w (ow)) ?_ hl ⟨_, _, hf.sub ⟨rfl, rfl, rfl, trivial⟩, hzx0, kzx0, hp⟩ ?_
  · clear hl hf hp
    intro s x a w h hI
    obtain ⟨zx0, t6⟩ := s
    obtain ⟨bb1, bb2, hf, y3, y4, hp⟩ : ∃ (bb1 : Nat) (bb2 : Nat), Fr 16 a [(0, .complex .f64 bb1 bb2), (5, .int .i64 n1), (6, .int .i64 t6)] ∧ Fl.rep bb1 zx0.1 ∧ Fl.rep bb2 zx0.2 ∧ Hp S w0 w (ow) := hI
    replace h : f_feedback_turned.s1c n1 zx0 t6 = some x := h
    unfold f_feedback_turned.s1c at h
    refine wp_seq ?_
    refine wp_reg ?_
    refine st_ilss hf (by decide) rfl rfl rfl ?_
    clear hf; intro a ha hf; clear ha
    refine st_nil hf ?_
    refine th_n ?_
    refine wp_seq ?_
    refine wp_if hf rfl (fun hb => ?_) (fun hb => ?_)
    · replace h := ifT h hb
      refine wp_skip ?_
      refine th_n ?_
      refine wp_seq ?_
      refine wp_block ?_
      refine wp_reg ?_
      refine st_move hf rfl rfl (by decide) ?_
      clear hf; intro a ha hf; clear ha
      refine st_imag hf (by decide) rfl rfl ?_
      clear hf; intro a ha hf; clear ha
      refine st_move hf rfl rfl (by decide) ?_
      clear hf; intro a ha hf; clear ha
      refine st_real hf (by decide) rfl rfl ?_
      clear hf; intro a ha hf; clear ha
      refine st_fneg hf (by decide) rfl rfl ?_
      clear hf; intro a ha hf; clear ha
      refine st_complex hf (by decide) rfl rfl rfl ?_
      clear hf; intro a ha hf; clear ha
      refine st_assign hf rfl rfl (by decide) ?_
      clear hf; intro a ha hf; clear ha
      refine st_nil hf ?_
      refine ib_n ?_
      refine th_n ?_
      refine wp_reg ?_
      refine st_iadd hf (by decide) rfl rfl rfl ?_
      clear hf; intro a ha hf; clear ha
      refine st_move hf rfl rfl (by decide) ?_
      clear hf; intro a ha hf; clear ha
      refine st_nil hf ?_
      obtain rfl := Option.some.inj h
      exact rnd_l ⟨_, _, hf.sub ⟨rfl, rfl, rfl, trivial⟩, y4, (fneg_rep y3), hp⟩
    replace h := ifF h hb
    refine wp_exit ?_
    refine th_e ?_
    obtain rfl := Option.some.inj h
    exact rnd_r (by simp) ⟨rfl, _, _, hf.sub ⟨rfl, trivial⟩, y3, y4, hp⟩
  clear hl hf hp
  intro e a w hne hO
  obtain ⟨rfl, bb5, bb6, hf, y7, y8, hp⟩ := hO
  refine ib_same ?_
  refine th_n ?_
  refine wp_seq ?_
  refine wp_reg ?_
  refine st_move hf rfl rfl (by decide) ?_
  clear hf; intro a ha hf; clear ha
  refine st_assign hf rfl rfl (by decide) ?_
  clear hf; intro a ha hf; clear ha
  refine st_nil hf ?_
  refine th_n ?_
  refine wp_ret ?_
  obtain rfl := Option.some.inj h
  exact ⟨rfl, ⟨_, _, hf.sub ⟨rfl, trivial⟩, y7, y8, hp⟩⟩

noncomputable def f_feedback_first.s1c (hx0 : (Fl × Fl)) (t7 : Int) : Option (Int ⊕ (Unit ⊕ (Fl × Int × Bool))) := (if (decide (t7 < (4 : Int))) = true then ((f_feedback_turned hx0 t7).bind fun q1 => (if ((feq q1.2 (Fl.bits 0)) && (((feq q1.1 (Fl.bits 4607182418800017408)) || (feq q1.1 (Fl.bits 4602678819172646912))) || (feq q1.1 (Fl.bits 4598175219545276416)))) = true then (some (Sum.inr (Sum.inr (q1.1, t7, true)))) else (some (Sum.inl (IntKind.i64.wrap (t7 + (1 : Int))))))) else (some (Sum.inr (Sum.inl ()))))
noncomputable def f_feedback_first.s1 (hx0 : (Fl × Fl)) (s : Int) : Option (Int ⊕ (Unit ⊕ (Fl × Int × Bool))) := f_feedback_first.s1c hx0 s
noncomputable def f_feedback_first (hx0 : (Fl × Fl)) : Option (Fl × Int × Bool) := ((loop (f_feedback_first.s1 hx0) (0 : Int)).bind (fun q13 => sm q13 (fun q14 => (some ((Fl.bits 0), (0 : Int), false))) (fun q15 => (some (q15.1, q15.2.1, q15.2.2)))))
theorem f_feedback_first_c {S : Nat → Prop} {w0 w : World} {ow : List Res} (hp : Hp S w0 w ow) (bhx0 chx0 : Nat) (hx0 : Fl × Fl) (hhx0 : hx0.1.rep bhx0) (khx0 : hx0.2.rep chx0) {r : (Fl × Int × Bool)} (h : f_feedback_first hx0 = some r) :
    Calls Try.prog 46 #[.complex .f64 bhx0 chx0] w (fun e w' => ∃ (b0 : Nat), e = .returned (.tuple #[.float .f64 b0, .int .i64 r.2.1, .bool r.2.2]) ∧ Fl.rep b0 r.1 ∧ Hp S w0 w' (ow)) := by
  unfold f_feedback_first at h
  refine enter (n := 35) (args := [.complex .f64 bhx0 chx0]) Try.func46 rfl rfl (Nat.le_of_ble_eq_true rfl) fun a hf => ?_
  replace hf : Fr 35 a [(0, .complex .f64 bhx0 chx0)] := hf
  refine wp_mono (Q := fun e a w => e = .ret ∧ ∃ (b0 : Nat), Fr 35 a [(2, .float .f64 b0), (3, .int .i64 r.2.1), (4, .bool r.2.2)] ∧ Fl.rep b0 r.1 ∧ Hp S w0 w (ow)) ?_ ?_
  rotate_left
  · rintro e a w ⟨rfl, x0, hf, y0, hp⟩
    exact ret3 hf rfl rfl rfl rfl ⟨x0, rfl, y0, hp⟩
  refine wp_seq ?_
  refine wp_reg ?_
  refine st_assign hf rfl rfl (by decide) ?_
  clear hf; intro a ha hf; clear ha
  refine st_assign hf rfl rfl (by decide) ?_
  clear hf; intro a ha hf; clear ha
  refine st_assign hf rfl rfl (by decide) ?_
  clear hf; intro a ha hf; clear ha
  refine st_nil hf ?_
  refine th_n ?_
  refine wp_seq ?_
  refine wp_seq ?_
  refine wp_reg ?_
  refine st_move hf rfl rfl (by decide) ?_
  clear hf; intro a ha hf; clear ha
  refine st_nil hf ?_
  refine th_n ?_
  refine wp_block ?_
  obtain ⟨q13, hl, h⟩ := bnd h
  refine wp_loop_pure (f := (f_feedback_first.s1 hx0)) (s := (0 : Int)) (fun s a w => Fr 35 a [(0, .complex .f64 bhx0 chx0), (7, .int .i64 s)] ∧ Hp S w0 w (ow)) (fun q e a w => match q with | (Sum.inl q) => e = .exit 0 ∧ Fr 35 a [] ∧ Hp S w0 w (ow) | (Sum.inr q) => e = .ret ∧ ∃ (b0 : Nat), Fr 35 a [(2, .float .f64 b0), (3, .int .i64 q.2.1), (4, .bool q.2.2)] ∧ Fl.rep b0 q.1 ∧ Hp S w0 w (ow)) ?_ hl ⟨hf.sub ⟨rfl, rfl, trivial⟩, hp⟩ ?_
  · clear hl hf hp
    intro s x a w h hI
    obtain ⟨t7, hs⟩ : ∃ z, z = s := ⟨s, rfl⟩; subst hs
    obtain ⟨hf, hp⟩ : Fr 35 a [(0, .complex .f64 bhx0 chx0), (7, .int .i64 t7)] ∧ Hp S w0 w (ow) := hI
    replace h : f_feedback_first.s1c hx0 t7 = some x := h
    unfold f_feedback_first.s1c at h
    refine wp_seq ?_
    refine wp_reg ?_
    refine st_ilss hf (by decide) rfl rfl rfl ?_
    clear hf; intro a ha hf; clear ha
    refine st_nil hf ?_
    refine th_n ?_
    refine wp_seq ?_
    refine wp_if hf rfl (fun hb => ?_) (fun hb => ?_)
    · replace h := ifT h hb
      refine wp_skip ?_
      refine th_n ?_
      refine wp_seq ?_
      refine wp_block ?_
      refine wp_seq ?_
      refine wp_reg ?_
      refine st_move hf rfl rfl (by decide) ?_
      clear hf; intro a ha hf; clear ha
      refine st_assign hf rfl rfl (by decide) ?_
      clear hf; intro a ha hf; clear ha
      refine st_nil hf ?_
      refine th_n ?_
      refine wp_seq ?_
      refine wp_reg ?_
      refine st_move hf rfl rfl (by decide) ?_
      clear hf; intro a ha hf; clear ha
      refine st_move hf rfl rfl (by decide) ?_
      clear hf; intro a ha hf; clear ha
      obtain ⟨q1, hcall2, h⟩ := bnd h
      refine st_call hf (by decide) Try.func49 rfl rfl rfl rfl rfl (f_feedback_turned_c hp _ _ _ (show Fl.rep bhx0 (hx0).1 from hhx0) (show Fl.rep chx0 (hx0).2 from khx0) _ hcall2) ?_
      rintro _ w ⟨v3, v4, rfl, y5, y6, hp0⟩
      clear hp; have hp := hp0; clear hp0
      replace hp : Hp _ _ _ (ow) := hp
      refine ⟨_, rfl, ?_⟩
      clear hf; intro a hf
      refine st_assign hf rfl rfl (by decide) ?_
      clear hf; intro a ha hf; clear ha
      refine st_nil hf ?_
      refine th_n ?_
      refine wp_seq ?_
      refine wp_reg ?_
      refine st_move hf rfl rfl (by decide) ?_
      clear hf; intro a ha hf; clear ha
      refine st_imag hf (by decide) rfl rfl ?_
      clear hf; intro a ha hf; clear ha
      refine st_fcmp (r_feq (fx := q1.2) (fy := (Fl.bits 0)) y6 rfl) hf (by decide) rfl rfl rfl ?_
      clear hf; intro a ha hf; clear ha
      refine st_move hf rfl rfl (by decide) ?_
      clear hf; intro a ha hf; clear ha
      refine wpList_cut 14 (fun a w => Fr 35 a [(0, .complex .f64 bhx0 chx0), (5, .int .i64 t7), (6, .complex .f64 v3 v4), (7, .int .i64 t7), (30, .bool ((feq q1.2 (Fl.bits 0)) && (((feq q1.1 (Fl.bits 4607182418800017408)) || (feq q1.1 (Fl.bits 4602678819172646912))) || (feq q1.1 (Fl.bits 4598175219545276416)))))] ∧ Hp S w0 w (ow)) ?_ ?_
      · rcases Bool.eq_false_or_eq_true (feq q1.2 (Fl.bits 0)) with hb8 | hb8
        · skip
          refine st_move hf (wantY hf rfl rfl hb8) rfl (by decide) ?_
          clear hf; intro a ha hf; clear ha
          refine st_real hf (by decide) (wantY hf rfl rfl hb8) rfl ?_
          clear hf; intro a ha hf; clear ha
          refine st_fcmp (r_feq (fx := q1.1) (fy := (Fl.bits 4607182418800017408)) y5 rfl) hf (by decide) (wantY hf rfl rfl hb8) rfl rfl ?_
          clear hf; intro a ha hf; clear ha
          refine st_move hf (wantY hf rfl rfl hb8) rfl (by decide) ?_
          clear hf; intro a ha hf; clear ha
          refine wpList_cut 4 (fun a w => Fr 35 a [(0, .complex .f64 bhx0 chx0), (5, .int .i64 t7), (6, .complex .f64 v3 v4), (7, .int .i64 t7), (16, .bool (feq q1.2 (Fl.bits 0))), (24, .bool ((feq q1.1 (Fl.bits 4607182418800017408)) || (feq q1.1 (Fl.bits 4602678819172646912))))] ∧ Hp S w0 w (ow)) ?_ ?_
          · rcases Bool.eq_false_or_eq_true (feq q1.1 (Fl.bits 4607182418800017408)) with hb10 | hb10
            · skip
              refine st_skip hf (wantN hf rfl rfl hb10) rfl (by decide) ?_ rfl
              clear hf; intro a hf
              refine st_skip hf (wantN hf rfl rfl hb10) rfl (by decide) ?_ rfl
              clear hf; intro a hf
              refine st_skip hf (wantN hf rfl rfl hb10) rfl (by decide) ?_ rfl
              clear hf; intro a hf
              refine st_pick (v := .bool true) hf (wantY hf rfl rfl hb8) rfl (fun hb' => ?_) (fun hb' => ?_) (by decide) ?_
              · rfl
              · exact absurd (hb10.symm.trans hb') (by decide)
              clear hf; intro a ha hf; clear ha
              refine st_nil hf (th_n ?_)
              exact ⟨hf.sub ⟨rfl, rfl, rfl, rfl, rfl, (by rw [hb10]; rfl), trivial⟩, hp⟩
            refine st_move hf (wantY hf rfl rfl hb10) rfl (by decide) ?_
            clear hf; intro a ha hf; clear ha
            refine st_real hf (by decide) (wantY hf rfl rfl hb10) rfl ?_
            clear hf; intro a ha hf; clear ha
            refine st_fcmp (r_feq (fx := q1.1) (fy := (Fl.bits 4602678819172646912)) y5 rfl) hf (by decide) (wantY hf rfl rfl hb10) rfl rfl ?_
            clear hf; intro a ha hf; clear ha
            refine st_pick (v := .bool (feq q1.1 (Fl.bits 4602678819172646912))) hf (wantY hf rfl rfl hb8) rfl (fun hb' => ?_) (fun hb' => ?_) (by decide) ?_
            · exact absurd (hb10.symm.trans hb') (by decide)
            · rfl
            clear hf; intro a ha hf; clear ha
            refine st_nil hf (th_n ?_)
            exact ⟨hf.sub ⟨rfl, rfl, rfl, rfl, rfl, (by rw [hb10]; rfl), trivial⟩, hp⟩
          rintro a w ⟨hf, hp⟩
          refine st_move hf (wantY hf rfl rfl hb8) rfl (by decide) ?_
          clear hf; intro a ha hf; clear ha
          refine wpList_cut 4 (fun a w => Fr 35 a [(0, .complex .f64 bhx0 chx0), (5, .int .i64 t7), (6, .complex .f64 v3 v4), (7, .int .i64 t7), (16, .bool (feq q1.2 (Fl.bits 0))), (29, .bool (((feq q1.1 (Fl.bits 4607182418800017408)) || (feq q1.1 (Fl.bits 4602678819172646912))) || (feq q1.1 (Fl.bits 4598175219545276416))))] ∧ Hp S w0 w (ow)) ?_ ?_
          · rcases Bool.eq_false_or_eq_true ((feq q1.1 (Fl.bits 4607182418800017408)) || (feq q1.1 (Fl.bits 4602678819172646912))) with hb12 | hb12
            · skip
              refine st_skip hf (wantN hf rfl rfl hb12) rfl (by decide) ?_ rfl
              clear hf; intro a hf
              refine st_skip hf (wantN hf rfl rfl hb12) rfl (by decide) ?_ rfl
              clear hf; intro a hf
              refine st_skip hf (wantN hf rfl rfl hb12) rfl (by decide) ?_ rfl
              clear hf; intro a hf
              refine st_pick (v := .bool true) hf (wantY hf rfl rfl hb8) rfl (fun hb' => ?_) (fun hb' => ?_) (by decide) ?_
              · rfl
              · exact absurd (hb12.symm.trans hb') (by decide)
              clear hf; intro a ha hf; clear ha
              refine st_nil hf (th_n ?_)
              exact ⟨hf.sub ⟨rfl, rfl, rfl, rfl, rfl, (by rw [hb12]; rfl), trivial⟩, hp⟩
            refine st_move hf (wantY hf rfl rfl hb12) rfl (by decide) ?_
            clear hf; intro a ha hf; clear ha
            refine st_real hf (by decide) (wantY hf rfl rfl hb12) rfl ?_
            clear hf; intro a ha hf; clear ha
            refine st_fcmp (r_feq (fx := q1.1) (fy := (Fl.bits 4598175219545276416)) y5 rfl) hf (by decide) (wantY hf rfl rfl hb12) rfl rfl ?_
            clear hf; intro a ha hf; clear ha
            refine st_pick (v := .bool (feq q1.1 (Fl.bits 4598175219545276416))) hf (wantY hf rfl rfl hb8) rfl (fun hb' => ?_) (fun hb' => ?_) (by decide) ?_
            · exact absurd (hb12.symm.trans hb') (by decide)
            · rfl
            clear hf; intro a ha hf; clear ha
            refine st_nil hf (th_n ?_)
            exact ⟨hf.sub ⟨rfl, rfl, rfl, rfl, rfl, (by rw [hb12]; rfl), trivial⟩, hp⟩
          rintro a w ⟨hf, hp⟩
          refine st_pick (v := .bool (((feq q1.1 (Fl.bits 4607182418800017408)) || (feq q1.1 (Fl.bits 4602678819172646912))) || (feq q1.1 (Fl.bits 4598175219545276416)))) hf rfl rfl (fun hb' => ?_) (fun hb' => ?_) (by decide) ?_
          · rfl
          · exact absurd (hb8.symm.trans hb') (by decide)
          clear hf; intro a ha hf; clear ha
          refine st_nil hf (th_n ?_)
          exact ⟨hf.sub ⟨rfl, rfl, rfl, rfl, (by rw [hb8]; rfl), trivial⟩, hp⟩
        refine st_skip hf (wantN hf rfl rfl hb8) rfl (by decide) ?_ rfl
        clear hf; intro a hf
        refine st_skip hf (wantN hf rfl rfl hb8) rfl (by decide) ?_ rfl
        clear hf; intro a hf
        refine st_skip hf (wantN hf rfl rfl hb8) rfl (by decide) ?_ rfl
        clear hf; intro a hf
        refine st_skipU hf (wantN hf rfl rfl hb8) rfl (by decide) ?_
        clear hf; intro a hf
        refine st_skip hf (wantU hf rfl rfl) rfl (by decide) ?_ rfl
        clear hf; intro a hf
        refine st_skip hf (wantU hf rfl rfl) rfl (by decide) ?_ rfl
        clear hf; intro a hf
        refine st_skip hf (wantU hf rfl rfl) rfl (by decide) ?_ rfl
        clear hf; intro a hf
        refine st_skip hf (wantN hf rfl rfl hb8) rfl (by decide) ?_ rfl
        clear hf; intro a hf
        refine st_skipU hf (wantN hf rfl rfl hb8) rfl (by decide) ?_
        clear hf; intro a hf
        refine st_skip hf (wantU hf rfl rfl) rfl (by decide) ?_ rfl
        clear hf; intro a hf
        refine st_skip hf (wantU hf rfl rfl) rfl (by decide) ?_ rfl
        clear hf; intro a hf
        refine st_skip hf (wantU hf rfl rfl) rfl (by decide) ?_ rfl
        clear hf; intro a hf
        refine st_skip hf (wantN hf rfl rfl hb8) rfl (by decide) ?_ rfl
        clear hf; intro a hf
        refine st_pick (v := .bool false) hf rfl rfl (fun hb' => ?_) (fun hb' => ?_) (by decide) ?_
        · exact absurd (hb8.symm.trans hb') (by decide)
        · rfl
        clear hf; intro a ha hf; clear ha
        refine st_nil hf (th_n ?_)
        exact ⟨hf.sub ⟨rfl, rfl, rfl, rfl, (by rw [hb8]; rfl), trivial⟩, hp⟩
      rintro a w ⟨hf, hp⟩
      refine st_nil hf ?_
      refine th_n ?_
      refine wp_if hf rfl (fun hb => ?_) (fun hb => ?_)
      · replace h := ifT h hb
        refine wp_seq ?_
        refine wp_reg ?_
        refine st_move hf rfl rfl (by decide) ?_
        clear hf; intro a ha hf; clear ha
        refine st_real hf (by decide) rfl rfl ?_
        clear hf; intro a ha hf; clear ha
        refine st_move hf rfl rfl (by decide) ?_
        clear hf; intro a ha hf; clear ha
        refine st_assign hf rfl rfl (by decide) ?_
        clear hf; intro a ha hf; clear ha
        refine st_assign hf rfl rfl (by decide) ?_
        clear hf; intro a ha hf; clear ha
        refine st_assign hf rfl rfl (by decide) ?_
        clear hf; intro a ha hf; clear ha
        refine st_nil hf ?_
        refine th_n ?_
        refine wp_ret ?_
        refine ib_r ?_
        refine th_r ?_
        obtain rfl := Option.some.inj h
        exact rnd_r (by simp) ⟨rfl, ⟨_, hf.sub ⟨rfl, rfl, rfl, trivial⟩, y5, hp⟩⟩
      replace h := ifF h hb
      refine wp_skip ?_
      refine ib_n ?_
      refine th_n ?_
      refine wp_reg ?_
      refine st_iadd hf (by decide) rfl rfl rfl ?_
      clear hf; intro a ha hf; clear ha
      refine st_move hf rfl rfl (by decide) ?_
      clear hf; intro a ha hf; clear ha
      refine st_nil hf ?_
      obtain rfl := Option.some.inj h
      exact rnd_l ⟨hf.sub ⟨rfl, rfl, trivial⟩, hp⟩
    replace h := ifF h hb
    refine wp_exit ?_
    refine th_e ?_
    obtain rfl := Option.some.inj h
    exact rnd_r (by simp) ⟨rfl, hf.sub trivial, hp⟩
  clear hl hf hp
  intro e a w hne hO
  rcases q13 with q14 | q15
  · replace h := smL h
    obtain ⟨rfl, hf, hp⟩ := hO
    refine ib_same ?_
    refine th_n ?_
    refine wp_seq ?_
    refine wp_reg ?_
    refine st_assign hf rfl rfl (by decide) ?_
    clear hf; intro a ha hf; clear ha
    refine st_assign hf rfl rfl (by decide) ?_
    clear hf; intro a ha hf; clear ha
    refine st_assign hf rfl rfl (by decide) ?_
    clear hf; intro a ha hf; clear ha
    refine st_nil hf ?_
    refine th_n ?_
    refine wp_ret ?_
    obtain rfl := Option.some.inj h
    exact ⟨rfl, ⟨_, hf.sub ⟨rfl, rfl, rfl, trivial⟩, rfl, hp⟩⟩
  replace h := smR h
  obtain ⟨rfl, x0, hf, y0, hp⟩ := hO
  refine ib_r ?_
  refine th_r ?_
  obtain rfl := Option.some.inj h
  exact ⟨rfl, ⟨_, hf.sub ⟨rfl, rfl, rfl, trivial⟩, y0, hp⟩⟩

noncomputable def f_feedback_Check (l0 : (List (Fl × Fl))) : Option Int := ((f_feedback_taps l0).bind fun q1 => (if (!q1) = true then (some (8 : Int)) else (if 0 ≤ (0 : Int) ∧ (0 : Int) < (l0.length : Int) then ((f_feedback_first (gt l0 (0 : Int))).bind fun q8 => (if (!q8.2.2) = true then (some (110 : Int)) else (some (0 : Int)))) else none)))
theorem f_feedback_Check_c {S : Nat → Prop} {w0 w : World} {ow : List Res} (hp : Hp S w0 w ow) (vl0 : Value) (l0 : (List (Fl × Fl))) (hl0 : RdS Ek.c128 S w0 vl0 l0) {r : Int} (h : f_feedback_Check l0 = some r) :
    Calls Try.prog 45 #[vl0] w (fun e w' => e = .returned (.int .i64 r) ∧ Hp S w0 w' (ow)) := by
  unfold f_feedback_Check at h
  refine enter (n := 19) (args := [vl0]) Try.func45 rfl rfl (Nat.le_of_ble_eq_true rfl) fun a hf => ?_
  replace hf : Fr 19 a [(0, vl0)] := hf
  refine wp_mono (Q := fun e a w => e = .ret ∧ Fr 19 a [(2, .int .i64 r)] ∧ Hp S w0 w (ow)) ?_ ?_
  rotate_left
  · rintro e a w ⟨rfl, hf, hp⟩
    exact ret1 hf rfl rfl ⟨rfl, hp⟩
  refine wp_seq ?_
  refine wp_reg ?_
  refine st_assign hf rfl rfl (by decide) ?_
  clear hf; intro a ha hf; clear ha
  refine st_nil hf ?_
  refine th_n ?_
  refine wp_seq ?_
  refine wp_seq ?_
  refine wp_reg ?_
  refine st_move hf rfl rfl (by decide) ?_
  clear hf; intro a ha hf; clear ha
  obtain ⟨q1, hcall2, h⟩ := bnd h
  refine st_call hf (by decide) Try.func63 rfl rfl rfl rfl rfl (f_feedback_taps_c hp _ _ hl0 hcall2) ?_
  rintro _ w ⟨rfl, hp0⟩
  clear hp; have hp := hp0; clear hp0
  replace hp : Hp _ _ _ (ow) := hp
  refine ⟨_, rfl, ?_⟩
  clear hf; intro a hf
  refine st_not hf (by decide) rfl rfl ?_
  clear hf; intro a ha hf; clear ha
  refine st_nil hf ?_
  refine th_n ?_
  refine wp_if hf rfl (fun hb => ?_) (fun hb => ?_)
  · replace h := ifT h hb
    refine wp_seq ?_
    refine wp_reg ?_
    refine st_assign hf rfl rfl (by decide) ?_
    clear hf; intro a ha hf; clear ha
    refine st_nil hf ?_
    refine th_n ?_
    refine wp_ret ?_
    refine th_r ?_
    obtain rfl := Option.some.inj h
    exact ⟨rfl, ⟨hf.sub ⟨rfl, trivial⟩, hp⟩⟩
  replace h := ifF h hb
  refine wp_skip ?_
  refine th_n ?_
  refine wp_seq ?_
  refine wp_seq ?_
  refine wp_reg ?_
  refine st_move hf rfl rfl (by decide) ?_
  clear hf; intro a ha hf; clear ha
  obtain ⟨hc3, h⟩ := chk h
  refine st_index (E := Ek.c128) hf (by decide) Try.underlying32 elt39 rfl rfl rfl (hl0.sl hp) hc3.1 hc3.2 ?_
  clear hf; intro a ha hf; clear ha
  refine st_ldC hf (by decide) pl39 rfl rfl (hl0.sl hp) hc3.1 hc3.2 ?_
  clear hf; intro a bb4 bb5 y6 y7 ha hf; clear ha
  obtain ⟨q8, hcall9, h⟩ := bnd h
  refine st_call hf (by decide) Try.func46 rfl rfl rfl rfl rfl (f_feedback_first_c hp _ _ _ (show Fl.rep bb4 ((gt l0 (0 : Int))).1 from y6) (show Fl.rep bb5 ((gt l0 (0 : Int))).2 from y7) hcall9) ?_
  rintro _ w ⟨v10, rfl, y11, hp0⟩
  clear hp; have hp := hp0; clear hp0
  replace hp : Hp _ _ _ (ow) := hp
  refine ⟨_, rfl, ?_⟩
  clear hf; intro a hf
  refine st_move hf rfl rfl (by decide) ?_
  clear hf; intro a ha hf; clear ha
  refine st_extract hf (by decide) rfl rfl rfl ?_
  clear hf; intro a ha hf; clear ha
  refine st_extract hf (by decide) rfl rfl rfl ?_
  clear hf; intro a ha hf; clear ha
  refine st_extract hf (by decide) rfl rfl rfl ?_
  clear hf; intro a ha hf; clear ha
  refine st_assign hf rfl rfl (by decide) ?_
  clear hf; intro a ha hf; clear ha
  refine st_assign hf rfl rfl (by decide) ?_
  clear hf; intro a ha hf; clear ha
  refine st_assign hf rfl rfl (by decide) ?_
  clear hf; intro a ha hf; clear ha
  refine st_nil hf ?_
  refine th_n ?_
  refine wp_seq ?_
  refine wp_reg ?_
  refine st_move hf rfl rfl (by decide) ?_
  clear hf; intro a ha hf; clear ha
  refine st_not hf (by decide) rfl rfl ?_
  clear hf; intro a ha hf; clear ha
  refine st_nil hf ?_
  refine th_n ?_
  refine wp_if hf rfl (fun hb => ?_) (fun hb => ?_)
  · replace h := ifT h hb
    refine wp_seq ?_
    refine wp_reg ?_
    refine st_assign hf rfl rfl (by decide) ?_
    clear hf; intro a ha hf; clear ha
    refine st_nil hf ?_
    refine th_n ?_
    refine wp_ret ?_
    refine th_r ?_
    obtain rfl := Option.some.inj h
    exact ⟨rfl, ⟨hf.sub ⟨rfl, trivial⟩, hp⟩⟩
  replace h := ifF h hb
  refine wp_skip ?_
  refine th_n ?_
  refine wp_seq ?_
  refine wp_reg ?_
  refine st_assign hf rfl rfl (by decide) ?_
  clear hf; intro a ha hf; clear ha
  refine st_nil hf ?_
  refine th_n ?_
  refine wp_ret ?_
  obtain rfl := Option.some.inj h
  exact ⟨rfl, ⟨hf.sub ⟨rfl, trivial⟩, hp⟩⟩

noncomputable def f_feedback_New (hx1 : (List (Fl × Fl))) : Option ((Int × (List (Fl × Fl)) × (List (Fl × Fl)) × Int × Int × Fl × Int × Bool × Bool × (Fl × Fl)) × Int) := ((f_points_Edge).bind fun q1 => (if (q1.2 != (0 : Int)) = true then none else ((f_feedback_Check hx1).bind fun q3 => (if (q3 != (0 : Int)) = true then none else (if 0 < hx1.length then ((some (([((4 : Int), (List.replicate 64 (Fl.bits 0, Fl.bits 0)), (List.replicate 64 (Fl.bits 0, Fl.bits 0)), (hx1.length : Int), (0 : Int), (Fl.bits 0), (0 : Int), false, false, (Fl.bits 0, Fl.bits 0))]).set ((0 : Int)).toNat ((gt ([((4 : Int), (List.replicate 64 (Fl.bits 0, Fl.bits 0)), (List.replicate 64 (Fl.bits 0, Fl.bits 0)), (hx1.length : Int), (0 : Int), (Fl.bits 0), (0 : Int), false, false, (Fl.bits 0, Fl.bits 0))]) (0 : Int)).1, (cpy ((gt ([((4 : Int), (List.replicate 64 (Fl.bits 0, Fl.bits 0)), (List.replicate 64 (Fl.bits 0, Fl.bits 0)), (hx1.length : Int), (0 : Int), (Fl.bits 0), (0 : Int), false, false, (Fl.bits 0, Fl.bits 0))]) (0 : Int)).2.1) 0 hx1), (gt ([((4 : Int), (List.replicate 64 (Fl.bits 0, Fl.bits 0)), (List.replicate 64 (Fl.bits 0, Fl.bits 0)), (hx1.length : Int), (0 : Int), (Fl.bits 0), (0 : Int), false, false, (Fl.bits 0, Fl.bits 0))]) (0 : Int)).2.2.1, (gt ([((4 : Int), (List.replicate 64 (Fl.bits 0, Fl.bits 0)), (List.replicate 64 (Fl.bits 0, Fl.bits 0)), (hx1.length : Int), (0 : Int), (Fl.bits 0), (0 : Int), false, false, (Fl.bits 0, Fl.bits 0))]) (0 : Int)).2.2.2.1, (gt ([((4 : Int), (List.replicate 64 (Fl.bits 0, Fl.bits 0)), (List.replicate 64 (Fl.bits 0, Fl.bits 0)), (hx1.length : Int), (0 : Int), (Fl.bits 0), (0 : Int), false, false, (Fl.bits 0, Fl.bits 0))]) (0 : Int)).2.2.2.2.1, (gt ([((4 : Int), (List.replicate 64 (Fl.bits 0, Fl.bits 0)), (List.replicate 64 (Fl.bits 0, Fl.bits 0)), (hx1.length : Int), (0 : Int), (Fl.bits 0), (0 : Int), false, false, (Fl.bits 0, Fl.bits 0))]) (0 : Int)).2.2.2.2.2.1, (gt ([((4 : Int), (List.replicate 64 (Fl.bits 0, Fl.bits 0)), (List.replicate 64 (Fl.bits 0, Fl.bits 0)), (hx1.length : Int), (0 : Int), (Fl.bits 0), (0 : Int), false, false, (Fl.bits 0, Fl.bits 0))]) (0 : Int)).2.2.2.2.2.2.1, (gt ([((4 : Int), (List.replicate 64 (Fl.bits 0, Fl.bits 0)), (List.replicate 64 (Fl.bits 0, Fl.bits 0)), (hx1.length : Int), (0 : Int), (Fl.bits 0), (0 : Int), false, false, (Fl.bits 0, Fl.bits 0))]) (0 : Int)).2.2.2.2.2.2.2.1, (gt ([((4 : Int), (List.replicate 64 (Fl.bits 0, Fl.bits 0)), (List.replicate 64 (Fl.bits 0, Fl.bits 0)), (hx1.length : Int), (0 : Int), (Fl.bits 0), (0 : Int), false, false, (Fl.bits 0, Fl.bits 0))]) (0 : Int)).2.2.2.2.2.2.2.2.1, (gt ([((4 : Int), (List.replicate 64 (Fl.bits 0, Fl.bits 0)), (List.replicate 64 (Fl.bits 0, Fl.bits 0)), (hx1.length : Int), (0 : Int), (Fl.bits 0), (0 : Int), false, false, (Fl.bits 0, Fl.bits 0))]) (0 : Int)).2.2.2.2.2.2.2.2.2))).bind fun q8 => (if 0 ≤ (0 : Int) ∧ (0 : Int) < (hx1.length : Int) then ((f_feedback_first (gt hx1 (0 : Int))).bind fun q16 => ((some (q8.set ((0 : Int)).toNat ((gt q8 (0 : Int)).1, (gt q8 (0 : Int)).2.1, (gt q8 (0 : Int)).2.2.1, (gt q8 (0 : Int)).2.2.2.1, (gt q8 (0 : Int)).2.2.2.2.1, q16.1, (gt q8 (0 : Int)).2.2.2.2.2.2.1, (gt q8 (0 : Int)).2.2.2.2.2.2.2.1, (gt q8 (0 : Int)).2.2.2.2.2.2.2.2.1, (gt q8 (0 : Int)).2.2.2.2.2.2.2.2.2))).bind fun q20 => ((some (q20.set ((0 : Int)).toNat ((gt q20 (0 : Int)).1, (gt q20 (0 : Int)).2.1, (gt q20 (0 : Int)).2.2.1, (gt q20 (0 : Int)).2.2.2.1, (gt q20 (0 : Int)).2.2.2.2.1, (gt q20 (0 : Int)).2.2.2.2.2.1, q16.2.1, (gt q20 (0 : Int)).2.2.2.2.2.2.2.1, (gt q20 (0 : Int)).2.2.2.2.2.2.2.2.1, (gt q20 (0 : Int)).2.2.2.2.2.2.2.2.2))).bind fun q23 => (some ((gt q23 (0 : Int)), (0 : Int)))))) else none)) else none)))))
theorem f_feedback_New_c {S : Nat → Prop} {w0 w : World} {ow : List Res} (hp : Hp S w0 w ow) (vhx1 : Value) (hx1 : (List (Fl × Fl))) (hhx1 : RdS Ek.c128 S w0 vhx1 hx1) {r : ((Int × (List (Fl × Fl)) × (List (Fl × Fl)) × Int × Int × Fl × Int × Bool × Bool × (Fl × Fl)) × Int)} (h : f_feedback_New hx1 = some r) :
    Calls Try.prog 31 #[.int .i64 (4 : Int), vhx1] w (fun e w' => ∃ (u0 : Value), e = .returned (.tuple #[eptr (aslv u0 1) (0 : Int) 136, .int .i64 r.2]) ∧ Hp S w0 w' (Res.sl (Ek.pair (Ek.int .i64) (Ek.pair (Ek.arr 64 Ek.c128) (Ek.pair (Ek.arr 64 Ek.c128) (Ek.pair (Ek.int .i64) (Ek.pair (Ek.int .i64) (Ek.pair Ek.f64 (Ek.pair (Ek.int .i64) (Ek.pair Ek.bool (Ek.pair Ek.bool Ek.c128))))))))) 89 (aslv u0 1) [r.1] :: ow)) := by
  unfold f_feedback_New at h
  refine enter (n := 48) (args := [.int .i64 (4 : Int), vhx1]) Try.func31 rfl rfl (Nat.le_of_ble_eq_true rfl) fun a hf => ?_
  replace hf : Fr 48 a [(0, .int .i64 (4 : Int)), (1, vhx1)] := hf
  refine wp_mono (Q := fun e a w => e = .ret ∧ ∃ (u0 : Value), Fr 48 a [(4, eptr (aslv u0 1) (0 : Int) 136), (5, .int .i64 r.2)] ∧ Hp S w0 w (Res.sl (Ek.pair (Ek.int .i64) (Ek.pair (Ek.arr 64 Ek.c128) (Ek.pair (Ek.arr 64 Ek.c128) (Ek.pair (Ek.int .i64) (Ek.pair (Ek.int .i64) (Ek.pair Ek.f64 (Ek.pair (Ek.int .i64) (Ek.pair Ek.bool (Ek.pair Ek.bool Ek.c128))))))))) 89 (aslv u0 1) [r.1] :: ow)) ?_ ?_
  rotate_left
  · rintro e a w ⟨rfl, x0, hf, hp⟩
    exact ret2 hf rfl rfl rfl ⟨x0, rfl, hp⟩
  refine wp_seq ?_
  refine wp_reg ?_
  refine st_assign hf rfl rfl (by decide) ?_
  clear hf; intro a ha hf; clear ha
  refine st_assign hf rfl rfl (by decide) ?_
  clear hf; intro a ha hf; clear ha
  refine st_nil hf ?_
  refine th_n ?_
  refine wp_seq ?_
  refine wp_seq ?_
  refine wp_reg ?_
  refine st_move hf rfl rfl (by decide) ?_
  clear hf; intro a ha hf; clear ha
  obtain ⟨q1, hcall2, h⟩ := bnd h
  refine st_call hf (by decide) Try.func44 rfl rfl rfl rfl rfl (f_points_Edge_c hp  hcall2) ?_
  rintro _ w ⟨rfl, hp0⟩
  clear hp; have hp := hp0; clear hp0
  replace hp : Hp _ _ _ (ow) := hp
  refine ⟨_, rfl, ?_⟩
  clear hf; intro a hf
  refine st_move hf rfl rfl (by decide) ?_
  clear hf; intro a ha hf; clear ha
  refine st_extract hf (by decide) rfl rfl rfl ?_
  clear hf; intro a ha hf; clear ha
  refine st_extract hf (by decide) rfl rfl rfl ?_
  clear hf; intro a ha hf; clear ha
  refine st_assign hf rfl rfl (by decide) ?_
  clear hf; intro a ha hf; clear ha
  refine st_assign hf rfl rfl (by decide) ?_
  clear hf; intro a ha hf; clear ha
  refine st_nil hf ?_
  refine th_n ?_
  refine wp_seq ?_
  refine wp_reg ?_
  refine st_move hf rfl rfl (by decide) ?_
  clear hf; intro a ha hf; clear ha
  refine st_ineq hf (by decide) rfl rfl rfl ?_
  clear hf; intro a ha hf; clear ha
  refine st_nil hf ?_
  refine th_n ?_
  refine wp_if hf rfl (fun hb => ?_) (fun hb => ?_)
  · replace h := ifT h hb
    refine wp_seq ?_
    refine wp_reg ?_
    refine st_assign hf rfl rfl (by decide) ?_
    clear hf; intro a ha hf; clear ha
    refine st_assign hf rfl rfl (by decide) ?_
    clear hf; intro a ha hf; clear ha
    refine st_nil hf ?_
    refine th_n ?_
    refine wp_ret ?_
    refine th_r ?_
    cases h
  replace h := ifF h hb
  refine wp_skip ?_
  refine th_n ?_
  refine wp_seq ?_
  refine wp_seq ?_
  refine wp_reg ?_
  refine st_move hf rfl rfl (by decide) ?_
  clear hf; intro a ha hf; clear ha
  obtain ⟨q3, hcall4, h⟩ := bnd h
  refine st_call hf (by decide) Try.func45 rfl rfl rfl rfl rfl (f_feedback_Check_c hp _ _ hhx1 hcall4) ?_
  rintro _ w ⟨rfl, hp0⟩
  clear hp; have hp := hp0; clear hp0
  replace hp : Hp _ _ _ (ow) := hp
  refine ⟨_, rfl, ?_⟩
  clear hf; intro a hf
  refine st_assign hf rfl rfl (by decide) ?_
  clear hf; intro a ha hf; clear ha
  refine st_nil hf ?_
  refine th_n ?_
  refine wp_seq ?_
  refine wp_reg ?_
  refine st_move hf rfl rfl (by decide) ?_
  clear hf; intro a ha hf; clear ha
  refine st_ineq hf (by decide) rfl rfl rfl ?_
  clear hf; intro a ha hf; clear ha
  refine st_nil hf ?_
  refine th_n ?_
  refine wp_if hf rfl (fun hb => ?_) (fun hb => ?_)
  · replace h := ifT h hb
    refine wp_seq ?_
    refine wp_reg ?_
    refine st_move hf rfl rfl (by decide) ?_
    clear hf; intro a ha hf; clear ha
    refine st_assign hf rfl rfl (by decide) ?_
    clear hf; intro a ha hf; clear ha
    refine st_assign hf rfl rfl (by decide) ?_
    clear hf; intro a ha hf; clear ha
    refine st_nil hf ?_
    refine th_n ?_
    refine wp_ret ?_
    refine th_r ?_
    cases h
  replace h := ifF h hb
  refine wp_skip ?_
  refine th_n ?_
  refine wp_seq ?_
  refine wp_reg ?_
  refine st_move hf rfl rfl (by decide) ?_
  clear hf; intro a ha hf; clear ha
  refine st_move hf rfl rfl (by decide) ?_
  clear hf; intro a ha hf; clear ha
  refine st_len (E := Ek.c128) hf (by decide) Try.underlying32 rfl rfl (hhx1.sl hp) ?_
  clear hf; intro a ha hf; clear ha
  refine st_buildA (vals := [(0, .int .i64 (4 : Int)), (3, .int .i64 (hx1.length : Int))]) (cells := ([.int .i64 (4 : Int)] ++ ((List.replicate 64 ([.complex .f64 0 0] : List Value)).flatten ++ ((List.replicate 64 ([.complex .f64 0 0] : List Value)).flatten ++ ([.int .i64 (hx1.length : Int)] ++ ([.int .i64 0] ++ ([.float .f64 0] ++ ([.int .i64 0] ++ ([.bool false] ++ ([.bool false] ++ [.complex .f64 0 0])))))))))) hf (by decide) rfl (by simp [hf.ev (x := (Operand.tmp 22)) rfl, hf.ev (x := (Operand.tmp 24)) rfl]) (fun w => by kernel_rfl) ?_
  clear hf; intro a ha hf; clear ha
  refine st_boxBig (E := (Ek.pair (Ek.int .i64) (Ek.pair (Ek.arr 64 Ek.c128) (Ek.pair (Ek.arr 64 Ek.c128) (Ek.pair (Ek.int .i64) (Ek.pair (Ek.int .i64) (Ek.pair Ek.f64 (Ek.pair (Ek.int .i64) (Ek.pair Ek.bool (Ek.pair Ek.bool Ek.c128)))))))))) (x9 := ((4 : Int), (List.replicate 64 (Fl.bits 0, Fl.bits 0)), (List.replicate 64 (Fl.bits 0, Fl.bits 0)), (hx1.length : Int), (0 : Int), (Fl.bits 0), (0 : Int), false, false, (Fl.bits 0, Fl.bits 0))) hf (by decide) hp rfl rfl ⟨[.int .i64 (4 : Int)], ((List.replicate 64 ([.complex .f64 0 0] : List Value)).flatten ++ ((List.replicate 64 ([.complex .f64 0 0] : List Value)).flatten ++ ([.int .i64 (hx1.length : Int)] ++ ([.int .i64 0] ++ ([.float .f64 0] ++ ([.int .i64 0] ++ ([.bool false] ++ ([.bool false] ++ [.complex .f64 0 0])))))))), rfl, rfl, ⟨(List.replicate 64 ([.complex .f64 0 0] : List Value)).flatten, ((List.replicate 64 ([.complex .f64 0 0] : List Value)).flatten ++ ([.int .i64 (hx1.length : Int)] ++ ([.int .i64 0] ++ ([.float .f64 0] ++ ([.int .i64 0] ++ ([.bool false] ++ ([.bool false] ++ [.complex .f64 0 0]))))))), rfl, (arr_zero (N := 64) (F := Ek.c128) (zc := ([.complex .f64 0 0] : List Value)) (z := (Fl.bits 0, Fl.bits 0)) ⟨_, _, rfl, rfl, rfl⟩), ⟨(List.replicate 64 ([.complex .f64 0 0] : List Value)).flatten, ([.int .i64 (hx1.length : Int)] ++ ([.int .i64 0] ++ ([.float .f64 0] ++ ([.int .i64 0] ++ ([.bool false] ++ ([.bool false] ++ [.complex .f64 0 0])))))), rfl, (arr_zero (N := 64) (F := Ek.c128) (zc := ([.complex .f64 0 0] : List Value)) (z := (Fl.bits 0, Fl.bits 0)) ⟨_, _, rfl, rfl, rfl⟩), ⟨[.int .i64 (hx1.length : Int)], ([.int .i64 0] ++ ([.float .f64 0] ++ ([.int .i64 0] ++ ([.bool false] ++ ([.bool false] ++ [.complex .f64 0 0]))))), rfl, rfl, ⟨[.int .i64 0], ([.float .f64 0] ++ ([.int .i64 0] ++ ([.bool false] ++ ([.bool false] ++ [.complex .f64 0 0])))), rfl, rfl, ⟨[.float .f64 0], ([.int .i64 0] ++ ([.bool false] ++ ([.bool false] ++ [.complex .f64 0 0]))), rfl, ⟨_, rfl, rfl⟩, ⟨[.int .i64 0], ([.bool false] ++ ([.bool false] ++ [.complex .f64 0 0])), rfl, rfl, ⟨[.bool false], ([.bool false] ++ [.complex .f64 0 0]), rfl, rfl, ⟨[.bool false], [.complex .f64 0 0], rfl, rfl, ⟨_, _, rfl, rfl, rfl⟩⟩⟩⟩⟩⟩⟩⟩⟩⟩ ?_
  clear hf; intro a w v5 hf hp0; clear hp; have hp := hp0; clear hp0
  replace hp : Hp _ _ _ (Res.sl (Ek.pair (Ek.int .i64) (Ek.pair (Ek.arr 64 Ek.c128) (Ek.pair (Ek.arr 64 Ek.c128) (Ek.pair (Ek.int .i64) (Ek.pair (Ek.int .i64) (Ek.pair Ek.f64 (Ek.pair (Ek.int .i64) (Ek.pair Ek.bool (Ek.pair Ek.bool Ek.c128))))))))) 89 (aslv v5 1) ([((4 : Int), (List.replicate 64 (Fl.bits 0, Fl.bits 0)), (List.replicate 64 (Fl.bits 0, Fl.bits 0)), (hx1.length : Int), (0 : Int), (Fl.bits 0), (0 : Int), false, false, (Fl.bits 0, Fl.bits 0))]) :: ow) := hp
  refine st_assign hf rfl rfl (by decide) ?_
  clear hf; intro a ha hf; clear ha
  refine st_nil hf ?_
  refine th_n ?_
  refine wp_seq ?_
  refine wp_reg ?_
  refine st_move hf rfl rfl (by decide) ?_
  clear hf; intro a ha hf; clear ha
  refine st_nilE hf (by decide) rfl rfl (Sl.ptr (hp.sl (i := 0) rfl) (aslv_ix (hp.sl (i := 0) rfl) (show (0 : Int) ≤ (0 : Int) ∧ (0 : Int) < ((1 : Nat) : Int) from by decide)).1 (aslv_ix (hp.sl (i := 0) rfl) (show (0 : Int) ≤ (0 : Int) ∧ (0 : Int) < ((1 : Nat) : Int) from by decide)).2) ?_
  clear hf; intro a ha hf; clear ha
  refine st_faP (off := 1) (sz := 64) hf (by decide) (by kernel_rfl) (by decide) rfl rfl (Sl.isP (hp.sl (i := 0) rfl) (aslv_ix (hp.sl (i := 0) rfl) (show (0 : Int) ≤ (0 : Int) ∧ (0 : Int) < ((1 : Nat) : Int) from by decide)).1 (aslv_ix (hp.sl (i := 0) rfl) (show (0 : Int) ≤ (0 : Int) ∧ (0 : Int) < ((1 : Nat) : Int) from by decide)).2) ?_
  clear hf; intro a ha hf; clear ha
  refine st_slQ (F := Ek.c128) (N := 64) hf (by decide) Try.underlying87 (by kernel_rfl) rfl rfl (IsP.optr (Sl.isP (hp.sl (i := 0) rfl) (aslv_ix (hp.sl (i := 0) rfl) (show (0 : Int) ≤ (0 : Int) ∧ (0 : Int) < ((1 : Nat) : Int) from by decide)).1 (aslv_ix (hp.sl (i := 0) rfl) (show (0 : Int) ≤ (0 : Int) ∧ (0 : Int) < ((1 : Nat) : Int) from by decide)).2) _) ?_
  clear hf; intro a ha hf; clear ha
  refine st_move hf rfl rfl (by decide) ?_
  clear hf; intro a ha hf; clear ha
  obtain ⟨hc7, h⟩ := chk h
  refine st_copyQ (E := (Ek.pair (Ek.int .i64) (Ek.pair (Ek.arr 64 Ek.c128) (Ek.pair (Ek.arr 64 Ek.c128) (Ek.pair (Ek.int .i64) (Ek.pair (Ek.int .i64) (Ek.pair Ek.f64 (Ek.pair (Ek.int .i64) (Ek.pair Ek.bool (Ek.pair Ek.bool Ek.c128)))))))))) (F := Ek.c128) (N := 64) (o := 1) rfl (Sub.comp (Sub.snd (E := (Ek.int .i64)) (F := (Ek.pair (Ek.arr 64 Ek.c128) (Ek.pair (Ek.arr 64 Ek.c128) (Ek.pair (Ek.int .i64) (Ek.pair (Ek.int .i64) (Ek.pair Ek.f64 (Ek.pair (Ek.int .i64) (Ek.pair Ek.bool (Ek.pair Ek.bool Ek.c128)))))))))) (Sub.fst (E := (Ek.arr 64 Ek.c128)) (F := (Ek.pair (Ek.arr 64 Ek.c128) (Ek.pair (Ek.int .i64) (Ek.pair (Ek.int .i64) (Ek.pair Ek.f64 (Ek.pair (Ek.int .i64) (Ek.pair Ek.bool (Ek.pair Ek.bool Ek.c128)))))))))) hf (by decide) Try.underlying32 (by kernel_rfl) hp (i := 0) rfl (hhx1.sl hp) hc7 (aslv_ix (hp.sl (i := 0) rfl) (show (0 : Int) ≤ (0 : Int) ∧ (0 : Int) < ((1 : Nat) : Int) from by decide)).1 (aslv_ix (hp.sl (i := 0) rfl) (show (0 : Int) ≤ (0 : Int) ∧ (0 : Int) < ((1 : Nat) : Int) from by decide)).2 rfl rfl rfl ?_
  clear hf; intro a w hf hp0; clear hp; have hp := hp0; clear hp0
  replace hp : Hp _ _ _ (Res.sl (Ek.pair (Ek.int .i64) (Ek.pair (Ek.arr 64 Ek.c128) (Ek.pair (Ek.arr 64 Ek.c128) (Ek.pair (Ek.int .i64) (Ek.pair (Ek.int .i64) (Ek.pair Ek.f64 (Ek.pair (Ek.int .i64) (Ek.pair Ek.bool (Ek.pair Ek.bool Ek.c128))))))))) 89 (aslv v5 1) (([((4 : Int), (List.replicate 64 (Fl.bits 0, Fl.bits 0)), (List.replicate 64 (Fl.bits 0, Fl.bits 0)), (hx1.length : Int), (0 : Int), (Fl.bits 0), (0 : Int), false, false, (Fl.bits 0, Fl.bits 0))]).set ((0 : Int)).toNat ((gt ([((4 : Int), (List.replicate 64 (Fl.bits 0, Fl.bits 0)), (List.replicate 64 (Fl.bits 0, Fl.bits 0)), (hx1.length : Int), (0 : Int), (Fl.bits 0), (0 : Int), false, false, (Fl.bits 0, Fl.bits 0))]) (0 : Int)).1, (cpy ((gt ([((4 : Int), (List.replicate 64 (Fl.bits 0, Fl.bits 0)), (List.replicate 64 (Fl.bits 0, Fl.bits 0)), (hx1.length : Int), (0 : Int), (Fl.bits 0), (0 : Int), false, false, (Fl.bits 0, Fl.bits 0))]) (0 : Int)).2.1) 0 hx1), (gt ([((4 : Int), (List.replicate 64 (Fl.bits 0, Fl.bits 0)), (List.replicate 64 (Fl.bits 0, Fl.bits 0)), (hx1.length : Int), (0 : Int), (Fl.bits 0), (0 : Int), false, false, (Fl.bits 0, Fl.bits 0))]) (0 : Int)).2.2.1, (gt ([((4 : Int), (List.replicate 64 (Fl.bits 0, Fl.bits 0)), (List.replicate 64 (Fl.bits 0, Fl.bits 0)), (hx1.length : Int), (0 : Int), (Fl.bits 0), (0 : Int), false, false, (Fl.bits 0, Fl.bits 0))]) (0 : Int)).2.2.2.1, (gt ([((4 : Int), (List.replicate 64 (Fl.bits 0, Fl.bits 0)), (List.replicate 64 (Fl.bits 0, Fl.bits 0)), (hx1.length : Int), (0 : Int), (Fl.bits 0), (0 : Int), false, false, (Fl.bits 0, Fl.bits 0))]) (0 : Int)).2.2.2.2.1, (gt ([((4 : Int), (List.replicate 64 (Fl.bits 0, Fl.bits 0)), (List.replicate 64 (Fl.bits 0, Fl.bits 0)), (hx1.length : Int), (0 : Int), (Fl.bits 0), (0 : Int), false, false, (Fl.bits 0, Fl.bits 0))]) (0 : Int)).2.2.2.2.2.1, (gt ([((4 : Int), (List.replicate 64 (Fl.bits 0, Fl.bits 0)), (List.replicate 64 (Fl.bits 0, Fl.bits 0)), (hx1.length : Int), (0 : Int), (Fl.bits 0), (0 : Int), false, false, (Fl.bits 0, Fl.bits 0))]) (0 : Int)).2.2.2.2.2.2.1, (gt ([((4 : Int), (List.replicate 64 (Fl.bits 0, Fl.bits 0)), (List.replicate 64 (Fl.bits 0, Fl.bits 0)), (hx1.length : Int), (0 : Int), (Fl.bits 0), (0 : Int), false, false, (Fl.bits 0, Fl.bits 0))]) (0 : Int)).2.2.2.2.2.2.2.1, (gt ([((4 : Int), (List.replicate 64 (Fl.bits 0, Fl.bits 0)), (List.replicate 64 (Fl.bits 0, Fl.bits 0)), (hx1.length : Int), (0 : Int), (Fl.bits 0), (0 : Int), false, false, (Fl.bits 0, Fl.bits 0))]) (0 : Int)).2.2.2.2.2.2.2.2.1, (gt ([((4 : Int), (List.replicate 64 (Fl.bits 0, Fl.bits 0)), (List.replicate 64 (Fl.bits 0, Fl.bits 0)), (hx1.length : Int), (0 : Int), (Fl.bits 0), (0 : Int), false, false, (Fl.bits 0, Fl.bits 0))]) (0 : Int)).2.2.2.2.2.2.2.2.2)) :: ow) := hp
  obtain ⟨q8, hq9, h⟩ := bnd h
  have hq10 := Option.some.inj hq9
  rw [hq10] at hp
  replace hp : Hp _ _ _ (Res.sl (Ek.pair (Ek.int .i64) (Ek.pair (Ek.arr 64 Ek.c128) (Ek.pair (Ek.arr 64 Ek.c128) (Ek.pair (Ek.int .i64) (Ek.pair (Ek.int .i64) (Ek.pair Ek.f64 (Ek.pair (Ek.int .i64) (Ek.pair Ek.bool (Ek.pair Ek.bool Ek.c128))))))))) 89 (aslv v5 1) q8 :: ow) := hp
  refine st_nil hf ?_
  refine th_n ?_
  refine wp_seq ?_
  refine wp_reg ?_
  refine st_move hf rfl rfl (by decide) ?_
  clear hf; intro a ha hf; clear ha
  refine st_move hf rfl rfl (by decide) ?_
  clear hf; intro a ha hf; clear ha
  refine st_move hf rfl rfl (by decide) ?_
  clear hf; intro a ha hf; clear ha
  obtain ⟨hc11, h⟩ := chk h
  refine st_index (E := Ek.c128) hf (by decide) Try.underlying32 elt39 rfl rfl rfl (hhx1.sl hp) hc11.1 hc11.2 ?_
  clear hf; intro a ha hf; clear ha
  refine st_ldC hf (by decide) pl39 rfl rfl (hhx1.sl hp) hc11.1 hc11.2 ?_
  clear hf; intro a bb12 bb13 y14 y15 ha hf; clear ha
  obtain ⟨q16, hcall17, h⟩ := bnd h
  refine st_call hf (by decide) Try.func46 rfl rfl rfl rfl rfl (f_feedback_first_c hp _ _ _ (show Fl.rep bb12 ((gt hx1 (0 : Int))).1 from y14) (show Fl.rep bb13 ((gt hx1 (0 : Int))).2 from y15) hcall17) ?_
  rintro _ w ⟨v18, rfl, y19, hp0⟩
  clear hp; have hp := hp0; clear hp0
  replace hp : Hp _ _ _ (Res.sl (Ek.pair (Ek.int .i64) (Ek.pair (Ek.arr 64 Ek.c128) (Ek.pair (Ek.arr 64 Ek.c128) (Ek.pair (Ek.int .i64) (Ek.pair (Ek.int .i64) (Ek.pair Ek.f64 (Ek.pair (Ek.int .i64) (Ek.pair Ek.bool (Ek.pair Ek.bool Ek.c128))))))))) 89 (aslv v5 1) q8 :: ow) := hp
  refine ⟨_, rfl, ?_⟩
  clear hf; intro a hf
  refine st_move hf rfl rfl (by decide) ?_
  clear hf; intro a ha hf; clear ha
  refine st_extract hf (by decide) rfl rfl rfl ?_
  clear hf; intro a ha hf; clear ha
  refine st_extract hf (by decide) rfl rfl rfl ?_
  clear hf; intro a ha hf; clear ha
  refine st_extract hf (by decide) rfl rfl rfl ?_
  clear hf; intro a ha hf; clear ha
  refine st_nilE hf (by decide) rfl rfl (Sl.ptr (hp.sl (i := 0) rfl) (aslv_ix (hp.sl (i := 0) rfl) (show (0 : Int) ≤ (0 : Int) ∧ (0 : Int) < ((1 : Nat) : Int) from by decide)).1 (aslv_ix (hp.sl (i := 0) rfl) (show (0 : Int) ≤ (0 : Int) ∧ (0 : Int) < ((1 : Nat) : Int) from by decide)).2) ?_
  clear hf; intro a ha hf; clear ha
  refine st_faP (off := 131) (sz := 1) hf (by decide) (by kernel_rfl) (by decide) rfl rfl (Sl.isP (hp.sl (i := 0) rfl) (aslv_ix (hp.sl (i := 0) rfl) (show (0 : Int) ≤ (0 : Int) ∧ (0 : Int) < ((1 : Nat) : Int) from by decide)).1 (aslv_ix (hp.sl (i := 0) rfl) (show (0 : Int) ≤ (0 : Int) ∧ (0 : Int) < ((1 : Nat) : Int) from by decide)).2) ?_
  clear hf; intro a ha hf; clear ha
  refine st_stQ (E := (Ek.pair (Ek.int .i64) (Ek.pair (Ek.arr 64 Ek.c128) (Ek.pair (Ek.arr 64 Ek.c128) (Ek.pair (Ek.int .i64) (Ek.pair (Ek.int .i64) (Ek.pair Ek.f64 (Ek.pair (Ek.int .i64) (Ek.pair Ek.bool (Ek.pair Ek.bool Ek.c128)))))))))) (F := Ek.f64) (o := 131) (Sub.comp (Sub.snd (E := (Ek.int .i64)) (F := (Ek.pair (Ek.arr 64 Ek.c128) (Ek.pair (Ek.arr 64 Ek.c128) (Ek.pair (Ek.int .i64) (Ek.pair (Ek.int .i64) (Ek.pair Ek.f64 (Ek.pair (Ek.int .i64) (Ek.pair Ek.bool (Ek.pair Ek.bool Ek.c128)))))))))) (Sub.comp (Sub.snd (E := (Ek.arr 64 Ek.c128)) (F := (Ek.pair (Ek.arr 64 Ek.c128) (Ek.pair (Ek.int .i64) (Ek.pair (Ek.int .i64) (Ek.pair Ek.f64 (Ek.pair (Ek.int .i64) (Ek.pair Ek.bool (Ek.pair Ek.bool Ek.c128))))))))) (Sub.comp (Sub.snd (E := (Ek.arr 64 Ek.c128)) (F := (Ek.pair (Ek.int .i64) (Ek.pair (Ek.int .i64) (Ek.pair Ek.f64 (Ek.pair (Ek.int .i64) (Ek.pair Ek.bool (Ek.pair Ek.bool Ek.c128)))))))) (Sub.comp (Sub.snd (E := (Ek.int .i64)) (F := (Ek.pair (Ek.int .i64) (Ek.pair Ek.f64 (Ek.pair (Ek.int .i64) (Ek.pair Ek.bool (Ek.pair Ek.bool Ek.c128))))))) (Sub.comp (Sub.snd (E := (Ek.int .i64)) (F := (Ek.pair Ek.f64 (Ek.pair (Ek.int .i64) (Ek.pair Ek.bool (Ek.pair Ek.bool Ek.c128)))))) (Sub.fst (E := Ek.f64) (F := (Ek.pair (Ek.int .i64) (Ek.pair Ek.bool (Ek.pair Ek.bool Ek.c128)))))))))) hf (by kernel_rfl) hp (i := 0) rfl rfl rfl rfl (show Ek.f64.rep [.float .f64 v18] q16.1 from ⟨_, rfl, y19⟩) (aslv_ix (hp.sl (i := 0) rfl) (show (0 : Int) ≤ (0 : Int) ∧ (0 : Int) < ((1 : Nat) : Int) from by decide)).1 (aslv_ix (hp.sl (i := 0) rfl) (show (0 : Int) ≤ (0 : Int) ∧ (0 : Int) < ((1 : Nat) : Int) from by decide)).2 ?_
  clear hf; intro a w hf hp0; clear hp; have hp := hp0; clear hp0
  replace hp : Hp _ _ _ (Res.sl (Ek.pair (Ek.int .i64) (Ek.pair (Ek.arr 64 Ek.c128) (Ek.pair (Ek.arr 64 Ek.c128) (Ek.pair (Ek.int .i64) (Ek.pair (Ek.int .i64) (Ek.pair Ek.f64 (Ek.pair (Ek.int .i64) (Ek.pair Ek.bool (Ek.pair Ek.bool Ek.c128))))))))) 89 (aslv v5 1) (q8.set ((0 : Int)).toNat ((gt q8 (0 : Int)).1, (gt q8 (0 : Int)).2.1, (gt q8 (0 : Int)).2.2.1, (gt q8 (0 : Int)).2.2.2.1, (gt q8 (0 : Int)).2.2.2.2.1, q16.1, (gt q8 (0 : Int)).2.2.2.2.2.2.1, (gt q8 (0 : Int)).2.2.2.2.2.2.2.1, (gt q8 (0 : Int)).2.2.2.2.2.2.2.2.1, (gt q8 (0 : Int)).2.2.2.2.2.2.2.2.2)) :: ow) := hp
  obtain ⟨q20, hq21, h⟩ := bnd h
  have hq22 := Option.some.inj hq21
  rw [hq22] at hp
  replace hp : Hp _ _ _ (Res.sl (Ek.pair (Ek.int .i64) (Ek.pair (Ek.arr 64 Ek.c128) (Ek.pair (Ek.arr 64 Ek.c128) (Ek.pair (Ek.int .i64) (Ek.pair (Ek.int .i64) (Ek.pair Ek.f64 (Ek.pair (Ek.int .i64) (Ek.pair Ek.bool (Ek.pair Ek.bool Ek.c128))))))))) 89 (aslv v5 1) q20 :: ow) := hp
  refine st_nilE hf (by decide) rfl rfl (Sl.ptr (hp.sl (i := 0) rfl) (aslv_ix (hp.sl (i := 0) rfl) (show (0 : Int) ≤ (0 : Int) ∧ (0 : Int) < ((1 : Nat) : Int) from by decide)).1 (aslv_ix (hp.sl (i := 0) rfl) (show (0 : Int) ≤ (0 : Int) ∧ (0 : Int) < ((1 : Nat) : Int) from by decide)).2) ?_
  clear hf; intro a ha hf; clear ha
  refine st_faP (off := 132) (sz := 1) hf (by decide) (by kernel_rfl) (by decide) rfl rfl (Sl.isP (hp.sl (i := 0) rfl) (aslv_ix (hp.sl (i := 0) rfl) (show (0 : Int) ≤ (0 : Int) ∧ (0 : Int) < ((1 : Nat) : Int) from by decide)).1 (aslv_ix (hp.sl (i := 0) rfl) (show (0 : Int) ≤ (0 : Int) ∧ (0 : Int) < ((1 : Nat) : Int) from by decide)).2) ?_
  clear hf; intro a ha hf; clear ha
  refine st_stQ (E := (Ek.pair (Ek.int .i64) (Ek.pair (Ek.arr 64 Ek.c128) (Ek.pair (Ek.arr 64 Ek.c128) (Ek.pair (Ek.int .i64) (Ek.pair (Ek.int .i64) (Ek.pair Ek.f64 (Ek.pair (Ek.int .i64) (Ek.pair Ek.bool (Ek.pair Ek.bool Ek.c128)))))))))) (F := (Ek.int .i64)) (o := 132) (Sub.comp (Sub.snd (E := (Ek.int .i64)) (F := (Ek.pair (Ek.arr 64 Ek.c128) (Ek.pair (Ek.arr 64 Ek.c128) (Ek.pair (Ek.int .i64) (Ek.pair (Ek.int .i64) (Ek.pair Ek.f64 (Ek.pair (Ek.int .i64) (Ek.pair Ek.bool (Ek.pair Ek.bool Ek.c128)))))))))) (Sub.comp (Sub.snd (E := (Ek.arr 64 Ek.c128)) (F := (Ek.pair (Ek.arr 64 Ek.c128) (Ek.pair (Ek.int .i64) (Ek.pair (Ek.int .i64) (Ek.pair Ek.f64 (Ek.pair (Ek.int .i64) (Ek.pair Ek.bool (Ek.pair Ek.bool Ek.c128))))))))) (Sub.comp (Sub.snd (E := (Ek.arr 64 Ek.c128)) (F := (Ek.pair (Ek.int .i64) (Ek.pair (Ek.int .i64) (Ek.pair Ek.f64 (Ek.pair (Ek.int .i64) (Ek.pair Ek.bool (Ek.pair Ek.bool Ek.c128)))))))) (Sub.comp (Sub.snd (E := (Ek.int .i64)) (F := (Ek.pair (Ek.int .i64) (Ek.pair Ek.f64 (Ek.pair (Ek.int .i64) (Ek.pair Ek.bool (Ek.pair Ek.bool Ek.c128))))))) (Sub.comp (Sub.snd (E := (Ek.int .i64)) (F := (Ek.pair Ek.f64 (Ek.pair (Ek.int .i64) (Ek.pair Ek.bool (Ek.pair Ek.bool Ek.c128)))))) (Sub.comp (Sub.snd (E := Ek.f64) (F := (Ek.pair (Ek.int .i64) (Ek.pair Ek.bool (Ek.pair Ek.bool Ek.c128))))) (Sub.fst (E := (Ek.int .i64)) (F := (Ek.pair Ek.bool (Ek.pair Ek.bool Ek.c128)))))))))) hf (by kernel_rfl) hp (i := 0) rfl rfl rfl rfl rfl (aslv_ix (hp.sl (i := 0) rfl) (show (0 : Int) ≤ (0 : Int) ∧ (0 : Int) < ((1 : Nat) : Int) from by decide)).1 (aslv_ix (hp.sl (i := 0) rfl) (show (0 : Int) ≤ (0 : Int) ∧ (0 : Int) < ((1 : Nat) : Int) from by decide)).2 ?_
  clear hf; intro a w hf hp0; clear hp; have hp := hp0; clear hp0
  replace hp : Hp _ _ _ (Res.sl (Ek.pair (Ek.int .i64) (Ek.pair (Ek.arr 64 Ek.c128) (Ek.pair (Ek.arr 64 Ek.c128) (Ek.pair (Ek.int .i64) (Ek.pair (Ek.int .i64) (Ek.pair Ek.f64 (Ek.pair (Ek.int .i64) (Ek.pair Ek.bool (Ek.pair Ek.bool Ek.c128))))))))) 89 (aslv v5 1) (q20.set ((0 : Int)).toNat ((gt q20 (0 : Int)).1, (gt q20 (0 : Int)).2.1, (gt q20 (0 : Int)).2.2.1, (gt q20 (0 : Int)).2.2.2.1, (gt q20 (0 : Int)).2.2.2.2.1, (gt q20 (0 : Int)).2.2.2.2.2.1, q16.2.1, (gt q20 (0 : Int)).2.2.2.2.2.2.2.1, (gt q20 (0 : Int)).2.2.2.2.2.2.2.2.1, (gt q20 (0 : Int)).2.2.2.2.2.2.2.2.2)) :: ow) := hp
  obtain ⟨q23, hq24, h⟩ := bnd h
  have hq25 := Option.some.inj hq24
  rw [hq25] at hp
  replace hp : Hp _ _ _ (Res.sl (Ek.pair (Ek.int .i64) (Ek.pair (Ek.arr 64 Ek.c128) (Ek.pair (Ek.arr 64 Ek.c128) (Ek.pair (Ek.int .i64) (Ek.pair (Ek.int .i64) (Ek.pair Ek.f64 (Ek.pair (Ek.int .i64) (Ek.pair Ek.bool (Ek.pair Ek.bool Ek.c128))))))))) 89 (aslv v5 1) q23 :: ow) := hp
  refine st_nil hf ?_
  refine th_n ?_
  refine wp_seq ?_
  refine wp_reg ?_
  refine st_move hf rfl rfl (by decide) ?_
  clear hf; intro a ha hf; clear ha
  refine st_assign hf rfl rfl (by decide) ?_
  clear hf; intro a ha hf; clear ha
  refine st_assign hf rfl rfl (by decide) ?_
  clear hf; intro a ha hf; clear ha
  refine st_nil hf ?_
  refine th_n ?_
  refine wp_ret ?_
  rw [aslv_one (hp.sl (i := 0) rfl)] at hp
  obtain rfl := Option.some.inj h
  exact ⟨rfl, ⟨_, hf.sub ⟨rfl, rfl, trivial⟩, hp⟩⟩

noncomputable def f_grid_within (xx0 : Fl) : Option Bool := (some ((fge xx0 (Fl.bits 13875590451928498176)) && (fle xx0 (Fl.bits 4652218415073722368))))
theorem f_grid_within_c {S : Nat → Prop} {w0 w : World} {ow : List Res} (hp : Hp S w0 w ow) (bxx0 : Nat) (xx0 : Fl) (hxx0 : xx0.rep bxx0) {r : Bool} (h : f_grid_within xx0 = some r) :
    Calls Try.prog 70 #[.float .f64 bxx0] w (fun e w' => e = .returned (.bool r) ∧ Hp S w0 w' (ow)) := by
  unfold f_grid_within at h
  refine enter (n := 9) (args := [.float .f64 bxx0]) Try.func70 rfl rfl (Nat.le_of_ble_eq_true rfl) fun a hf => ?_
  replace hf : Fr 9 a [(0, .float .f64 bxx0)] := hf
  refine wp_mono (Q := fun e a w => e = .ret ∧ Fr 9 a [(2, .bool r)] ∧ Hp S w0 w (ow)) ?_ ?_
  rotate_left
  · rintro e a w ⟨rfl, hf, hp⟩
    exact ret1 hf rfl rfl ⟨rfl, hp⟩
  refine wp_seq ?_
  refine wp_reg ?_
  refine st_assign hf rfl rfl (by decide) ?_
  clear hf; intro a ha hf; clear ha
  refine st_nil hf ?_
  refine th_n ?_
  refine wp_seq ?_
  refine wp_reg ?_
  refine st_move hf rfl rfl (by decide) ?_
  clear hf; intro a ha hf; clear ha
  refine st_fcmp (r_fge (fx := xx0) (fy := (Fl.bits 13875590451928498176)) hxx0 rfl) hf (by decide) rfl rfl rfl ?_
  clear hf; intro a ha hf; clear ha
  refine st_move hf rfl rfl (by decide) ?_
  clear hf; intro a ha hf; clear ha
  refine wpList_cut 3 (fun a w => Fr 9 a [(8, .bool ((fge xx0 (Fl.bits 13875590451928498176)) && (fle xx0 (Fl.bits 4652218415073722368))))] ∧ Hp S w0 w (ow)) ?_ ?_
  · rcases Bool.eq_false_or_eq_true (fge xx0 (Fl.bits 13875590451928498176)) with hb2 | hb2
    · skip
      refine st_move hf (wantY hf rfl rfl hb2) rfl (by decide) ?_
      clear hf; intro a ha hf; clear ha
      refine st_fcmp (r_fle (fx := xx0) (fy := (Fl.bits 4652218415073722368)) hxx0 rfl) hf (by decide) (wantY hf rfl rfl hb2) rfl rfl ?_
      clear hf; intro a ha hf; clear ha
      refine st_pick (v := .bool (fle xx0 (Fl.bits 4652218415073722368))) hf rfl rfl (fun hb' => ?_) (fun hb' => ?_) (by decide) ?_
      · rfl
      · exact absurd (hb2.symm.trans hb') (by decide)
      clear hf; intro a ha hf; clear ha
      refine st_nil hf (th_n ?_)
      exact ⟨hf.sub ⟨(by rw [hb2]; rfl), trivial⟩, hp⟩
    refine st_skip hf (wantN hf rfl rfl hb2) rfl (by decide) ?_ rfl
    clear hf; intro a hf
    refine st_skip hf (wantN hf rfl rfl hb2) rfl (by decide) ?_ rfl
    clear hf; intro a hf
    refine st_pick (v := .bool false) hf rfl rfl (fun hb' => ?_) (fun hb' => ?_) (by decide) ?_
    · exact absurd (hb2.symm.trans hb') (by decide)
    · rfl
    clear hf; intro a ha hf; clear ha
    refine st_nil hf (th_n ?_)
    exact ⟨hf.sub ⟨(by rw [hb2]; rfl), trivial⟩, hp⟩
  rintro a w ⟨hf, hp⟩
  refine st_assign hf rfl rfl (by decide) ?_
  clear hf; intro a ha hf; clear ha
  refine st_nil hf ?_
  refine th_n ?_
  refine wp_ret ?_
  obtain rfl := Option.some.inj h
  exact ⟨rfl, ⟨hf.sub ⟨rfl, trivial⟩, hp⟩⟩

noncomputable def f_grid_On (xx0 : Fl) : Option Bool := ((f_grid_within xx0).bind fun q1 => ((if q1 = true then ((f_math_Floor (fmul xx0 (Fl.bits 4661225614328463360))).bind fun q8 => (some (feq q8 (fmul xx0 (Fl.bits 4661225614328463360))))) else (some false)).bind fun z5 => (some z5)))
theorem f_grid_On_c {S : Nat → Prop} {w0 w : World} {ow : List Res} (hp : Hp S w0 w ow) (bxx0 : Nat) (xx0 : Fl) (hxx0 : xx0.rep bxx0) {r : Bool} (h : f_grid_On xx0 = some r) :
    Calls Try.prog 64 #[.float .f64 bxx0] w (fun e w' => e = .returned (.bool r) ∧ Hp S w0 w' (ow)) := by
  unfold f_grid_On at h
  refine enter (n := 13) (args := [.float .f64 bxx0]) Try.func64 rfl rfl (Nat.le_of_ble_eq_true rfl) fun a hf => ?_
  replace hf : Fr 13 a [(0, .float .f64 bxx0)] := hf
  refine wp_mono (Q := fun e a w => e = .ret ∧ Fr 13 a [(2, .bool r)] ∧ Hp S w0 w (ow)) ?_ ?_
  rotate_left
  · rintro e a w ⟨rfl, hf, hp⟩
    exact ret1 hf rfl rfl ⟨rfl, hp⟩
  refine wp_seq ?_
  refine wp_reg ?_
  refine st_assign hf rfl rfl (by decide) ?_
  clear hf; intro a ha hf; clear ha
  refine st_nil hf ?_
  refine th_n ?_
  refine wp_seq ?_
  refine wp_reg ?_
  refine st_move hf rfl rfl (by decide) ?_
  clear hf; intro a ha hf; clear ha
  obtain ⟨q1, hcall2, h⟩ := bnd h
  refine st_call hf (by decide) Try.func70 rfl rfl rfl rfl rfl (f_grid_within_c hp _ _ (show Fl.rep bxx0 xx0 from hxx0) hcall2) ?_
  rintro _ w ⟨rfl, hp0⟩
  clear hp; have hp := hp0; clear hp0
  replace hp : Hp _ _ _ (ow) := hp
  refine ⟨_, rfl, ?_⟩
  clear hf; intro a hf
  refine st_move hf rfl rfl (by decide) ?_
  clear hf; intro a ha hf; clear ha
  obtain ⟨z5, hz3, h⟩ := bnd h
  refine wpList_cut 7 (fun a w => Fr 13 a [(12, .bool z5)] ∧ Hp S w0 w (ow)) ?_ ?_
  · rcases Bool.eq_false_or_eq_true q1 with hb4 | hb4
    · skip
      replace hz3 := ifT hz3 hb4
      refine st_move hf (wantY hf rfl rfl hb4) rfl (by decide) ?_
      clear hf; intro a ha hf; clear ha
      refine st_farith (op := .mul) rfl hf (by decide) hp (wantY hf rfl rfl hb4) rfl rfl (show Fl.rep bxx0 xx0 from hxx0) (show Fl.rep 4661225614328463360 (Fl.bits 4661225614328463360) from rfl) ?_
      clear hf; intro a w bb6 y7 hf hp0; clear hp; have hp := hp0; clear hp0
      replace hp : Hp _ _ _ (ow) := hp
      obtain ⟨q8, hcall9, hz3⟩ := bnd hz3
      refine st_call hf (by decide) Try.func71 rfl rfl (wantY hf rfl rfl hb4) rfl rfl (f_math_Floor_c hp _ _ (show Fl.rep bb6 (fmul xx0 (Fl.bits 4661225614328463360)) from y7) hcall9) ?_
      rintro _ w ⟨v10, rfl, y11, hp0⟩
      clear hp; have hp := hp0; clear hp0
      replace hp : Hp _ _ _ (ow) := hp
      refine ⟨_, rfl, ?_⟩
      clear hf; intro a hf
      refine st_move hf (wantY hf rfl rfl hb4) rfl (by decide) ?_
      clear hf; intro a ha hf; clear ha
      refine st_farith (op := .mul) rfl hf (by decide) hp (wantY hf rfl rfl hb4) rfl rfl (show Fl.rep bxx0 xx0 from hxx0) (show Fl.rep 4661225614328463360 (Fl.bits 4661225614328463360) from rfl) ?_
      clear hf; intro a w bb12 y13 hf hp0; clear hp; have hp := hp0; clear hp0
      replace hp : Hp _ _ _ (ow) := hp
      refine st_fcmp (r_feq (fx := q8) (fy := (fmul xx0 (Fl.bits 4661225614328463360))) y11 y13) hf (by decide) (wantY hf rfl rfl hb4) rfl rfl ?_
      clear hf; intro a ha hf; clear ha
      obtain rfl := Option.some.inj hz3
      refine st_pick (v := .bool (feq q8 (fmul xx0 (Fl.bits 4661225614328463360)))) hf rfl rfl (fun hb' => ?_) (fun hb' => ?_) (by decide) ?_
      · rfl
      · exact absurd (hb4.symm.trans hb') (by decide)
      clear hf; intro a ha hf; clear ha
      refine st_nil hf (th_n ?_)
      exact ⟨hf.sub ⟨rfl, trivial⟩, hp⟩
    replace hz3 := ifF hz3 hb4
    refine st_skip hf (wantN hf rfl rfl hb4) rfl (by decide) ?_ rfl
    clear hf; intro a hf
    refine st_skip hf (wantN hf rfl rfl hb4) rfl (by decide) ?_ rfl
    clear hf; intro a hf
    refine st_skip hf (wantN hf rfl rfl hb4) rfl (by decide) ?_ rfl
    clear hf; intro a hf
    refine st_skip hf (wantN hf rfl rfl hb4) rfl (by decide) ?_ rfl
    clear hf; intro a hf
    refine st_skip hf (wantN hf rfl rfl hb4) rfl (by decide) ?_ rfl
    clear hf; intro a hf
    refine st_skip hf (wantN hf rfl rfl hb4) rfl (by decide) ?_ rfl
    clear hf; intro a hf
    obtain rfl := Option.some.inj hz3
    refine st_pick (v := .bool false) hf rfl rfl (fun hb' => ?_) (fun hb' => ?_) (by decide) ?_
    · exact absurd (hb4.symm.trans hb') (by decide)
    · rfl
    clear hf; intro a ha hf; clear ha
    refine st_nil hf (th_n ?_)
    exact ⟨hf.sub ⟨rfl, trivial⟩, hp⟩
  rintro a w ⟨hf, hp⟩
  refine st_assign hf rfl rfl (by decide) ?_
  clear hf; intro a ha hf; clear ha
  refine st_nil hf ?_
  refine th_n ?_
  refine wp_ret ?_
  obtain rfl := Option.some.inj h
  exact ⟨rfl, ⟨hf.sub ⟨rfl, trivial⟩, hp⟩⟩

noncomputable def f_grid_may (sx0_V : (Fl × Fl)) (sx0_Lost : Bool) : Option Bool := (if sx0_Lost = true then (some (ceq sx0_V (Fl.bits 0, Fl.bits 0))) else ((f_grid_On sx0_V.1).bind fun q3 => ((if q3 = true then ((f_grid_On sx0_V.2).bind fun q8 => (some q8)) else (some false)).bind fun z7 => (some z7))))
theorem f_grid_may_c {S : Nat → Prop} {w0 w : World} {ow : List Res} (hp : Hp S w0 w ow) (bsx0_V csx0_V : Nat) (sx0_V : Fl × Fl) (hsx0_V : sx0_V.1.rep bsx0_V) (ksx0_V : sx0_V.2.rep csx0_V) (sx0_Lost : Bool) {r : Bool} (h : f_grid_may sx0_V sx0_Lost = some r) :
    Calls Try.prog 47 #[.agg #[.complex .f64 bsx0_V csx0_V, .bool sx0_Lost]] w (fun e w' => e = .returned (.bool r) ∧ Hp S w0 w' (ow)) := by
  unfold f_grid_may at h
  refine enter (n := 18) (args := [.agg #[.complex .f64 bsx0_V csx0_V, .bool sx0_Lost]]) Try.func47 rfl rfl (Nat.le_of_ble_eq_true rfl) fun a hf => ?_
  replace hf : Fr 18 a [(0, .agg #[.complex .f64 bsx0_V csx0_V, .bool sx0_Lost])] := hf
  refine wp_mono (Q := fun e a w => e = .ret ∧ Fr 18 a [(2, .bool r)] ∧ Hp S w0 w (ow)) ?_ ?_
  rotate_left
  · rintro e a w ⟨rfl, hf, hp⟩
    exact ret1 hf rfl rfl ⟨rfl, hp⟩
  refine wp_seq ?_
  refine wp_reg ?_
  refine st_boxO (cs := [.complex .f64 bsx0_V csx0_V, .bool sx0_Lost]) hf (by decide) hp rfl rfl rfl ?_
  clear hf; intro a w v1 hf hp0; clear hp; have hp := hp0; clear hp0
  replace hp : Hp _ _ _ (Res.obj 51 v1 [.complex .f64 bsx0_V csx0_V, .bool sx0_Lost] :: ow) := hp
  refine st_assign hf rfl rfl (by decide) ?_
  clear hf; intro a ha hf; clear ha
  refine st_nil hf ?_
  refine th_n ?_
  refine wp_seq ?_
  refine wp_seq ?_
  refine wp_reg ?_
  refine st_fa (o' := 1) hf (by decide) (off := 1) (sz := 1) (by kernel_rfl) (by decide) rfl rfl (hp.ob (i := 0) rfl) rfl ?_
  clear hf; intro a ha hf; clear ha
  refine st_ldO (u := .bool sx0_Lost) hf (by decide) pl4 rfl rfl (hp.ob (i := 0) rfl) rfl ?_
  clear hf; intro a ha hf; clear ha
  refine st_nil hf ?_
  refine th_n ?_
  refine wp_if hf rfl (fun hb => ?_) (fun hb => ?_)
  · replace h := ifT h hb
    refine wp_seq ?_
    refine wp_reg ?_
    refine st_fa (o' := 0) hf (by decide) (off := 0) (sz := 1) (by kernel_rfl) (by decide) rfl rfl (hp.ob (i := 0) rfl) rfl ?_
    clear hf; intro a ha hf; clear ha
    refine st_ldO (u := .complex .f64 bsx0_V csx0_V) hf (by decide) pl39 rfl rfl (hp.ob (i := 0) rfl) rfl ?_
    clear hf; intro a ha hf; clear ha
    refine st_ccmp (r_ceq (x := sx0_V) (y := (Fl.bits 0, Fl.bits 0)) hsx0_V ksx0_V rfl rfl) hf (by decide) rfl rfl rfl ?_
    clear hf; intro a ha hf; clear ha
    refine st_assign hf rfl rfl (by decide) ?_
    clear hf; intro a ha hf; clear ha
    refine st_nil hf ?_
    refine th_n ?_
    refine wp_ret ?_
    refine th_r ?_
    obtain rfl := Option.some.inj h
    have hp : Hp _ _ _ (ow) := Hp.sel (pre := [Res.obj 51 v1 [.complex .f64 bsx0_V csx0_V, .bool sx0_Lost]]) (tail := ow) (rs' := []) hp [] (by decide) (by simp) rfl
    exact ⟨rfl, ⟨hf.sub ⟨rfl, trivial⟩, hp⟩⟩
  replace h := ifF h hb
  refine wp_skip ?_
  refine th_n ?_
  refine wp_seq ?_
  refine wp_reg ?_
  refine st_fa (o' := 0) hf (by decide) (off := 0) (sz := 1) (by kernel_rfl) (by decide) rfl rfl (hp.ob (i := 0) rfl) rfl ?_
  clear hf; intro a ha hf; clear ha
  refine st_ldO (u := .complex .f64 bsx0_V csx0_V) hf (by decide) pl39 rfl rfl (hp.ob (i := 0) rfl) rfl ?_
  clear hf; intro a ha hf; clear ha
  refine st_real hf (by decide) rfl rfl ?_
  clear hf; intro a ha hf; clear ha
  obtain ⟨q3, hcall4, h⟩ := bnd h
  refine st_call hf (by decide) Try.func64 rfl rfl rfl rfl rfl (f_grid_On_c hp _ _ (show Fl.rep bsx0_V sx0_V.1 from hsx0_V) hcall4) ?_
  rintro _ w ⟨rfl, hp0⟩
  clear hp; have hp := hp0; clear hp0
  replace hp : Hp _ _ _ (Res.obj 51 v1 [.complex .f64 bsx0_V csx0_V, .bool sx0_Lost] :: ow) := hp
  refine ⟨_, rfl, ?_⟩
  clear hf; intro a hf
  refine st_move hf rfl rfl (by decide) ?_
  clear hf; intro a ha hf; clear ha
  obtain ⟨z7, hz5, h⟩ := bnd h
  refine wpList_cut 5 (fun a w => Fr 18 a [(17, .bool z7)] ∧ Hp S w0 w (Res.obj 51 v1 [.complex .f64 bsx0_V csx0_V, .bool sx0_Lost] :: ow)) ?_ ?_
  · rcases Bool.eq_false_or_eq_true q3 with hb6 | hb6
    · skip
      replace hz5 := ifT hz5 hb6
      refine st_fa (o' := 0) hf (by decide) (off := 0) (sz := 1) (by kernel_rfl) (by decide) (wantY hf rfl rfl hb6) rfl (hp.ob (i := 0) rfl) rfl ?_
      clear hf; intro a ha hf; clear ha
      refine st_ldO (u := .complex .f64 bsx0_V csx0_V) hf (by decide) pl39 (wantY hf rfl rfl hb6) rfl (hp.ob (i := 0) rfl) rfl ?_
      clear hf; intro a ha hf; clear ha
      refine st_imag hf (by decide) (wantY hf rfl rfl hb6) rfl ?_
      clear hf; intro a ha hf; clear ha
      obtain ⟨q8, hcall9, hz5⟩ := bnd hz5
      refine st_call hf (by decide) Try.func64 rfl rfl (wantY hf rfl rfl hb6) rfl rfl (f_grid_On_c hp _ _ (show Fl.rep csx0_V sx0_V.2 from ksx0_V) hcall9) ?_
      rintro _ w ⟨rfl, hp0⟩
      clear hp; have hp := hp0; clear hp0
      replace hp : Hp _ _ _ (Res.obj 51 v1 [.complex .f64 bsx0_V csx0_V, .bool sx0_Lost] :: ow) := hp
      refine ⟨_, rfl, ?_⟩
      clear hf; intro a hf
      obtain rfl := Option.some.inj hz5
      refine st_pick (v := .bool q8) hf rfl rfl (fun hb' => ?_) (fun hb' => ?_) (by decide) ?_
      · rfl
      · exact absurd (hb6.symm.trans hb') (by decide)
      clear hf; intro a ha hf; clear ha
      refine st_nil hf (th_n ?_)
      exact ⟨hf.sub ⟨rfl, trivial⟩, hp⟩
    replace hz5 := ifF hz5 hb6
    refine st_skip hf (wantN hf rfl rfl hb6) rfl (by decide) ?_ rfl
    clear hf; intro a hf
    refine st_skip hf (wantN hf rfl rfl hb6) rfl (by decide) ?_ rfl
    clear hf; intro a hf
    refine st_skip hf (wantN hf rfl rfl hb6) rfl (by decide) ?_ rfl
    clear hf; intro a hf
    refine st_skip hf (wantN hf rfl rfl hb6) rfl (by decide) ?_ rfl
    clear hf; intro a hf
    obtain rfl := Option.some.inj hz5
    refine st_pick (v := .bool false) hf rfl rfl (fun hb' => ?_) (fun hb' => ?_) (by decide) ?_
    · exact absurd (hb6.symm.trans hb') (by decide)
    · rfl
    clear hf; intro a ha hf; clear ha
    refine st_nil hf (th_n ?_)
    exact ⟨hf.sub ⟨rfl, trivial⟩, hp⟩
  rintro a w ⟨hf, hp⟩
  refine st_assign hf rfl rfl (by decide) ?_
  clear hf; intro a ha hf; clear ha
  refine st_nil hf ?_
  refine th_n ?_
  refine wp_ret ?_
  obtain rfl := Option.some.inj h
  have hp : Hp _ _ _ (ow) := Hp.sel (pre := [Res.obj 51 v1 [.complex .f64 bsx0_V csx0_V, .bool sx0_Lost]]) (tail := ow) (rs' := []) hp [] (by decide) (by simp) rfl
  exact ⟨rfl, ⟨hf.sub ⟨rfl, trivial⟩, hp⟩⟩

noncomputable def f_grid_Check.s1c (l0 : (List ((Fl × Fl) × Bool))) (t11 : Int) : Option (Int ⊕ (Unit ⊕ (Int × Int))) := (if (decide (t11 < (l0.length : Int))) = true then (if 0 ≤ t11 ∧ t11 < (l0.length : Int) then ((f_grid_may ((gt l0 t11).1) ((gt l0 t11).2)).bind fun q10 => (if (!q10) = true then (some (Sum.inr (Sum.inr (t11, (7 : Int))))) else (some (Sum.inl (IntKind.i64.wrap (t11 + (1 : Int))))))) else none) else (some (Sum.inr (Sum.inl ()))))
noncomputable def f_grid_Check.s1 (l0 : (List ((Fl × Fl) × Bool))) (s : Int) : Option (Int ⊕ (Unit ⊕ (Int × Int))) := f_grid_Check.s1c l0 s
noncomputable def f_grid_Check (l0 : (List ((Fl × Fl) × Bool))) : Option (Int × Int) := (if (decide ((65536 : Int) < (l0.length : Int))) = true then (some ((0 : Int), (1 : Int))) else ((loop (f_grid_Check.s1 l0) (0 : Int)).bind (fun q12 => sm q12 (fun q13 => (some ((0 : Int), (0 : Int)))) (fun q14 => (some (q14.1, q14.2))))))
theorem f_grid_Check_c {S : Nat → Prop} {w0 w : World} {ow : List Res} (hp : Hp S w0 w ow) (vl0 : Value) (l0 : (List ((Fl × Fl) × Bool))) (hl0 : RdS (Ek.pair Ek.c128 Ek.bool) S w0 vl0 l0) {r : (Int × Int)} (h : f_grid_Check l0 = some r) :
    Calls Try.prog 32 #[vl0] w (fun e w' => e = .returned (.tuple #[.int .i64 r.1, .int .i64 r.2]) ∧ Hp S w0 w' (ow)) := by
  unfold f_grid_Check at h
  refine enter (n := 21) (args := [vl0]) Try.func32 rfl rfl (Nat.le_of_ble_eq_true rfl) fun a hf => ?_
  replace hf : Fr 21 a [(0, vl0)] := hf
  refine wp_mono (Q := fun e a w => e = .ret ∧ Fr 21 a [(2, .int .i64 r.1), (3, .int .i64 r.2)] ∧ Hp S w0 w (ow)) ?_ ?_
  rotate_left
  · rintro e a w ⟨rfl, hf, hp⟩
    exact ret2 hf rfl rfl rfl ⟨rfl, hp⟩
  refine wp_seq ?_
  refine wp_reg ?_
  refine st_assign hf rfl rfl (by decide) ?_
  clear hf; intro a ha hf; clear ha
  refine st_assign hf rfl rfl (by decide) ?_
  clear hf; intro a ha hf; clear ha
  refine st_nil hf ?_
  refine th_n ?_
  refine wp_seq ?_
  refine wp_seq ?_
  refine wp_reg ?_
  refine st_move hf rfl rfl (by decide) ?_
  clear hf; intro a ha hf; clear ha
  refine st_len (E := (Ek.pair Ek.c128 Ek.bool)) hf (by decide) Try.underlying52 rfl rfl (hl0.sl hp) ?_
  clear hf; intro a ha hf; clear ha
  refine st_igtr hf (by decide) rfl rfl rfl ?_
  clear hf; intro a ha hf; clear ha
  refine st_nil hf ?_
  refine th_n ?_
  refine wp_if hf rfl (fun hb => ?_) (fun hb => ?_)
  · replace h := ifT h hb
    refine wp_seq ?_
    refine wp_reg ?_
    refine st_assign hf rfl rfl (by decide) ?_
    clear hf; intro a ha hf; clear ha
    refine st_assign hf rfl rfl (by decide) ?_
    clear hf; intro a ha hf; clear ha
    refine st_nil hf ?_
    refine th_n ?_
    refine wp_ret ?_
    refine th_r ?_
    obtain rfl := Option.some.inj h
    exact ⟨rfl, ⟨hf.sub ⟨rfl, rfl, trivial⟩, hp⟩⟩
  replace h := ifF h hb
  refine wp_skip ?_
  refine th_n ?_
  refine wp_seq ?_
  refine wp_seq ?_
  refine wp_reg ?_
  refine st_move hf rfl rfl (by decide) ?_
  clear hf; intro a ha hf; clear ha
  refine st_len (E := (Ek.pair Ek.c128 Ek.bool)) hf (by decide) Try.underlying52 rfl rfl (hl0.sl hp) ?_
  clear hf; intro a ha hf; clear ha
  refine st_move hf rfl rfl (by decide) ?_
  clear hf; intro a ha hf; clear ha
  refine st_nil hf ?_
  refine th_n ?_
  refine wp_block ?_
  obtain ⟨q12, hl, h⟩ := bnd h
  refine wp_loop_pure (f := (f_grid_Check.s1 l0)) (s := (0 : Int)) (fun s a w => Fr 21 a [(9, vl0), (10, .int .i64 (l0.length : Int)), (11, .int .i64 s)] ∧ Hp S w0 w (ow)) (fun q e a w => match q with | (Sum.inl q) => e = .exit 0 ∧ Fr 21 a [] ∧ Hp S w0 w (ow) | (Sum.inr q) => e = .ret ∧ Fr 21 a [(2, .int .i64 q.1), (3, .int .i64 q.2)] ∧ Hp S w0 w (ow)) ?_ hl ⟨hf.sub ⟨rfl, rfl, rfl, trivial⟩, hp⟩ ?_
  · clear hl hf hp
    intro s x a w h hI
    obtain ⟨t11, hs⟩ : ∃ z, z = s := ⟨s, rfl⟩; subst hs
    obtain ⟨hf, hp⟩ : Fr 21 a [(9, vl0), (10, .int .i64 (l0.length : Int)), (11, .int .i64 t11)] ∧ Hp S w0 w (ow) := hI
    replace h : f_grid_Check.s1c l0 t11 = some x := h
    unfold f_grid_Check.s1c at h
    refine wp_seq ?_
    refine wp_reg ?_
    refine st_ilss hf (by decide) rfl rfl rfl ?_
    clear hf; intro a ha hf; clear ha
    refine st_nil hf ?_
    refine th_n ?_
    refine wp_seq ?_
    refine wp_if hf rfl (fun hb => ?_) (fun hb => ?_)
    · replace h := ifT h hb
      refine wp_skip ?_
      refine th_n ?_
      refine wp_seq ?_
      refine wp_block ?_
      refine wp_seq ?_
      refine wp_reg ?_
      refine st_move hf rfl rfl (by decide) ?_
      clear hf; intro a ha hf; clear ha
      obtain ⟨hc1, h⟩ := chk h
      refine st_index (E := (Ek.pair Ek.c128 Ek.bool)) hf (by decide) Try.underlying52 elt51 rfl rfl rfl (hl0.sl hp) hc1.1 hc1.2 ?_
      clear hf; intro a ha hf; clear ha
      refine st_ldQA (F := (Ek.pair Ek.c128 Ek.bool)) (yv := (gt l0 t11)) (m := 2) hf (by decide) (by kernel_rfl) rfl rfl rfl (Part.whole (hl0.sl hp) hc1.1 hc1.2) ?_
      clear hf; intro a cs2 hr3 ha hf; clear ha
      obtain ⟨_, _, rfl, ⟨bb4, bb5, rfl, y6, y7⟩, rfl⟩ := hr3
      replace hf : Fr _ _ ((15, .agg #[.complex .f64 bb4 bb5, .bool ((gt l0 t11).2)]) :: _) := hf
      refine st_alloc (cs := [.complex .f64 0 0, .bool false]) (zv := .agg #[.complex .f64 0 0, .bool false]) hf (by decide) (by kernel_rfl) rfl hp rfl ?_
      clear hf; intro a w v8 hf hp0; clear hp; have hp := hp0; clear hp0
      replace hp : Hp _ _ _ (Res.obj 51 v8 [.complex .f64 0 0, .bool false] :: ow) := hp
      refine st_assign hf rfl rfl (by decide) ?_
      clear hf; intro a ha hf; clear ha
      refine st_stO (us := [.complex .f64 bb4 bb5, .bool ((gt l0 t11).2)]) hf hp (i := 0) rfl rfl rfl rfl rfl (by rfl) (by kernel_rfl) (Nat.le_of_ble_eq_true rfl) ?_
      clear hf; intro a w hf hp0; clear hp; have hp := hp0; clear hp0
      replace hp : Hp _ _ _ (Res.obj 51 v8 [.complex .f64 bb4 bb5, .bool ((gt l0 t11).2)] :: ow) := hp
      refine st_nil hf ?_
      refine th_n ?_
      refine wp_seq ?_
      refine wp_reg ?_
      refine st_ldOA (m := 2) (us := [.complex .f64 bb4 bb5, .bool ((gt l0 t11).2)]) hf (by decide) (by kernel_rfl) rfl rfl (hp.ob (i := 0) rfl) rfl rfl ?_
      clear hf; intro a ha hf; clear ha
      obtain ⟨q10, hcall11, h⟩ := bnd h
      refine st_call hf (by decide) Try.func47 rfl rfl rfl rfl rfl (f_grid_may_c hp _ _ _ (show Fl.rep bb4 ((gt l0 t11).1).1 from y6) (show Fl.rep bb5 ((gt l0 t11).1).2 from y7) _ hcall11) ?_
      rintro _ w ⟨rfl, hp0⟩
      clear hp; have hp := hp0; clear hp0
      replace hp : Hp _ _ _ (Res.obj 51 v8 [.complex .f64 bb4 bb5, .bool ((gt l0 t11).2)] :: ow) := hp
      refine ⟨_, rfl, ?_⟩
      clear hf; intro a hf
      refine st_not hf (by decide) rfl rfl ?_
      clear hf; intro a ha hf; clear ha
      refine st_nil hf ?_
      refine th_n ?_
      refine wp_if hf rfl (fun hb => ?_) (fun hb => ?_)
      · replace h := ifT h hb
        refine wp_seq ?_
        refine wp_reg ?_
        refine st_move hf rfl rfl (by decide) ?_
        clear hf; intro a ha hf; clear ha
        refine st_assign hf rfl rfl (by decide) ?_
        clear hf; intro a ha hf; clear ha
        refine st_assign hf rfl rfl (by decide) ?_
        clear hf; intro a ha hf; clear ha
        refine st_nil hf ?_
        refine th_n ?_
        refine wp_ret ?_
        refine ib_r ?_
        refine th_r ?_
        obtain rfl := Option.some.inj h
        have hp : Hp _ _ _ (ow) := Hp.sel (pre := [Res.obj 51 v8 [.complex .f64 bb4 bb5, .bool ((gt l0 t11).2)]]) (tail := ow) (rs' := []) hp [] (by decide) (by simp) rfl
        exact rnd_r (by simp) ⟨rfl, ⟨hf.sub ⟨rfl, rfl, trivial⟩, hp⟩⟩
      replace h := ifF h hb
      refine wp_skip ?_
      refine ib_n ?_
      refine th_n ?_
      refine wp_reg ?_
      refine st_iadd hf (by decide) rfl rfl rfl ?_
      clear hf; intro a ha hf; clear ha
      refine st_move hf rfl rfl (by decide) ?_
      clear hf; intro a ha hf; clear ha
      refine st_nil hf ?_
      obtain rfl := Option.some.inj h
      have hp : Hp _ _ _ (ow) := Hp.sel (pre := [Res.obj 51 v8 [.complex .f64 bb4 bb5, .bool ((gt l0 t11).2)]]) (tail := ow) (rs' := []) hp [] (by decide) (by simp) rfl
      exact rnd_l ⟨hf.sub ⟨rfl, rfl, rfl, trivial⟩, hp⟩
    replace h := ifF h hb
    refine wp_exit ?_
    refine th_e ?_
    obtain rfl := Option.some.inj h
    exact rnd_r (by simp) ⟨rfl, hf.sub trivial, hp⟩
  clear hl hf hp
  intro e a w hne hO
  rcases q12 with q13 | q14
  · replace h := smL h
    obtain ⟨rfl, hf, hp⟩ := hO
    refine ib_same ?_
    refine th_n ?_
    refine wp_seq ?_
    refine wp_reg ?_
    refine st_assign hf rfl rfl (by decide) ?_
    clear hf; intro a ha hf; clear ha
    refine st_assign hf rfl rfl (by decide) ?_
    clear hf; intro a ha hf; clear ha
    refine st_nil hf ?_
    refine th_n ?_
    refine wp_ret ?_
    obtain rfl := Option.some.inj h
    exact ⟨rfl, ⟨hf.sub ⟨rfl, rfl, trivial⟩, hp⟩⟩
  replace h := smR h
  obtain ⟨rfl, hf, hp⟩ := hO
  refine ib_r ?_
  refine th_r ?_
  obtain rfl := Option.some.inj h
  exact ⟨rfl, ⟨hf.sub ⟨rfl, rfl, trivial⟩, hp⟩⟩

noncomputable def f_feedback_times (ax0 : (Fl × Fl)) (bx1 : (Fl × Fl)) : Option (Fl × Fl) := (some ((fsub (fmul ax0.1 bx1.1) (fmul ax0.2 bx1.2)), (fadd (fmul ax0.1 bx1.2) (fmul ax0.2 bx1.1))))
theorem f_feedback_times_c {S : Nat → Prop} {w0 w : World} {ow : List Res} (hp : Hp S w0 w ow) (bax0 cax0 : Nat) (ax0 : Fl × Fl) (hax0 : ax0.1.rep bax0) (kax0 : ax0.2.rep cax0) (bbx1 cbx1 : Nat) (bx1 : Fl × Fl) (hbx1 : bx1.1.rep bbx1) (kbx1 : bx1.2.rep cbx1) {r : (Fl × Fl)} (h : f_feedback_times ax0 bx1 = some r) :
    Calls Try.prog 48 #[.complex .f64 bax0 cax0, .complex .f64 bbx1 cbx1] w (fun e w' => ∃ (b0 : Nat) (b1 : Nat), e = .returned (.tuple #[.float .f64 b0, .float .f64 b1]) ∧ Fl.rep b0 r.1 ∧ Fl.rep b1 r.2 ∧ Hp S w0 w' (ow)) := by
  unfold f_feedback_times at h
  refine enter (n := 28) (args := [.complex .f64 bax0 cax0, .complex .f64 bbx1 cbx1]) Try.func48 rfl rfl (Nat.le_of_ble_eq_true rfl) fun a hf => ?_
  replace hf : Fr 28 a [(0, .complex .f64 bax0 cax0), (1, .complex .f64 bbx1 cbx1)] := hf
  refine wp_mono (Q := fun e a w => e = .ret ∧ ∃ (b0 : Nat) (b1 : Nat), Fr 28 a [(4, .float .f64 b0), (5, .float .f64 b1)] ∧ Fl.rep b0 r.1 ∧ Fl.rep b1 r.2 ∧ Hp S w0 w (ow)) ?_ ?_
  rotate_left
  · rintro e a w ⟨rfl, x0, x1, hf, y0, y1, hp⟩
    exact ret2 hf rfl rfl rfl ⟨x0, x1, rfl, y0, y1, hp⟩
  refine wp_seq ?_
  refine wp_reg ?_
  refine st_assign hf rfl rfl (by decide) ?_
  clear hf; intro a ha hf; clear ha
  refine st_assign hf rfl rfl (by decide) ?_
  clear hf; intro a ha hf; clear ha
  refine st_nil hf ?_
  refine th_n ?_
  refine wp_seq ?_
  refine wp_reg ?_
  refine st_move hf rfl rfl (by decide) ?_
  clear hf; intro a ha hf; clear ha
  refine st_real hf (by decide) rfl rfl ?_
  clear hf; intro a ha hf; clear ha
  refine st_move hf rfl rfl (by decide) ?_
  clear hf; intro a ha hf; clear ha
  refine st_real hf (by decide) rfl rfl ?_
  clear hf; intro a ha hf; clear ha
  refine st_farith (op := .mul) rfl hf (by decide) hp rfl rfl rfl (show Fl.rep bax0 ax0.1 from hax0) (show Fl.rep bbx1 bx1.1 from hbx1) ?_
  clear hf; intro a w bb1 y2 hf hp0; clear hp; have hp := hp0; clear hp0
  replace hp : Hp _ _ _ (ow) := hp
  refine st_move hf rfl rfl (by decide) ?_
  clear hf; intro a ha hf; clear ha
  refine st_imag hf (by decide) rfl rfl ?_
  clear hf; intro a ha hf; clear ha
  refine st_move hf rfl rfl (by decide) ?_
  clear hf; intro a ha hf; clear ha
  refine st_imag hf (by decide) rfl rfl ?_
  clear hf; intro a ha hf; clear ha
  refine st_farith (op := .mul) rfl hf (by decide) hp rfl rfl rfl (show Fl.rep cax0 ax0.2 from kax0) (show Fl.rep cbx1 bx1.2 from kbx1) ?_
  clear hf; intro a w bb3 y4 hf hp0; clear hp; have hp := hp0; clear hp0
  replace hp : Hp _ _ _ (ow) := hp
  refine st_farith (op := .sub) rfl hf (by decide) hp rfl rfl rfl (show Fl.rep bb1 (fmul ax0.1 bx1.1) from y2) (show Fl.rep bb3 (fmul ax0.2 bx1.2) from y4) ?_
  clear hf; intro a w bb5 y6 hf hp0; clear hp; have hp := hp0; clear hp0
  replace hp : Hp _ _ _ (ow) := hp
  refine st_move hf rfl rfl (by decide) ?_
  clear hf; intro a ha hf; clear ha
  refine st_real hf (by decide) rfl rfl ?_
  clear hf; intro a ha hf; clear ha
  refine st_move hf rfl rfl (by decide) ?_
  clear hf; intro a ha hf; clear ha
  refine st_imag hf (by decide) rfl rfl ?_
  clear hf; intro a ha hf; clear ha
  refine st_farith (op := .mul) rfl hf (by decide) hp rfl rfl rfl (show Fl.rep bax0 ax0.1 from hax0) (show Fl.rep cbx1 bx1.2 from kbx1) ?_
  clear hf; intro a w bb7 y8 hf hp0; clear hp; have hp := hp0; clear hp0
  replace hp : Hp _ _ _ (ow) := hp
  refine st_move hf rfl rfl (by decide) ?_
  clear hf; intro a ha hf; clear ha
  refine st_imag hf (by decide) rfl rfl ?_
  clear hf; intro a ha hf; clear ha
  refine st_move hf rfl rfl (by decide) ?_
  clear hf; intro a ha hf; clear ha
  refine st_real hf (by decide) rfl rfl ?_
  clear hf; intro a ha hf; clear ha
  refine st_farith (op := .mul) rfl hf (by decide) hp rfl rfl rfl (show Fl.rep cax0 ax0.2 from kax0) (show Fl.rep bbx1 bx1.1 from hbx1) ?_
  clear hf; intro a w bb9 y10 hf hp0; clear hp; have hp := hp0; clear hp0
  replace hp : Hp _ _ _ (ow) := hp
  refine st_farith (op := .add) rfl hf (by decide) hp rfl rfl rfl (show Fl.rep bb7 (fmul ax0.1 bx1.2) from y8) (show Fl.rep bb9 (fmul ax0.2 bx1.1) from y10) ?_
  clear hf; intro a w bb11 y12 hf hp0; clear hp; have hp := hp0; clear hp0
  replace hp : Hp _ _ _ (ow) := hp
  refine st_assign hf rfl rfl (by decide) ?_
  clear hf; intro a ha hf; clear ha
  refine st_assign hf rfl rfl (by decide) ?_
  clear hf; intro a ha hf; clear ha
  refine st_nil hf ?_
  refine th_n ?_
  refine wp_ret ?_
  obtain rfl := Option.some.inj h
  exact ⟨rfl, ⟨_, _, hf.sub ⟨rfl, rfl, trivial⟩, y6, y12, hp⟩⟩

noncomputable def f_math_IsNaN (f0 : Fl) : Option Bool := (some (fne f0 f0))
theorem f_math_IsNaN_c {S : Nat → Prop} {w0 w : World} {ow : List Res} (hp : Hp S w0 w ow) (bf0 : Nat) (f0 : Fl) (hf0 : f0.rep bf0) {r : Bool} (h : f_math_IsNaN f0 = some r) :
    Calls Try.prog 75 #[.float .f64 bf0] w (fun e w' => e = .returned (.bool r) ∧ Hp S w0 w' (ow)) := by
  unfold f_math_IsNaN at h
  refine enter (n := 6) (args := [.float .f64 bf0]) Try.func75 rfl rfl (Nat.le_of_ble_eq_true rfl) fun a hf => ?_
  replace hf : Fr 6 a [(0, .float .f64 bf0)] := hf
  refine wp_mono (Q := fun e a w => e = .ret ∧ Fr 6 a [(2, .bool r)] ∧ Hp S w0 w (ow)) ?_ ?_
  rotate_left
  · rintro e a w ⟨rfl, hf, hp⟩
    exact ret1 hf rfl rfl ⟨rfl, hp⟩
  refine wp_seq ?_
  refine wp_reg ?_
  refine st_assign hf rfl rfl (by decide) ?_
  clear hf; intro a ha hf; clear ha
  refine st_nil hf ?_
  refine th_n ?_
  refine wp_seq ?_
  refine wp_reg ?_
  refine st_move hf rfl rfl (by decide) ?_
  clear hf; intro a ha hf; clear ha
  refine st_move hf rfl rfl (by decide) ?_
  clear hf; intro a ha hf; clear ha
  refine st_fcmp (r_fne (fx := f0) (fy := f0) hf0 hf0) hf (by decide) rfl rfl rfl ?_
  clear hf; intro a ha hf; clear ha
  refine st_assign hf rfl rfl (by decide) ?_
  clear hf; intro a ha hf; clear ha
  refine st_nil hf ?_
  refine th_n ?_
  refine wp_ret ?_
  obtain rfl := Option.some.inj h
  exact ⟨rfl, ⟨hf.sub ⟨rfl, trivial⟩, hp⟩⟩

noncomputable def f_slice_nan (zx0 : (Fl × Fl)) : Option Bool := ((f_math_IsNaN zx0.1).bind fun q1 => ((if q1 = true then (some true) else ((f_math_IsNaN zx0.2).bind fun q6 => (some q6))).bind fun z5 => (some z5)))
theorem f_slice_nan_c {S : Nat → Prop} {w0 w : World} {ow : List Res} (hp : Hp S w0 w ow) (bzx0 czx0 : Nat) (zx0 : Fl × Fl) (hzx0 : zx0.1.rep bzx0) (kzx0 : zx0.2.rep czx0) {r : Bool} (h : f_slice_nan zx0 = some r) :
    Calls Try.prog 72 #[.complex .f64 bzx0 czx0] w (fun e w' => e = .returned (.bool r) ∧ Hp S w0 w' (ow)) := by
  unfold f_slice_nan at h
  refine enter (n := 11) (args := [.complex .f64 bzx0 czx0]) Try.func72 rfl rfl (Nat.le_of_ble_eq_true rfl) fun a hf => ?_
  replace hf : Fr 11 a [(0, .complex .f64 bzx0 czx0)] := hf
  refine wp_mono (Q := fun e a w => e = .ret ∧ Fr 11 a [(2, .bool r)] ∧ Hp S w0 w (ow)) ?_ ?_
  rotate_left
  · rintro e a w ⟨rfl, hf, hp⟩
    exact ret1 hf rfl rfl ⟨rfl, hp⟩
  refine wp_seq ?_
  refine wp_reg ?_
  refine st_assign hf rfl rfl (by decide) ?_
  clear hf; intro a ha hf; clear ha
  refine st_nil hf ?_
  refine th_n ?_
  refine wp_seq ?_
  refine wp_reg ?_
  refine st_move hf rfl rfl (by decide) ?_
  clear hf; intro a ha hf; clear ha
  refine st_real hf (by decide) rfl rfl ?_
  clear hf; intro a ha hf; clear ha
  obtain ⟨q1, hcall2, h⟩ := bnd h
  refine st_call hf (by decide) Try.func75 rfl rfl rfl rfl rfl (f_math_IsNaN_c hp _ _ (show Fl.rep bzx0 zx0.1 from hzx0) hcall2) ?_
  rintro _ w ⟨rfl, hp0⟩
  clear hp; have hp := hp0; clear hp0
  replace hp : Hp _ _ _ (ow) := hp
  refine ⟨_, rfl, ?_⟩
  clear hf; intro a hf
  refine st_move hf rfl rfl (by decide) ?_
  clear hf; intro a ha hf; clear ha
  obtain ⟨z5, hz3, h⟩ := bnd h
  refine wpList_cut 4 (fun a w => Fr 11 a [(10, .bool z5)] ∧ Hp S w0 w (ow)) ?_ ?_
  · rcases Bool.eq_false_or_eq_true q1 with hb4 | hb4
    · skip
      replace hz3 := ifT hz3 hb4
      refine st_skip hf (wantN hf rfl rfl hb4) rfl (by decide) ?_ rfl
      clear hf; intro a hf
      refine st_skip hf (wantN hf rfl rfl hb4) rfl (by decide) ?_ rfl
      clear hf; intro a hf
      refine st_skip hf (wantN hf rfl rfl hb4) rfl (by decide) ?_ rfl
      clear hf; intro a hf
      obtain rfl := Option.some.inj hz3
      refine st_pick (v := .bool true) hf rfl rfl (fun hb' => ?_) (fun hb' => ?_) (by decide) ?_
      · rfl
      · exact absurd (hb4.symm.trans hb') (by decide)
      clear hf; intro a ha hf; clear ha
      refine st_nil hf (th_n ?_)
      exact ⟨hf.sub ⟨rfl, trivial⟩, hp⟩
    replace hz3 := ifF hz3 hb4
    refine st_move hf (wantY hf rfl rfl hb4) rfl (by decide) ?_
    clear hf; intro a ha hf; clear ha
    refine st_imag hf (by decide) (wantY hf rfl rfl hb4) rfl ?_
    clear hf; intro a ha hf; clear ha
    obtain ⟨q6, hcall7, hz3⟩ := bnd hz3
    refine st_call hf (by decide) Try.func75 rfl rfl (wantY hf rfl rfl hb4) rfl rfl (f_math_IsNaN_c hp _ _ (show Fl.rep czx0 zx0.2 from kzx0) hcall7) ?_
    rintro _ w ⟨rfl, hp0⟩
    clear hp; have hp := hp0; clear hp0
    replace hp : Hp _ _ _ (ow) := hp
    refine ⟨_, rfl, ?_⟩
    clear hf; intro a hf
    obtain rfl := Option.some.inj hz3
    refine st_pick (v := .bool q6) hf rfl rfl (fun hb' => ?_) (fun hb' => ?_) (by decide) ?_
    · exact absurd (hb4.symm.trans hb') (by decide)
    · rfl
    clear hf; intro a ha hf; clear ha
    refine st_nil hf (th_n ?_)
    exact ⟨hf.sub ⟨rfl, trivial⟩, hp⟩
  rintro a w ⟨hf, hp⟩
  refine st_assign hf rfl rfl (by decide) ?_
  clear hf; intro a ha hf; clear ha
  refine st_nil hf ?_
  refine th_n ?_
  refine wp_ret ?_
  obtain rfl := Option.some.inj h
  exact ⟨rfl, ⟨hf.sub ⟨rfl, trivial⟩, hp⟩⟩

noncomputable def f_math_IsInf (f0 : Fl) (sign1 : Int) : Option Bool := (if (sign1 == (0 : Int)) = true then ((f_math_Abs f0).bind fun q1 => (some (fgt q1 (Fl.bits 9218868437227405311)))) else (if (decide (sign1 < (0 : Int))) = true then (some (fgt (fneg f0) (Fl.bits 9218868437227405311))) else (some (fgt f0 (Fl.bits 9218868437227405311)))))
theorem f_math_IsInf_c {S : Nat → Prop} {w0 w : World} {ow : List Res} (hp : Hp S w0 w ow) (bf0 : Nat) (f0 : Fl) (hf0 : f0.rep bf0) (sign1 : Int) {r : Bool} (h : f_math_IsInf f0 sign1 = some r) :
    Calls Try.prog 73 #[.float .f64 bf0, .int .i64 sign1] w (fun e w' => e = .returned (.bool r) ∧ Hp S w0 w' (ow)) := by
  unfold f_math_IsInf at h
  refine enter (n := 15) (args := [.float .f64 bf0, .int .i64 sign1]) Try.func73 rfl rfl (Nat.le_of_ble_eq_true rfl) fun a hf => ?_
  replace hf : Fr 15 a [(0, .float .f64 bf0), (1, .int .i64 sign1)] := hf
  refine wp_mono (Q := fun e a w => e = .ret ∧ Fr 15 a [(4, .bool r)] ∧ Hp S w0 w (ow)) ?_ ?_
  rotate_left
  · rintro e a w ⟨rfl, hf, hp⟩
    exact ret1 hf rfl rfl ⟨rfl, hp⟩
  refine wp_seq ?_
  refine wp_reg ?_
  refine st_assign hf rfl rfl (by decide) ?_
  clear hf; intro a ha hf; clear ha
  refine st_nil hf ?_
  refine th_n ?_
  refine wp_seq ?_
  refine wp_seq ?_
  refine wp_reg ?_
  refine st_move hf rfl rfl (by decide) ?_
  clear hf; intro a ha hf; clear ha
  refine st_ieql hf (by decide) rfl rfl rfl ?_
  clear hf; intro a ha hf; clear ha
  refine st_nil hf ?_
  refine th_n ?_
  refine wp_if hf rfl (fun hb => ?_) (fun hb => ?_)
  · replace h := ifT h hb
    refine wp_reg ?_
    refine st_move hf rfl rfl (by decide) ?_
    clear hf; intro a ha hf; clear ha
    obtain ⟨q1, hcall2, h⟩ := bnd h
    refine st_call hf (by decide) Try.func37 rfl rfl rfl rfl rfl (f_math_Abs_c hp _ _ (show Fl.rep bf0 f0 from hf0) hcall2) ?_
    rintro _ w ⟨v3, rfl, y4, hp0⟩
    clear hp; have hp := hp0; clear hp0
    replace hp : Hp _ _ _ (ow) := hp
    refine ⟨_, rfl, ?_⟩
    clear hf; intro a hf
    refine st_assign hf rfl rfl (by decide) ?_
    clear hf; intro a ha hf; clear ha
    refine st_nil hf ?_
    refine th_n ?_
    refine wp_seq ?_
    refine wp_reg ?_
    refine st_move hf rfl rfl (by decide) ?_
    clear hf; intro a ha hf; clear ha
    refine st_fcmp (r_fgt (fx := q1) (fy := (Fl.bits 9218868437227405311)) y4 rfl) hf (by decide) rfl rfl rfl ?_
    clear hf; intro a ha hf; clear ha
    refine st_assign hf rfl rfl (by decide) ?_
    clear hf; intro a ha hf; clear ha
    refine st_nil hf ?_
    refine th_n ?_
    refine wp_ret ?_
    obtain rfl := Option.some.inj h
    exact ⟨rfl, ⟨hf.sub ⟨rfl, trivial⟩, hp⟩⟩
  replace h := ifF h hb
  refine wp_seq ?_
  refine wp_reg ?_
  refine st_move hf rfl rfl (by decide) ?_
  clear hf; intro a ha hf; clear ha
  refine st_ilss hf (by decide) rfl rfl rfl ?_
  clear hf; intro a ha hf; clear ha
  refine st_nil hf ?_
  refine th_n ?_
  refine wp_if hf rfl (fun hb => ?_) (fun hb => ?_)
  · replace h := ifT h hb
    refine wp_reg ?_
    refine st_move hf rfl rfl (by decide) ?_
    clear hf; intro a ha hf; clear ha
    refine st_fneg hf (by decide) rfl rfl ?_
    clear hf; intro a ha hf; clear ha
    refine st_assign hf rfl rfl (by decide) ?_
    clear hf; intro a ha hf; clear ha
    refine st_nil hf ?_
    refine th_n ?_
    refine wp_seq ?_
    refine wp_reg ?_
    refine st_move hf rfl rfl (by decide) ?_
    clear hf; intro a ha hf; clear ha
    refine st_fcmp (r_fgt (fx := (fneg f0)) (fy := (Fl.bits 9218868437227405311)) (fneg_rep hf0) rfl) hf (by decide) rfl rfl rfl ?_
    clear hf; intro a ha hf; clear ha
    refine st_assign hf rfl rfl (by decide) ?_
    clear hf; intro a ha hf; clear ha
    refine st_nil hf ?_
    refine th_n ?_
    refine wp_ret ?_
    obtain rfl := Option.some.inj h
    exact ⟨rfl, ⟨hf.sub ⟨rfl, trivial⟩, hp⟩⟩
  replace h := ifF h hb
  refine wp_skip ?_
  refine th_n ?_
  refine wp_seq ?_
  refine wp_reg ?_
  refine st_move hf rfl rfl (by decide) ?_
  clear hf; intro a ha hf; clear ha
  refine st_fcmp (r_fgt (fx := f0) (fy := (Fl.bits 9218868437227405311)) hf0 rfl) hf (by decide) rfl rfl rfl ?_
  clear hf; intro a ha hf; clear ha
  refine st_assign hf rfl rfl (by decide) ?_
  clear hf; intro a ha hf; clear ha
  refine st_nil hf ?_
  refine th_n ?_
  refine wp_ret ?_
  obtain rfl := Option.some.inj h
  exact ⟨rfl, ⟨hf.sub ⟨rfl, trivial⟩, hp⟩⟩

noncomputable def f_slice_ways  : Option Unit := (some ())
theorem f_slice_ways_c {S : Nat → Prop} {w0 w : World} {ow : List Res} (hp : Hp S w0 w ow) {r : Unit} (h : f_slice_ways = some r) :
    Calls Try.prog 74 #[] w (fun e w' => ∃ (u0 : Value), e = .returned (u0) ∧ Hp S w0 w' (Res.map kid u0 [((4 : Int), .agg #[.func (.func 80) #[] #[]]), ((16 : Int), .agg #[.func (.func 80) #[] #[]]), ((32 : Int), .agg #[.func (.func 81) #[] #[]]), ((64 : Int), .agg #[.func (.func 80) #[] #[]]), ((128 : Int), .agg #[.func (.func 81) #[] #[]]), ((256 : Int), .agg #[.func (.func 80) #[] #[]])] :: ow)) := by
  unfold f_slice_ways at h
  refine enter (n := 13) (args := []) Try.func74 rfl rfl (Nat.le_of_ble_eq_true rfl) fun a hf => ?_
  replace hf : Fr 13 a [] := hf
  refine wp_mono (Q := fun e a w => e = .ret ∧ ∃ (u0 : Value), Fr 13 a [(0, u0)] ∧ Hp S w0 w (Res.map kid u0 [((4 : Int), .agg #[.func (.func 80) #[] #[]]), ((16 : Int), .agg #[.func (.func 80) #[] #[]]), ((32 : Int), .agg #[.func (.func 81) #[] #[]]), ((64 : Int), .agg #[.func (.func 80) #[] #[]]), ((128 : Int), .agg #[.func (.func 81) #[] #[]]), ((256 : Int), .agg #[.func (.func 80) #[] #[]])] :: ow)) ?_ ?_
  rotate_left
  · rintro e a w ⟨rfl, x0, hf, hp⟩
    exact ret1 hf rfl rfl ⟨x0, rfl, hp⟩
  refine wp_seq ?_
  refine wp_reg ?_
  refine st_assign hf rfl rfl (by decide) ?_
  clear hf; intro a ha hf; clear ha
  refine st_nil hf ?_
  refine th_n ?_
  refine wp_seq ?_
  refine wp_reg ?_
  refine st_buildA (vals := [(0, .func (.func 80) #[] #[])]) (cells := [.func (.func 80) #[] #[]]) hf (by decide) rfl (by simp [hf.ev (x := (Operand.func 80)) rfl]) (fun w => by kernel_rfl) ?_
  clear hf; intro a ha hf; clear ha
  refine st_buildA (vals := [(0, .func (.func 81) #[] #[])]) (cells := [.func (.func 81) #[] #[]]) hf (by decide) rfl (by simp [hf.ev (x := (Operand.func 81)) rfl]) (fun w => by kernel_rfl) ?_
  clear hf; intro a ha hf; clear ha
  refine st_alloc (cs := [.nilFunc]) (zv := .agg #[.nilFunc]) hf (by decide) (by kernel_rfl) rfl hp rfl ?_
  clear hf; intro a w v1 hf hp0; clear hp; have hp := hp0; clear hp0
  replace hp : Hp _ _ _ (Res.obj 124 v1 [.nilFunc] :: ow) := hp
  refine st_alloc (cs := [.nilFunc]) (zv := .agg #[.nilFunc]) hf (by decide) (by kernel_rfl) rfl hp rfl ?_
  clear hf; intro a w v3 hf hp0; clear hp; have hp := hp0; clear hp0
  replace hp : Hp _ _ _ (Res.obj 124 v3 [.nilFunc] :: Res.obj 124 v1 [.nilFunc] :: ow) := hp
  refine st_stO (us := [.func (.func 80) #[] #[]]) hf hp (i := 1) rfl rfl rfl rfl rfl (by rfl) (by kernel_rfl) (Nat.le_of_ble_eq_true rfl) ?_
  clear hf; intro a w hf hp0; clear hp; have hp := hp0; clear hp0
  replace hp : Hp _ _ _ (Res.obj 124 v3 [.nilFunc] :: Res.obj 124 v1 [.func (.func 80) #[] #[]] :: ow) := hp
  refine st_stO (us := [.func (.func 81) #[] #[]]) hf hp (i := 0) rfl rfl rfl rfl rfl (by rfl) (by kernel_rfl) (Nat.le_of_ble_eq_true rfl) ?_
  clear hf; intro a w hf hp0; clear hp; have hp := hp0; clear hp0
  replace hp : Hp _ _ _ (Res.obj 124 v3 [.func (.func 81) #[] #[]] :: Res.obj 124 v1 [.func (.func 80) #[] #[]] :: ow) := hp
  refine st_nil hf ?_
  refine th_n ?_
  refine wp_seq ?_
  refine wp_reg ?_
  refine st_makeMap (enc := kid) hf (by decide) hp rfl ?_
  clear hf; intro a w g5 hf hp0; clear hp; have hp := hp0; clear hp0
  replace hp : Hp _ _ _ (Res.map kid (.map (some g5)) [] :: Res.obj 124 v3 [.func (.func 81) #[] #[]] :: Res.obj 124 v1 [.func (.func 80) #[] #[]] :: ow) := hp
  refine st_ldOA (m := 1) (us := [.func (.func 80) #[] #[]]) hf (by decide) (by kernel_rfl) rfl rfl (hp.ob (i := 2) rfl) rfl rfl ?_
  clear hf; intro a ha hf; clear ha
  refine st_mapIns (b := .agg #[.func (.func 80) #[] #[]]) hf Try.underlying125 Try.underlying3 hp (i := 0) rfl (by rfl) rfl rfl rfl rfl ?_
  clear hf; intro a w hf hp0; clear hp; have hp := hp0; clear hp0
  replace hp : Hp _ _ _ (Res.map kid (.map (some g5)) [((4 : Int), .agg #[.func (.func 80) #[] #[]])] :: Res.obj 124 v3 [.func (.func 81) #[] #[]] :: Res.obj 124 v1 [.func (.func 80) #[] #[]] :: ow) := hp
  refine st_ldOA (m := 1) (us := [.func (.func 80) #[] #[]]) hf (by decide) (by kernel_rfl) rfl rfl (hp.ob (i := 2) rfl) rfl rfl ?_
  clear hf; intro a ha hf; clear ha
  refine st_mapIns (b := .agg #[.func (.func 80) #[] #[]]) hf Try.underlying125 Try.underlying3 hp (i := 0) rfl (by rfl) rfl rfl rfl rfl ?_
  clear hf; intro a w hf hp0; clear hp; have hp := hp0; clear hp0
  replace hp : Hp _ _ _ (Res.map kid (.map (some g5)) [((4 : Int), .agg #[.func (.func 80) #[] #[]]), ((16 : Int), .agg #[.func (.func 80) #[] #[]])] :: Res.obj 124 v3 [.func (.func 81) #[] #[]] :: Res.obj 124 v1 [.func (.func 80) #[] #[]] :: ow) := hp
  refine st_ldOA (m := 1) (us := [.func (.func 81) #[] #[]]) hf (by decide) (by kernel_rfl) rfl rfl (hp.ob (i := 1) rfl) rfl rfl ?_
  clear hf; intro a ha hf; clear ha
  refine st_mapIns (b := .agg #[.func (.func 81) #[] #[]]) hf Try.underlying125 Try.underlying3 hp (i := 0) rfl (by rfl) rfl rfl rfl rfl ?_
  clear hf; intro a w hf hp0; clear hp; have hp := hp0; clear hp0
  replace hp : Hp _ _ _ (Res.map kid (.map (some g5)) [((4 : Int), .agg #[.func (.func 80) #[] #[]]), ((16 : Int), .agg #[.func (.func 80) #[] #[]]), ((32 : Int), .agg #[.func (.func 81) #[] #[]])] :: Res.obj 124 v3 [.func (.func 81) #[] #[]] :: Res.obj 124 v1 [.func (.func 80) #[] #[]] :: ow) := hp
  refine st_ldOA (m := 1) (us := [.func (.func 80) #[] #[]]) hf (by decide) (by kernel_rfl) rfl rfl (hp.ob (i := 2) rfl) rfl rfl ?_
  clear hf; intro a ha hf; clear ha
  refine st_mapIns (b := .agg #[.func (.func 80) #[] #[]]) hf Try.underlying125 Try.underlying3 hp (i := 0) rfl (by rfl) rfl rfl rfl rfl ?_
  clear hf; intro a w hf hp0; clear hp; have hp := hp0; clear hp0
  replace hp : Hp _ _ _ (Res.map kid (.map (some g5)) [((4 : Int), .agg #[.func (.func 80) #[] #[]]), ((16 : Int), .agg #[.func (.func 80) #[] #[]]), ((32 : Int), .agg #[.func (.func 81) #[] #[]]), ((64 : Int), .agg #[.func (.func 80) #[] #[]])] :: Res.obj 124 v3 [.func (.func 81) #[] #[]] :: Res.obj 124 v1 [.func (.func 80) #[] #[]] :: ow) := hp
  refine st_ldOA (m := 1) (us := [.func (.func 81) #[] #[]]) hf (by decide) (by kernel_rfl) rfl rfl (hp.ob (i := 1) rfl) rfl rfl ?_
  clear hf; intro a ha hf; clear ha
  refine st_mapIns (b := .agg #[.func (.func 81) #[] #[]]) hf Try.underlying125 Try.underlying3 hp (i := 0) rfl (by rfl) rfl rfl rfl rfl ?_
  clear hf; intro a w hf hp0; clear hp; have hp := hp0; clear hp0
  replace hp : Hp _ _ _ (Res.map kid (.map (some g5)) [((4 : Int), .agg #[.func (.func 80) #[] #[]]), ((16 : Int), .agg #[.func (.func 80) #[] #[]]), ((32 : Int), .agg #[.func (.func 81) #[] #[]]), ((64 : Int), .agg #[.func (.func 80) #[] #[]]), ((128 : Int), .agg #[.func (.func 81) #[] #[]])] :: Res.obj 124 v3 [.func (.func 81) #[] #[]] :: Res.obj 124 v1 [.func (.func 80) #[] #[]] :: ow) := hp
  refine st_ldOA (m := 1) (us := [.func (.func 80) #[] #[]]) hf (by decide) (by kernel_rfl) rfl rfl (hp.ob (i := 2) rfl) rfl rfl ?_
  clear hf; intro a ha hf; clear ha
  refine st_mapIns (b := .agg #[.func (.func 80) #[] #[]]) hf Try.underlying125 Try.underlying3 hp (i := 0) rfl (by rfl) rfl rfl rfl rfl ?_
  clear hf; intro a w hf hp0; clear hp; have hp := hp0; clear hp0
  replace hp : Hp _ _ _ (Res.map kid (.map (some g5)) [((4 : Int), .agg #[.func (.func 80) #[] #[]]), ((16 : Int), .agg #[.func (.func 80) #[] #[]]), ((32 : Int), .agg #[.func (.func 81) #[] #[]]), ((64 : Int), .agg #[.func (.func 80) #[] #[]]), ((128 : Int), .agg #[.func (.func 81) #[] #[]]), ((256 : Int), .agg #[.func (.func 80) #[] #[]])] :: Res.obj 124 v3 [.func (.func 81) #[] #[]] :: Res.obj 124 v1 [.func (.func 80) #[] #[]] :: ow) := hp
  refine st_move hf rfl rfl (by decide) ?_
  clear hf; intro a ha hf; clear ha
  refine st_assign hf rfl rfl (by decide) ?_
  clear hf; intro a ha hf; clear ha
  refine st_nil hf ?_
  refine th_n ?_
  refine wp_ret ?_
  obtain rfl := Option.some.inj h
  have hp : Hp _ _ _ (Res.map kid (.map (some g5)) [((4 : Int), .agg #[.func (.func 80) #[] #[]]), ((16 : Int), .agg #[.func (.func 80) #[] #[]]), ((32 : Int), .agg #[.func (.func 81) #[] #[]]), ((64 : Int), .agg #[.func (.func 80) #[] #[]]), ((128 : Int), .agg #[.func (.func 81) #[] #[]]), ((256 : Int), .agg #[.func (.func 80) #[] #[]])] :: ow) := Hp.sel (pre := [Res.map kid (.map (some g5)) [((4 : Int), .agg #[.func (.func 80) #[] #[]]), ((16 : Int), .agg #[.func (.func 80) #[] #[]]), ((32 : Int), .agg #[.func (.func 81) #[] #[]]), ((64 : Int), .agg #[.func (.func 80) #[] #[]]), ((128 : Int), .agg #[.func (.func 81) #[] #[]]), ((256 : Int), .agg #[.func (.func 80) #[] #[]])], Res.obj 124 v3 [.func (.func 81) #[] #[]], Res.obj 124 v1 [.func (.func 80) #[] #[]]]) (tail := ow) (rs' := [Res.map kid (.map (some g5)) [((4 : Int), .agg #[.func (.func 80) #[] #[]]), ((16 : Int), .agg #[.func (.func 80) #[] #[]]), ((32 : Int), .agg #[.func (.func 81) #[] #[]]), ((64 : Int), .agg #[.func (.func 80) #[] #[]]), ((128 : Int), .agg #[.func (.func 81) #[] #[]]), ((256 : Int), .agg #[.func (.func 80) #[] #[]])]]) hp [0] (by decide) (by simp) rfl
  exact ⟨rfl, ⟨_, hf.sub ⟨rfl, trivial⟩, hp⟩⟩

noncomputable def f_math_Min (xx0 : Fl) (yx1 : Fl) : Option Fl := ((fpickS true .lt xx0 yx1).bind fun q1 => (some q1))
theorem f_math_Min_c {S : Nat → Prop} {w0 w : World} {ow : List Res} (hp : Hp S w0 w ow) (bxx0 : Nat) (xx0 : Fl) (hxx0 : xx0.rep bxx0) (byx1 : Nat) (yx1 : Fl) (hyx1 : yx1.rep byx1) {r : Fl} (h : f_math_Min xx0 yx1 = some r) :
    Calls Try.prog 87 #[.float .f64 bxx0, .float .f64 byx1] w (fun e w' => ∃ (b0 : Nat), e = .returned (.float .f64 b0) ∧ Fl.rep b0 r ∧ Hp S w0 w' (ow)) := by
  unfold f_math_Min at h
  refine enter (n := 11) (args := [.float .f64 bxx0, .float .f64 byx1]) Try.func87 rfl rfl (Nat.le_of_ble_eq_true rfl) fun a hf => ?_
  replace hf : Fr 11 a [(0, .float .f64 bxx0), (1, .float .f64 byx1)] := hf
  refine wp_mono (Q := fun e a w => e = .ret ∧ ∃ (b0 : Nat), Fr 11 a [(4, .float .f64 b0)] ∧ Fl.rep b0 r ∧ Hp S w0 w (ow)) ?_ ?_
  rotate_left
  · rintro e a w ⟨rfl, x0, hf, y0, hp⟩
    exact ret1 hf rfl rfl ⟨x0, rfl, y0, hp⟩
  refine wp_seq ?_
  refine wp_reg ?_
  refine st_assign hf rfl rfl (by decide) ?_
  clear hf; intro a ha hf; clear ha
  refine st_nil hf ?_
  refine th_n ?_
  refine wp_seq ?_
  refine wp_if hf rfl (fun hb => ?_) (fun hb => ?_)
  rotate_left
  · exact absurd hb (by decide)
  refine wp_seq ?_
  refine wp_reg ?_
  refine st_move hf rfl rfl (by decide) ?_
  clear hf; intro a ha hf; clear ha
  refine st_move hf rfl rfl (by decide) ?_
  clear hf; intro a ha hf; clear ha
  obtain ⟨q1, hq2, h⟩ := bnd h
  refine st_extern (ex := Extern.MathDim.pick "math.archMin" true .lt) (r := .float .f64 (flb q1)) (f := 91) (vs := [.float .f64 bxx0, .float .f64 byx1]) hf (by decide) Try.func91 rfl rfl (by kernel_rfl) (by kernel_rfl) rfl rfl rfl (run_fpickS hxx0 hyx1 hq2 _ _) ?_
  clear hf; intro a ha hf; clear ha
  refine st_assign hf rfl rfl (by decide) ?_
  clear hf; intro a ha hf; clear ha
  refine st_nil hf ?_
  refine th_n ?_
  refine wp_ret ?_
  refine th_r ?_
  obtain rfl := Option.some.inj h
  exact ⟨rfl, ⟨_, hf.sub ⟨rfl, trivial⟩, (fpickS_rep hq2), hp⟩⟩

noncomputable def f_math_Max (xx0 : Fl) (yx1 : Fl) : Option Fl := ((fpickS false .gt xx0 yx1).bind fun q1 => (some q1))
theorem f_math_Max_c {S : Nat → Prop} {w0 w : World} {ow : List Res} (hp : Hp S w0 w ow) (bxx0 : Nat) (xx0 : Fl) (hxx0 : xx0.rep bxx0) (byx1 : Nat) (yx1 : Fl) (hyx1 : yx1.rep byx1) {r : Fl} (h : f_math_Max xx0 yx1 = some r) :
    Calls Try.prog 86 #[.float .f64 bxx0, .float .f64 byx1] w (fun e w' => ∃ (b0 : Nat), e = .returned (.float .f64 b0) ∧ Fl.rep b0 r ∧ Hp S w0 w' (ow)) := by
  unfold f_math_Max at h
  refine enter (n := 11) (args := [.float .f64 bxx0, .float .f64 byx1]) Try.func86 rfl rfl (Nat.le_of_ble_eq_true rfl) fun a hf => ?_
  replace hf : Fr 11 a [(0, .float .f64 bxx0), (1, .float .f64 byx1)] := hf
  refine wp_mono (Q := fun e a w => e = .ret ∧ ∃ (b0 : Nat), Fr 11 a [(4, .float .f64 b0)] ∧ Fl.rep b0 r ∧ Hp S w0 w (ow)) ?_ ?_
  rotate_left
  · rintro e a w ⟨rfl, x0, hf, y0, hp⟩
    exact ret1 hf rfl rfl ⟨x0, rfl, y0, hp⟩
  refine wp_seq ?_
  refine wp_reg ?_
  refine st_assign hf rfl rfl (by decide) ?_
  clear hf; intro a ha hf; clear ha
  refine st_nil hf ?_
  refine th_n ?_
  refine wp_seq ?_
  refine wp_if hf rfl (fun hb => ?_) (fun hb => ?_)
  rotate_left
  · exact absurd hb (by decide)
  refine wp_seq ?_
  refine wp_reg ?_
  refine st_move hf rfl rfl (by decide) ?_
  clear hf; intro a ha hf; clear ha
  refine st_move hf rfl rfl (by decide) ?_
  clear hf; intro a ha hf; clear ha
  obtain ⟨q1, hq2, h⟩ := bnd h
  refine st_extern (ex := Extern.MathDim.pick "math.archMax" false .gt) (r := .float .f64 (flb q1)) (f := 89) (vs := [.float .f64 bxx0, .float .f64 byx1]) hf (by decide) Try.func89 rfl rfl (by kernel_rfl) (by kernel_rfl) rfl rfl rfl (run_fpickS hxx0 hyx1 hq2 _ _) ?_
  clear hf; intro a ha hf; clear ha
  refine st_assign hf rfl rfl (by decide) ?_
  clear hf; intro a ha hf; clear ha
  refine st_nil hf ?_
  refine th_n ?_
  refine wp_ret ?_
  refine th_r ?_
  obtain rfl := Option.some.inj h
  exact ⟨rfl, ⟨_, hf.sub ⟨rfl, trivial⟩, (fpickS_rep hq2), hp⟩⟩

noncomputable def f_math_Ceil (xx0 : Fl) : Option Fl := (some (fint Ieee.Toward.up xx0))
theorem f_math_Ceil_c {S : Nat → Prop} {w0 w : World} {ow : List Res} (hp : Hp S w0 w ow) (bxx0 : Nat) (xx0 : Fl) (hxx0 : xx0.rep bxx0) {r : Fl} (h : f_math_Ceil xx0 = some r) :
    Calls Try.prog 88 #[.float .f64 bxx0] w (fun e w' => ∃ (b0 : Nat), e = .returned (.float .f64 b0) ∧ Fl.rep b0 r ∧ Hp S w0 w' (ow)) := by
  unfold f_math_Ceil at h
  refine enter (n := 7) (args := [.float .f64 bxx0]) Try.func88 rfl rfl (Nat.le_of_ble_eq_true rfl) fun a hf => ?_
  replace hf : Fr 7 a [(0, .float .f64 bxx0)] := hf
  refine wp_mono (Q := fun e a w => e = .ret ∧ ∃ (b0 : Nat), Fr 7 a [(2, .float .f64 b0)] ∧ Fl.rep b0 r ∧ Hp S w0 w (ow)) ?_ ?_
  rotate_left
  · rintro e a w ⟨rfl, x0, hf, y0, hp⟩
    exact ret1 hf rfl rfl ⟨x0, rfl, y0, hp⟩
  refine wp_seq ?_
  refine wp_reg ?_
  refine st_assign hf rfl rfl (by decide) ?_
  clear hf; intro a ha hf; clear ha
  refine st_nil hf ?_
  refine th_n ?_
  refine wp_seq ?_
  refine wp_if hf rfl (fun hb => ?_) (fun hb => ?_)
  rotate_left
  · exact absurd hb (by decide)
  refine wp_seq ?_
  refine wp_reg ?_
  refine st_move hf rfl rfl (by decide) ?_
  clear hf; intro a ha hf; clear ha
  refine st_fint (fx := xx0) (nm := "math.archCeil") (way := Ieee.Toward.up) (f := 93) hf (by decide) hp Try.func93 rfl rfl (by kernel_rfl) (by kernel_rfl) rfl rfl rfl hxx0 ?_
  clear hf; intro a w bb1 y2 hf hp0; clear hp; have hp := hp0; clear hp0
  replace hp : Hp _ _ _ (ow) := hp
  refine st_assign hf rfl rfl (by decide) ?_
  clear hf; intro a ha hf; clear ha
  refine st_nil hf ?_
  refine th_n ?_
  refine wp_ret ?_
  refine th_r ?_
  obtain rfl := Option.some.inj h
  exact ⟨rfl, ⟨_, hf.sub ⟨rfl, trivial⟩, y2, hp⟩⟩

noncomputable def f_slice_Axis (xx0 : Fl) (edge1 : Int) : Option (Int × Int) := ((if (((decide (edge1 < (1 : Int))) || (decide ((15 : Int) < edge1))) || (((edge1).tmod (2 : Int)) == (0 : Int))) = true then (some true) else ((f_math_IsNaN xx0).bind fun q8 => (some q8))).bind fun z7 => (if z7 = true then (some ((0 : Int), (1 : Int))) else ((f_math_Min xx0 (fofi edge1)).bind fun q10 => ((f_math_Max (fneg (fofi edge1)) q10).bind fun q14 => ((f_math_Ceil q14).bind fun q18 => ((ftoi .i64 q18).bind fun q22 => (if (((q22).tmod (2 : Int)) == (0 : Int)) = true then (some ((imax (IntKind.i64.wrap (q22 - (1 : Int))) (IntKind.i64.wrap (0 - edge1))), (0 : Int))) else (some ((imax q22 (IntKind.i64.wrap (0 - edge1))), (0 : Int))))))))))
theorem f_slice_Axis_c {S : Nat → Prop} {w0 w : World} {ow : List Res} (hp : Hp S w0 w ow) (bxx0 : Nat) (xx0 : Fl) (hxx0 : xx0.rep bxx0) (edge1 : Int) {r : (Int × Int)} (h : f_slice_Axis xx0 edge1 = some r) :
    Calls Try.prog 83 #[.float .f64 bxx0, .int .i64 edge1] w (fun e w' => e = .returned (.tuple #[.int .i64 r.1, .int .i64 r.2]) ∧ Hp S w0 w' (ow)) := by
  unfold f_slice_Axis at h
  refine enter (n := 42) (args := [.float .f64 bxx0, .int .i64 edge1]) Try.func83 rfl rfl (Nat.le_of_ble_eq_true rfl) fun a hf => ?_
  replace hf : Fr 42 a [(0, .float .f64 bxx0), (1, .int .i64 edge1)] := hf
  refine wp_mono (Q := fun e a w => e = .ret ∧ Fr 42 a [(4, .int .i64 r.1), (5, .int .i64 r.2)] ∧ Hp S w0 w (ow)) ?_ ?_
  rotate_left
  · rintro e a w ⟨rfl, hf, hp⟩
    exact ret2 hf rfl rfl rfl ⟨rfl, hp⟩
  refine wp_seq ?_
  refine wp_reg ?_
  refine st_assign hf rfl rfl (by decide) ?_
  clear hf; intro a ha hf; clear ha
  refine st_assign hf rfl rfl (by decide) ?_
  clear hf; intro a ha hf; clear ha
  refine st_nil hf ?_
  refine th_n ?_
  refine wp_seq ?_
  refine wp_seq ?_
  refine wp_reg ?_
  refine st_move hf rfl rfl (by decide) ?_
  clear hf; intro a ha hf; clear ha
  refine st_ilss hf (by decide) rfl rfl rfl ?_
  clear hf; intro a ha hf; clear ha
  refine st_move hf rfl rfl (by decide) ?_
  clear hf; intro a ha hf; clear ha
  refine wpList_cut 3 (fun a w => Fr 42 a [(0, .float .f64 bxx0), (1, .int .i64 edge1), (12, .bool ((decide (edge1 < (1 : Int))) || (decide ((15 : Int) < edge1))))] ∧ Hp S w0 w (ow)) ?_ ?_
  · rcases Bool.eq_false_or_eq_true (decide (edge1 < (1 : Int))) with hb2 | hb2
    · skip
      refine st_skip hf (wantN hf rfl rfl hb2) rfl (by decide) ?_ rfl
      clear hf; intro a hf
      refine st_skip hf (wantN hf rfl rfl hb2) rfl (by decide) ?_ rfl
      clear hf; intro a hf
      refine st_pick (v := .bool true) hf rfl rfl (fun hb' => ?_) (fun hb' => ?_) (by decide) ?_
      · rfl
      · exact absurd (hb2.symm.trans hb') (by decide)
      clear hf; intro a ha hf; clear ha
      refine st_nil hf (th_n ?_)
      exact ⟨hf.sub ⟨rfl, rfl, (by rw [hb2]; rfl), trivial⟩, hp⟩
    refine st_move hf (wantY hf rfl rfl hb2) rfl (by decide) ?_
    clear hf; intro a ha hf; clear ha
    refine st_igtr hf (by decide) (wantY hf rfl rfl hb2) rfl rfl ?_
    clear hf; intro a ha hf; clear ha
    refine st_pick (v := .bool (decide ((15 : Int) < edge1))) hf rfl rfl (fun hb' => ?_) (fun hb' => ?_) (by decide) ?_
    · exact absurd (hb2.symm.trans hb') (by decide)
    · rfl
    clear hf; intro a ha hf; clear ha
    refine st_nil hf (th_n ?_)
    exact ⟨hf.sub ⟨rfl, rfl, (by rw [hb2]; rfl), trivial⟩, hp⟩
  rintro a w ⟨hf, hp⟩
  refine st_move hf rfl rfl (by decide) ?_
  clear hf; intro a ha hf; clear ha
  refine wpList_cut 4 (fun a w => Fr 42 a [(0, .float .f64 bxx0), (1, .int .i64 edge1), (17, .bool (((decide (edge1 < (1 : Int))) || (decide ((15 : Int) < edge1))) || (((edge1).tmod (2 : Int)) == (0 : Int))))] ∧ Hp S w0 w (ow)) ?_ ?_
  · rcases Bool.eq_false_or_eq_true ((decide (edge1 < (1 : Int))) || (decide ((15 : Int) < edge1))) with hb4 | hb4
    · skip
      refine st_skip hf (wantN hf rfl rfl hb4) rfl (by decide) ?_ rfl
      clear hf; intro a hf
      refine st_skip hf (wantN hf rfl rfl hb4) rfl (by decide) ?_ rfl
      clear hf; intro a hf
      refine st_skip hf (wantN hf rfl rfl hb4) rfl (by decide) ?_ rfl
      clear hf; intro a hf
      refine st_pick (v := .bool true) hf rfl rfl (fun hb' => ?_) (fun hb' => ?_) (by decide) ?_
      · rfl
      · exact absurd (hb4.symm.trans hb') (by decide)
      clear hf; intro a ha hf; clear ha
      refine st_nil hf (th_n ?_)
      exact ⟨hf.sub ⟨rfl, rfl, (by rw [hb4]; rfl), trivial⟩, hp⟩
    refine st_move hf (wantY hf rfl rfl hb4) rfl (by decide) ?_
    clear hf; intro a ha hf; clear ha
    refine st_irem hf (by decide) (wantY hf rfl rfl hb4) rfl rfl (by decide) ?_
    clear hf; intro a ha hf; clear ha
    refine st_ieql hf (by decide) (wantY hf rfl rfl hb4) rfl rfl ?_
    clear hf; intro a ha hf; clear ha
    refine st_pick (v := .bool (((edge1).tmod (2 : Int)) == (0 : Int))) hf rfl rfl (fun hb' => ?_) (fun hb' => ?_) (by decide) ?_
    · exact absurd (hb4.symm.trans hb') (by decide)
    · rfl
    clear hf; intro a ha hf; clear ha
    refine st_nil hf (th_n ?_)
    exact ⟨hf.sub ⟨rfl, rfl, (by rw [hb4]; rfl), trivial⟩, hp⟩
  rintro a w ⟨hf, hp⟩
  refine st_move hf rfl rfl (by decide) ?_
  clear hf; intro a ha hf; clear ha
  obtain ⟨z7, hz5, h⟩ := bnd h
  refine wpList_cut 3 (fun a w => Fr 42 a [(0, .float .f64 bxx0), (1, .int .i64 edge1), (21, .bool z7)] ∧ Hp S w0 w (ow)) ?_ ?_
  · rcases Bool.eq_false_or_eq_true (((decide (edge1 < (1 : Int))) || (decide ((15 : Int) < edge1))) || (((edge1).tmod (2 : Int)) == (0 : Int))) with hb6 | hb6
    · skip
      replace hz5 := ifT hz5 hb6
      refine st_skip hf (wantN hf rfl rfl hb6) rfl (by decide) ?_ rfl
      clear hf; intro a hf
      refine st_skip hf (wantN hf rfl rfl hb6) rfl (by decide) ?_ rfl
      clear hf; intro a hf
      obtain rfl := Option.some.inj hz5
      refine st_pick (v := .bool true) hf rfl rfl (fun hb' => ?_) (fun hb' => ?_) (by decide) ?_
      · rfl
      · exact absurd (hb6.symm.trans hb') (by decide)
      clear hf; intro a ha hf; clear ha
      refine st_nil hf (th_n ?_)
      exact ⟨hf.sub ⟨rfl, rfl, rfl, trivial⟩, hp⟩
    replace hz5 := ifF hz5 hb6
    refine st_move hf (wantY hf rfl rfl hb6) rfl (by decide) ?_
    clear hf; intro a ha hf; clear ha
    obtain ⟨q8, hcall9, hz5⟩ := bnd hz5
    refine st_call hf (by decide) Try.func75 rfl rfl (wantY hf rfl rfl hb6) rfl rfl (f_math_IsNaN_c hp _ _ (show Fl.rep bxx0 xx0 from hxx0) hcall9) ?_
    rintro _ w ⟨rfl, hp0⟩
    clear hp; have hp := hp0; clear hp0
    replace hp : Hp _ _ _ (ow) := hp
    refine ⟨_, rfl, ?_⟩
    clear hf; intro a hf
    obtain rfl := Option.some.inj hz5
    refine st_pick (v := .bool q8) hf rfl rfl (fun hb' => ?_) (fun hb' => ?_) (by decide) ?_
    · exact absurd (hb6.symm.trans hb') (by decide)
    · rfl
    clear hf; intro a ha hf; clear ha
    refine st_nil hf (th_n ?_)
    exact ⟨hf.sub ⟨rfl, rfl, rfl, trivial⟩, hp⟩
  rintro a w ⟨hf, hp⟩
  refine st_nil hf ?_
  refine th_n ?_
  refine wp_if hf rfl (fun hb => ?_) (fun hb => ?_)
  · replace h := ifT h hb
    refine wp_seq ?_
    refine wp_reg ?_
    refine st_assign hf rfl rfl (by decide) ?_
    clear hf; intro a ha hf; clear ha
    refine st_assign hf rfl rfl (by decide) ?_
    clear hf; intro a ha hf; clear ha
    refine st_nil hf ?_
    refine th_n ?_
    refine wp_ret ?_
    refine th_r ?_
    obtain rfl := Option.some.inj h
    exact ⟨rfl, ⟨hf.sub ⟨rfl, rfl, trivial⟩, hp⟩⟩
  replace h := ifF h hb
  refine wp_skip ?_
  refine th_n ?_
  refine wp_seq ?_
  refine wp_reg ?_
  refine st_move hf rfl rfl (by decide) ?_
  clear hf; intro a ha hf; clear ha
  refine st_conv_if Try.underlying3 Try.underlying33 hf (by decide) rfl rfl ?_
  clear hf; intro a ha hf; clear ha
  refine st_fneg hf (by decide) rfl rfl ?_
  clear hf; intro a ha hf; clear ha
  refine st_move hf rfl rfl (by decide) ?_
  clear hf; intro a ha hf; clear ha
  refine st_move hf rfl rfl (by decide) ?_
  clear hf; intro a ha hf; clear ha
  refine st_conv_if Try.underlying3 Try.underlying33 hf (by decide) rfl rfl ?_
  clear hf; intro a ha hf; clear ha
  obtain ⟨q10, hcall11, h⟩ := bnd h
  refine st_call hf (by decide) Try.func87 rfl rfl rfl rfl rfl (f_math_Min_c hp _ _ (show Fl.rep bxx0 xx0 from hxx0) _ _ (show Fl.rep (FloatKind.f64.nearest edge1) (fofi edge1) from rfl) hcall11) ?_
  rintro _ w ⟨v12, rfl, y13, hp0⟩
  clear hp; have hp := hp0; clear hp0
  replace hp : Hp _ _ _ (ow) := hp
  refine ⟨_, rfl, ?_⟩
  clear hf; intro a hf
  obtain ⟨q14, hcall15, h⟩ := bnd h
  refine st_call hf (by decide) Try.func86 rfl rfl rfl rfl rfl (f_math_Max_c hp _ _ (show Fl.rep (Op.negFloat .f64 (FloatKind.f64.nearest edge1)) (fneg (fofi edge1)) from (fneg_rep rfl)) _ _ (show Fl.rep v12 q10 from y13) hcall15) ?_
  rintro _ w ⟨v16, rfl, y17, hp0⟩
  clear hp; have hp := hp0; clear hp0
  replace hp : Hp _ _ _ (ow) := hp
  refine ⟨_, rfl, ?_⟩
  clear hf; intro a hf
  refine st_assign hf rfl rfl (by decide) ?_
  clear hf; intro a ha hf; clear ha
  refine st_nil hf ?_
  refine th_n ?_
  refine wp_seq ?_
  refine wp_reg ?_
  refine st_move hf rfl rfl (by decide) ?_
  clear hf; intro a ha hf; clear ha
  obtain ⟨q18, hcall19, h⟩ := bnd h
  refine st_call hf (by decide) Try.func88 rfl rfl rfl rfl rfl (f_math_Ceil_c hp _ _ (show Fl.rep v16 q14 from y17) hcall19) ?_
  rintro _ w ⟨v20, rfl, y21, hp0⟩
  clear hp; have hp := hp0; clear hp0
  replace hp : Hp _ _ _ (ow) := hp
  refine ⟨_, rfl, ?_⟩
  clear hf; intro a hf
  obtain ⟨q22, hq23, h⟩ := bnd h
  refine st_conv_fi (by rw [Try.underlying33]; rfl) Try.underlying3 hf (by decide) rfl rfl (show Fl.rep v20 q18 from y21) hq23 ?_
  clear hf; intro a ha hf; clear ha
  refine st_assign hf rfl rfl (by decide) ?_
  clear hf; intro a ha hf; clear ha
  refine st_nil hf ?_
  refine th_n ?_
  refine wp_seq ?_
  refine wp_seq ?_
  refine wp_reg ?_
  refine st_move hf rfl rfl (by decide) ?_
  clear hf; intro a ha hf; clear ha
  refine st_irem hf (by decide) rfl rfl rfl (by decide) ?_
  clear hf; intro a ha hf; clear ha
  refine st_ieql hf (by decide) rfl rfl rfl ?_
  clear hf; intro a ha hf; clear ha
  refine st_nil hf ?_
  refine th_n ?_
  refine wp_if hf rfl (fun hb => ?_) (fun hb => ?_)
  · replace h := ifT h hb
    refine wp_reg ?_
    refine st_move hf rfl rfl (by decide) ?_
    clear hf; intro a ha hf; clear ha
    refine st_isub hf (by decide) rfl rfl rfl ?_
    clear hf; intro a ha hf; clear ha
    refine st_assign hf rfl rfl (by decide) ?_
    clear hf; intro a ha hf; clear ha
    refine st_nil hf ?_
    refine th_n ?_
    refine wp_seq ?_
    refine wp_reg ?_
    refine st_move hf rfl rfl (by decide) ?_
    clear hf; intro a ha hf; clear ha
    refine st_move hf rfl rfl (by decide) ?_
    clear hf; intro a ha hf; clear ha
    refine st_ineg hf (by decide) rfl rfl ?_
    clear hf; intro a ha hf; clear ha
    refine st_imax hf (by decide) rfl rfl rfl ?_
    clear hf; intro a ha hf; clear ha
    refine st_assign hf rfl rfl (by decide) ?_
    clear hf; intro a ha hf; clear ha
    refine st_assign hf rfl rfl (by decide) ?_
    clear hf; intro a ha hf; clear ha
    refine st_nil hf ?_
    refine th_n ?_
    refine wp_ret ?_
    obtain rfl := Option.some.inj h
    exact ⟨rfl, ⟨hf.sub ⟨rfl, rfl, trivial⟩, hp⟩⟩
  replace h := ifF h hb
  refine wp_skip ?_
  refine th_n ?_
  refine wp_seq ?_
  refine wp_reg ?_
  refine st_move hf rfl rfl (by decide) ?_
  clear hf; intro a ha hf; clear ha
  refine st_move hf rfl rfl (by decide) ?_
  clear hf; intro a ha hf; clear ha
  refine st_ineg hf (by decide) rfl rfl ?_
  clear hf; intro a ha hf; clear ha
  refine st_imax hf (by decide) rfl rfl rfl ?_
  clear hf; intro a ha hf; clear ha
  refine st_assign hf rfl rfl (by decide) ?_
  clear hf; intro a ha hf; clear ha
  refine st_assign hf rfl rfl (by decide) ?_
  clear hf; intro a ha hf; clear ha
  refine st_nil hf ?_
  refine th_n ?_
  refine wp_ret ?_
  obtain rfl := Option.some.inj h
  exact ⟨rfl, ⟨hf.sub ⟨rfl, rfl, trivial⟩, hp⟩⟩

noncomputable def f_bits_Ungray.s1c (n0 : Int) (sx4 : Int) : Option ((Int × Int) ⊕ Int) := (if (decide (sx4 < (16 : Int))) = true then (if 0 ≤ sx4 then (some (Sum.inl ((ixor .i64 n0 (ishr .i64 n0 sx4)), (ishl .i64 sx4 (1 : Int))))) else none) else (some (Sum.inr n0)))
noncomputable def f_bits_Ungray.s1  (s : (Int × Int)) : Option ((Int × Int) ⊕ Int) := f_bits_Ungray.s1c s.1 s.2
noncomputable def f_bits_Ungray (n0 : Int) : Option (Int × Int) := (if ((decide (n0 < (0 : Int))) || (decide ((65536 : Int) ≤ n0))) = true then (some ((0 : Int), (1 : Int))) else ((loop f_bits_Ungray.s1 (n0, (1 : Int))).bind (fun q4 => (some (q4, (0 : Int))))))
theorem f_bits_Ungray_c {S : Nat → Prop} {w0 w : World} {ow : List Res} (hp : Hp S w0 w ow) (n0 : Int) {r : (Int × Int)} (h : f_bits_Ungray n0 = some r) :
    Calls Try.prog 52 #[.int .i64 n0] w (fun e w' => e = .returned (.tuple #[.int .i64 r.1, .int .i64 r.2]) ∧ Hp S w0 w' (ow)) := by
  unfold f_bits_Ungray at h
  refine enter (n := 21) (args := [.int .i64 n0]) Try.func52 rfl rfl (Nat.le_of_ble_eq_true rfl) fun a hf => ?_
  replace hf : Fr 21 a [(0, .int .i64 n0)] := hf
  refine wp_mono (Q := fun e a w => e = .ret ∧ Fr 21 a [(2, .int .i64 r.1), (3, .int .i64 r.2)] ∧ Hp S w0 w (ow)) ?_ ?_
  rotate_left
  · rintro e a w ⟨rfl, hf, hp⟩
    exact ret2 hf rfl rfl rfl ⟨rfl, hp⟩
  refine wp_seq ?_
  refine wp_reg ?_
  refine st_assign hf rfl rfl (by decide) ?_
  clear hf; intro a ha hf; clear ha
  refine st_assign hf rfl rfl (by decide) ?_
  clear hf; intro a ha hf; clear ha
  refine st_nil hf ?_
  refine th_n ?_
  refine wp_seq ?_
  refine wp_seq ?_
  refine wp_reg ?_
  refine st_move hf rfl rfl (by decide) ?_
  clear hf; intro a ha hf; clear ha
  refine st_ilss hf (by decide) rfl rfl rfl ?_
  clear hf; intro a ha hf; clear ha
  refine st_move hf rfl rfl (by decide) ?_
  clear hf; intro a ha hf; clear ha
  refine wpList_cut 3 (fun a w => Fr 21 a [(0, .int .i64 n0), (10, .bool ((decide (n0 < (0 : Int))) || (decide ((65536 : Int) ≤ n0))))] ∧ Hp S w0 w (ow)) ?_ ?_
  · rcases Bool.eq_false_or_eq_true (decide (n0 < (0 : Int))) with hb2 | hb2
    · skip
      refine st_skip hf (wantN hf rfl rfl hb2) rfl (by decide) ?_ rfl
      clear hf; intro a hf
      refine st_skip hf (wantN hf rfl rfl hb2) rfl (by decide) ?_ rfl
      clear hf; intro a hf
      refine st_pick (v := .bool true) hf rfl rfl (fun hb' => ?_) (fun hb' => ?_) (by decide) ?_
      · rfl
      · exact absurd (hb2.symm.trans hb') (by decide)
      clear hf; intro a ha hf; clear ha
      refine st_nil hf (th_n ?_)
      exact ⟨hf.sub ⟨rfl, (by rw [hb2]; rfl), trivial⟩, hp⟩
    refine st_move hf (wantY hf rfl rfl hb2) rfl (by decide) ?_
    clear hf; intro a ha hf; clear ha
    refine st_igeq hf (by decide) (wantY hf rfl rfl hb2) rfl rfl ?_
    clear hf; intro a ha hf; clear ha
    refine st_pick (v := .bool (decide ((65536 : Int) ≤ n0))) hf rfl rfl (fun hb' => ?_) (fun hb' => ?_) (by decide) ?_
    · exact absurd (hb2.symm.trans hb') (by decide)
    · rfl
    clear hf; intro a ha hf; clear ha
    refine st_nil hf (th_n ?_)
    exact ⟨hf.sub ⟨rfl, (by rw [hb2]; rfl), trivial⟩, hp⟩
  rintro a w ⟨hf, hp⟩
  refine st_nil hf ?_
  refine th_n ?_
  refine wp_if hf rfl (fun hb => ?_) (fun hb => ?_)
  · replace h := ifT h hb
    refine wp_seq ?_
    refine wp_reg ?_
    refine st_assign hf rfl rfl (by decide) ?_
    clear hf; intro a ha hf; clear ha
    refine st_assign hf rfl rfl (by decide) ?_
    clear hf; intro a ha hf; clear ha
    refine st_nil hf ?_
    refine th_n ?_
    refine wp_ret ?_
    refine th_r ?_
    obtain rfl := Option.some.inj h
    exact ⟨rfl, ⟨hf.sub ⟨rfl, rfl, trivial⟩, hp⟩⟩
  replace h := ifF h hb
  refine wp_skip ?_
  refine th_n ?_
  refine wp_seq ?_
  refine wp_seq ?_
  refine wp_reg ?_
  refine st_assign hf rfl rfl (by decide) ?_
  clear hf; intro a ha hf; clear ha
  refine st_nil hf ?_
  refine th_n ?_
  refine wp_block ?_
  obtain ⟨q4, hl, h⟩ := bnd h
  refine wp_loop_pure (f := f_bits_Ungray.s1) (s := (n0, (1 : Int))) (fun s a w => Fr 21 a [(0, .int .i64 s.1), (4, .int .i64 s.2)] ∧ Hp S w0 w (ow)) (fun q e a w => e = .exit 0 ∧ Fr 21 a [(0, .int .i64 q)] ∧ Hp S w0 w (ow)) ?_ hl ⟨hf.sub ⟨rfl, rfl, trivial⟩, hp⟩ ?_
  · clear hl hf hp
    intro s x a w h hI
    obtain ⟨n0, sx4⟩ := s
    obtain ⟨hf, hp⟩ : Fr 21 a [(0, .int .i64 n0), (4, .int .i64 sx4)] ∧ Hp S w0 w (ow) := hI
    replace h : f_bits_Ungray.s1c n0 sx4 = some x := h
    unfold f_bits_Ungray.s1c at h
    refine wp_seq ?_
    refine wp_seq ?_
    refine wp_reg ?_
    refine st_move hf rfl rfl (by decide) ?_
    clear hf; intro a ha hf; clear ha
    refine st_ilss hf (by decide) rfl rfl rfl ?_
    clear hf; intro a ha hf; clear ha
    refine st_nil hf ?_
    refine th_n ?_
    refine wp_if hf rfl (fun hb => ?_) (fun hb => ?_)
    · replace h := ifT h hb
      refine wp_skip ?_
      refine th_n ?_
      refine wp_seq ?_
      refine wp_block ?_
      refine wp_reg ?_
      refine st_move hf rfl rfl (by decide) ?_
      clear hf; intro a ha hf; clear ha
      refine st_move hf rfl rfl (by decide) ?_
      clear hf; intro a ha hf; clear ha
      refine st_move hf rfl rfl (by decide) ?_
      clear hf; intro a ha hf; clear ha
      obtain ⟨hc3, h⟩ := chk h
      refine st_ishr hf (by decide) rfl rfl rfl hc3 ?_
      clear hf; intro a ha hf; clear ha
      refine st_ixor hf (by decide) rfl rfl rfl ?_
      clear hf; intro a ha hf; clear ha
      refine st_assign hf rfl rfl (by decide) ?_
      clear hf; intro a ha hf; clear ha
      refine st_nil hf ?_
      refine ib_n ?_
      refine th_n ?_
      refine wp_reg ?_
      refine st_move hf rfl rfl (by decide) ?_
      clear hf; intro a ha hf; clear ha
      refine st_ishl hf (by decide) rfl rfl rfl (by decide) ?_
      clear hf; intro a ha hf; clear ha
      refine st_assign hf rfl rfl (by decide) ?_
      clear hf; intro a ha hf; clear ha
      refine st_nil hf ?_
      obtain rfl := Option.some.inj h
      exact rnd_l ⟨hf.sub ⟨rfl, rfl, trivial⟩, hp⟩
    replace h := ifF h hb
    refine wp_exit ?_
    refine th_e ?_
    obtain rfl := Option.some.inj h
    exact rnd_r (by simp) ⟨rfl, hf.sub ⟨rfl, trivial⟩, hp⟩
  clear hl hf hp
  intro e a w hne hO
  obtain ⟨rfl, hf, hp⟩ := hO
  refine ib_same ?_
  refine th_n ?_
  refine wp_seq ?_
  refine wp_reg ?_
  refine st_move hf rfl rfl (by decide) ?_
  clear hf; intro a ha hf; clear ha
  refine st_assign hf rfl rfl (by decide) ?_
  clear hf; intro a ha hf; clear ha
  refine st_assign hf rfl rfl (by decide) ?_
  clear hf; intro a ha hf; clear ha
  refine st_nil hf ?_
  refine th_n ?_
  refine wp_ret ?_
  obtain rfl := Option.some.inj h
  exact ⟨rfl, ⟨hf.sub ⟨rfl, rfl, trivial⟩, hp⟩⟩

noncomputable def f_points_square_1 (word0 : Int) (t1 : Int) : Option Fl := ((f_bits_Ungray word0).bind fun q1 => (some (fofi (IntKind.i64.wrap ((IntKind.i64.wrap ((2 : Int) * q1.1)) - t1)))))
theorem f_points_square_1_c {S : Nat → Prop} {w0 w : World} {ow : List Res} (hp : Hp S w0 w ow) (word0 : Int) (t1 : Int) (ot1 : Value) (hot1 : RdO S w0 ot1 [.int .i64 t1]) {r : Fl} (h : f_points_square_1 word0 t1 = some r) :
    Calls Try.prog 51 #[.int .i64 word0, optr ot1 0] w (fun e w' => ∃ (b0 : Nat), e = .returned (.float .f64 b0) ∧ Fl.rep b0 r ∧ Hp S w0 w' (ow)) := by
  unfold f_points_square_1 at h
  refine enter (n := 16) (args := [.int .i64 word0, optr ot1 0]) Try.func51 rfl rfl (Nat.le_of_ble_eq_true rfl) fun a hf => ?_
  replace hf : Fr 16 a [(0, .int .i64 word0), (1, optr ot1 0)] := hf
  refine wp_mono (Q := fun e a w => e = .ret ∧ ∃ (b0 : Nat), Fr 16 a [(3, .float .f64 b0)] ∧ Fl.rep b0 r ∧ Hp S w0 w (ow)) ?_ ?_
  rotate_left
  · rintro e a w ⟨rfl, x0, hf, y0, hp⟩
    exact ret1 hf rfl rfl ⟨x0, rfl, y0, hp⟩
  refine wp_seq ?_
  refine wp_reg ?_
  refine st_assign hf rfl rfl (by decide) ?_
  clear hf; intro a ha hf; clear ha
  refine st_nil hf ?_
  refine th_n ?_
  refine wp_seq ?_
  refine wp_reg ?_
  refine st_move hf rfl rfl (by decide) ?_
  clear hf; intro a ha hf; clear ha
  obtain ⟨q1, hcall2, h⟩ := bnd h
  refine st_call hf (by decide) Try.func52 rfl rfl rfl rfl rfl (f_bits_Ungray_c hp _ hcall2) ?_
  rintro _ w ⟨rfl, hp0⟩
  clear hp; have hp := hp0; clear hp0
  replace hp : Hp _ _ _ (ow) := hp
  refine ⟨_, rfl, ?_⟩
  clear hf; intro a hf
  refine st_move hf rfl rfl (by decide) ?_
  clear hf; intro a ha hf; clear ha
  refine st_extract hf (by decide) rfl rfl rfl ?_
  clear hf; intro a ha hf; clear ha
  refine st_extract hf (by decide) rfl rfl rfl ?_
  clear hf; intro a ha hf; clear ha
  refine st_assign hf rfl rfl (by decide) ?_
  clear hf; intro a ha hf; clear ha
  refine st_assign hf rfl rfl (by decide) ?_
  clear hf; intro a ha hf; clear ha
  refine st_nil hf ?_
  refine th_n ?_
  refine wp_seq ?_
  refine wp_reg ?_
  refine st_move hf rfl rfl (by decide) ?_
  clear hf; intro a ha hf; clear ha
  refine st_imul hf (by decide) rfl rfl rfl ?_
  clear hf; intro a ha hf; clear ha
  refine st_ldO (u := .int .i64 t1) hf (by decide) pl3 rfl rfl (hot1.ob hp) rfl ?_
  clear hf; intro a ha hf; clear ha
  refine st_isub hf (by decide) rfl rfl rfl ?_
  clear hf; intro a ha hf; clear ha
  refine st_conv_if Try.underlying3 Try.underlying33 hf (by decide) rfl rfl ?_
  clear hf; intro a ha hf; clear ha
  refine st_assign hf rfl rfl (by decide) ?_
  clear hf; intro a ha hf; clear ha
  refine st_nil hf ?_
  refine th_n ?_
  refine wp_ret ?_
  obtain rfl := Option.some.inj h
  exact ⟨rfl, ⟨_, hf.sub ⟨rfl, trivial⟩, rfl, hp⟩⟩

noncomputable def f_points_square_2 (label0 : Int) (t1 : Int) (t700 : Int) : Option (Fl × Fl) := (if 0 ≤ (IntKind.i64.wrap ((t1).tdiv (2 : Int))) then ((f_points_square_1 (ishr .i64 label0 (IntKind.i64.wrap ((t1).tdiv (2 : Int)))) t700).bind fun q2 => (if 0 ≤ (IntKind.i64.wrap ((t1).tdiv (2 : Int))) then ((f_points_square_1 (iand .i64 label0 (IntKind.i64.wrap ((ishl .i64 (1 : Int) (IntKind.i64.wrap ((t1).tdiv (2 : Int)))) - (1 : Int)))) t700).bind fun q7 => (some (q2, q7))) else none)) else none)
theorem f_points_square_2_c {S : Nat → Prop} {w0 w : World} {ow : List Res} (hp : Hp S w0 w ow) (label0 : Int) (t1 : Int) (ot1 : Value) (hot1 : RdO S w0 ot1 [.int .i64 t1]) (t700 : Int) (ot700 : Value) (hot700 : RdO S w0 ot700 [.int .i64 t700]) (ot2 : Value) (hot2 : RdO S w0 ot2 [.func (.func 51) #[] #[optr ot700 0]]) {r : (Fl × Fl)} (h : f_points_square_2 label0 t1 t700 = some r) :
    Calls Try.prog 53 #[.int .i64 label0, optr ot1 0, optr ot2 0] w (fun e w' => ∃ (b0 : Nat) (b1 : Nat), e = .returned (.complex .f64 b0 b1) ∧ Fl.rep b0 r.1 ∧ Fl.rep b1 r.2 ∧ Hp S w0 w' (ow)) := by
  unfold f_points_square_2 at h
  refine enter (n := 21) (args := [.int .i64 label0, optr ot1 0, optr ot2 0]) Try.func53 rfl rfl (Nat.le_of_ble_eq_true rfl) fun a hf => ?_
  replace hf : Fr 21 a [(0, .int .i64 label0), (1, optr ot1 0), (2, optr ot2 0)] := hf
  refine wp_mono (Q := fun e a w => e = .ret ∧ ∃ (b0 : Nat) (b1 : Nat), Fr 21 a [(4, .complex .f64 b0 b1)] ∧ Fl.rep b0 r.1 ∧ Fl.rep b1 r.2 ∧ Hp S w0 w (ow)) ?_ ?_
  rotate_left
  · rintro e a w ⟨rfl, x0, x1, hf, y0, y1, hp⟩
    exact ret1 hf rfl rfl ⟨x0, x1, rfl, y0, y1, hp⟩
  refine wp_seq ?_
  refine wp_reg ?_
  refine st_assign hf rfl rfl (by decide) ?_
  clear hf; intro a ha hf; clear ha
  refine st_nil hf ?_
  refine th_n ?_
  refine wp_seq ?_
  refine wp_reg ?_
  refine st_ldO (u := .int .i64 t1) hf (by decide) pl3 rfl rfl (hot1.ob hp) rfl ?_
  clear hf; intro a ha hf; clear ha
  refine st_iquo hf (by decide) rfl rfl rfl (by decide) ?_
  clear hf; intro a ha hf; clear ha
  refine st_assign hf rfl rfl (by decide) ?_
  clear hf; intro a ha hf; clear ha
  refine st_nil hf ?_
  refine th_n ?_
  refine wp_seq ?_
  obtain ⟨hc1, h⟩ := chk h
  obtain ⟨q2, hcall3, h⟩ := bnd h
  obtain ⟨hc6, h⟩ := chk h
  obtain ⟨q7, hcall8, h⟩ := bnd h
  refine wp_cutN (fun a w => ∃ (v4 : Nat) (v9 : Nat), Fl.rep v4 q2 ∧ Fl.rep v9 q7 ∧ Fr 21 a [(4, .complex .f64 v4 v9)] ∧ Hp S w0 w (ow)) ?_ ?_
  · have hp := hp.same (Same.drew w)
    refine dr_begin' (fun a w => ∃ (v4 : Nat) (v9 : Nat), Fl.rep v4 q2 ∧ Fl.rep v9 q7 ∧ Fr 21 a [(4, .complex .f64 v4 v9)] ∧ Hp S w0 w (ow)) (fun w' => ∃ l, Hp S w0 w' l) [] (by kernel_rfl) ?_
    refine dr_take 0 (.func (.func 51) #[] #[optr ot700 0]) rfl (by kernel_rfl) (by kernel_rfl) (by kernel_rfl) (by kernel_rfl) rfl rfl hf (by decide) rfl (fun w hp => ?_) ⟨_, hp⟩ ?_
    · obtain ⟨_, hp⟩ := hp
      refine st_ldO (u := .func (.func 51) #[] #[optr ot700 0]) hf (by decide) pl108 rfl rfl (hot2.ob hp) rfl ?_
      clear hf; intro a ha hf
      exact st_nil hf (th_n ⟨ha, rfl⟩)
    clear hf; intro a hf
    refine dr_take 1 (.int .i64 label0) rfl (by kernel_rfl) (by kernel_rfl) (by kernel_rfl) (by kernel_rfl) rfl rfl hf (by decide) rfl (fun w hp => ?_) ⟨_, hp⟩ ?_
    · obtain ⟨_, hp⟩ := hp
      refine st_move hf rfl rfl (by decide) ?_
      clear hf; intro a ha hf
      exact st_nil hf (th_n ⟨ha, rfl⟩)
    clear hf; intro a hf
    refine dr_take 2 (.int .i64 (IntKind.i64.wrap ((t1).tdiv (2 : Int)))) rfl (by kernel_rfl) (by kernel_rfl) (by kernel_rfl) (by kernel_rfl) rfl rfl hf (by decide) rfl (fun w hp => ?_) ⟨_, hp⟩ ?_
    · obtain ⟨_, hp⟩ := hp
      refine st_move hf rfl rfl (by decide) ?_
      clear hf; intro a ha hf
      exact st_nil hf (th_n ⟨ha, rfl⟩)
    clear hf; intro a hf
    refine dr_take 3 (.int .i64 (ishr .i64 label0 (IntKind.i64.wrap ((t1).tdiv (2 : Int))))) rfl (by kernel_rfl) (by kernel_rfl) (by kernel_rfl) (by kernel_rfl) rfl rfl hf (by decide) rfl (fun w hp => ?_) ⟨_, hp⟩ ?_
    · obtain ⟨_, hp⟩ := hp
      refine st_ishr hf (by decide) rfl rfl rfl hc1 ?_
      clear hf; intro a ha hf
      exact st_nil hf (th_n ⟨ha, rfl⟩)
    clear hf; intro a hf
    refine dr_take 5 (.func (.func 51) #[] #[optr ot700 0]) rfl (by kernel_rfl) (by kernel_rfl) (by kernel_rfl) (by kernel_rfl) rfl rfl hf (by decide) rfl (fun w hp => ?_) ⟨_, hp⟩ ?_
    · obtain ⟨_, hp⟩ := hp
      refine st_ldO (u := .func (.func 51) #[] #[optr ot700 0]) hf (by decide) pl108 rfl rfl (hot2.ob hp) rfl ?_
      clear hf; intro a ha hf
      exact st_nil hf (th_n ⟨ha, rfl⟩)
    clear hf; intro a hf
    refine dr_take 6 (.int .i64 label0) rfl (by kernel_rfl) (by kernel_rfl) (by kernel_rfl) (by kernel_rfl) rfl rfl hf (by decide) rfl (fun w hp => ?_) ⟨_, hp⟩ ?_
    · obtain ⟨_, hp⟩ := hp
      refine st_move hf rfl rfl (by decide) ?_
      clear hf; intro a ha hf
      exact st_nil hf (th_n ⟨ha, rfl⟩)
    clear hf; intro a hf
    refine dr_take 7 (.int .i64 (IntKind.i64.wrap ((t1).tdiv (2 : Int)))) rfl (by kernel_rfl) (by kernel_rfl) (by kernel_rfl) (by kernel_rfl) rfl rfl hf (by decide) rfl (fun w hp => ?_) ⟨_, hp⟩ ?_
    · obtain ⟨_, hp⟩ := hp
      refine st_move hf rfl rfl (by decide) ?_
      clear hf; intro a ha hf
      exact st_nil hf (th_n ⟨ha, rfl⟩)
    clear hf; intro a hf
    refine dr_take 8 (.int .i64 (ishl .i64 (1 : Int) (IntKind.i64.wrap ((t1).tdiv (2 : Int))))) rfl (by kernel_rfl) (by kernel_rfl) (by kernel_rfl) (by kernel_rfl) rfl rfl hf (by decide) rfl (fun w hp => ?_) ⟨_, hp⟩ ?_
    · obtain ⟨_, hp⟩ := hp
      refine st_ishl hf (by decide) rfl rfl rfl hc6 ?_
      clear hf; intro a ha hf
      exact st_nil hf (th_n ⟨ha, rfl⟩)
    clear hf; intro a hf
    refine dr_take 9 (.int .i64 (IntKind.i64.wrap ((ishl .i64 (1 : Int) (IntKind.i64.wrap ((t1).tdiv (2 : Int)))) - (1 : Int)))) rfl (by kernel_rfl) (by kernel_rfl) (by kernel_rfl) (by kernel_rfl) rfl rfl hf (by decide) rfl (fun w hp => ?_) ⟨_, hp⟩ ?_
    · obtain ⟨_, hp⟩ := hp
      refine st_isub hf (by decide) rfl rfl rfl ?_
      clear hf; intro a ha hf
      exact st_nil hf (th_n ⟨ha, rfl⟩)
    clear hf; intro a hf
    refine dr_take 10 (.int .i64 (iand .i64 label0 (IntKind.i64.wrap ((ishl .i64 (1 : Int) (IntKind.i64.wrap ((t1).tdiv (2 : Int)))) - (1 : Int))))) rfl (by kernel_rfl) (by kernel_rfl) (by kernel_rfl) (by kernel_rfl) rfl rfl hf (by decide) rfl (fun w hp => ?_) ⟨_, hp⟩ ?_
    · obtain ⟨_, hp⟩ := hp
      refine st_iand hf (by decide) rfl rfl rfl ?_
      clear hf; intro a ha hf
      exact st_nil hf (th_n ⟨ha, rfl⟩)
    clear hf; intro a hf
    refine dr_one 4 rfl (by kernel_rfl) ?_
    refine st_call hf (by decide) Try.func51 rfl rfl rfl rfl rfl (f_points_square_1_c hp _ _ _ hot700 hcall3) ?_
    rintro _ w ⟨v4, rfl, y5, hp0⟩
    clear hp; have hp := hp0; clear hp0
    replace hp : Hp _ _ _ (ow) := hp
    refine ⟨_, rfl, ?_⟩
    clear hf; intro a hf
    refine st_nil hf (th_n ⟨fun _ _ => ⟨_, hp⟩, ?_⟩)
    refine dr_one 11 rfl (by kernel_rfl) ?_
    refine st_call hf (by decide) Try.func51 rfl rfl rfl rfl rfl (f_points_square_1_c hp _ _ _ hot700 hcall8) ?_
    rintro _ w ⟨v9, rfl, y10, hp0⟩
    clear hp; have hp := hp0; clear hp0
    replace hp : Hp _ _ _ (ow) := hp
    refine ⟨_, rfl, ?_⟩
    clear hf; intro a hf
    refine st_nil hf (th_n ⟨fun _ _ => ⟨_, hp⟩, ?_⟩)
    refine dr_take 12 (.complex .f64 v4 v9) rfl (by kernel_rfl) (by kernel_rfl) (by kernel_rfl) (by kernel_rfl) rfl rfl hf (by decide) rfl (fun w hp => ?_) ⟨_, hp⟩ ?_
    · obtain ⟨_, hp⟩ := hp
      refine st_complex hf (by decide) rfl rfl rfl ?_
      clear hf; intro a ha hf
      exact st_nil hf (th_n ⟨ha, rfl⟩)
    clear hf; intro a hf
    refine dr_take 13 (.complex .f64 v4 v9) rfl (by kernel_rfl) (by kernel_rfl) (by kernel_rfl) (by kernel_rfl) rfl rfl hf (by decide) rfl (fun w hp => ?_) ⟨_, hp⟩ ?_
    · obtain ⟨_, hp⟩ := hp
      refine st_assign hf rfl rfl (by decide) ?_
      clear hf; intro a ha hf
      exact st_nil hf (th_n ⟨ha, rfl⟩)
    clear hf; intro a hf
    refine dr_end (by kernel_rfl) ?_ _
    exact ⟨v4, v9, y5, y10, hf.sub ⟨rfl, trivial⟩, hp⟩
  rintro a w ⟨v4, v9, y5, y10, hf, hp⟩
  refine th_n ?_
  refine wp_ret ?_
  obtain rfl := Option.some.inj h
  exact ⟨rfl, ⟨_, _, hf.sub ⟨rfl, trivial⟩, y5, y10, hp⟩⟩

noncomputable def f_points_All.s1c (out6 : (List (Fl × Fl))) (t19 : Int) : Option (((List (Fl × Fl)) × Int) ⊕ (List (Fl × Fl))) := (if (decide (t19 < ((List.replicate ((4 : Int)).toNat (Fl.bits 0, Fl.bits 0)).length : Int))) = true then ((f_points_square_2 t19 (2 : Int) (1 : Int)).bind fun q19 => (if 0 ≤ t19 ∧ t19 < (out6.length : Int) then (some (Sum.inl ((out6.set (t19).toNat q19), (IntKind.i64.wrap (t19 + (1 : Int)))))) else none)) else (some (Sum.inr out6)))
noncomputable def f_points_All.s1  (s : ((List (Fl × Fl)) × Int)) : Option (((List (Fl × Fl)) × Int) ⊕ (List (Fl × Fl))) := f_points_All.s1c s.1 s.2
noncomputable def f_points_All  : Option ((List (Fl × Fl)) × Int) := ((f_points_of).bind fun q1 => (if (!q1.2) = true then (some ([], (1 : Int))) else (if 0 ≤ (4 : Int) ∧ (4 : Int) ≤ (4 : Int) ∧ (4 : Int) * 16 ≤ 281474976710656 then ((loop f_points_All.s1 ((List.replicate ((4 : Int)).toNat (Fl.bits 0, Fl.bits 0)), (0 : Int))).bind (fun q41 => (some (q41, (0 : Int))))) else none)))
theorem f_points_All_c {S : Nat → Prop} {w0 w : World} {ow : List Res} (hp : Hp S w0 w ow) {r : ((List (Fl × Fl)) × Int)} (h : f_points_All = some r) :
    Calls Try.prog 20 #[.int .i64 (4 : Int)] w (fun e w' => ∃ (u0 : Value), e = .returned (.tuple #[u0, .int .i64 r.2]) ∧ Hp S w0 w' (Res.sl Ek.c128 39 u0 r.1 :: ow)) := by
  unfold f_points_All at h
  refine enter (n := 31) (args := [.int .i64 (4 : Int)]) Try.func20 rfl rfl (Nat.le_of_ble_eq_true rfl) fun a hf => ?_
  replace hf : Fr 31 a [(0, .int .i64 (4 : Int))] := hf
  refine wp_mono (Q := fun e a w => e = .ret ∧ ∃ (u0 : Value), Fr 31 a [(2, u0), (3, .int .i64 r.2)] ∧ Hp S w0 w (Res.sl Ek.c128 39 u0 r.1 :: ow)) ?_ ?_
  rotate_left
  · rintro e a w ⟨rfl, x0, hf, hp⟩
    exact ret2 hf rfl rfl rfl ⟨x0, rfl, hp⟩
  refine wp_seq ?_
  refine wp_reg ?_
  refine st_assign hf rfl rfl (by decide) ?_
  clear hf; intro a ha hf; clear ha
  refine st_assign hf rfl rfl (by decide) ?_
  clear hf; intro a ha hf; clear ha
  refine st_nil hf ?_
  refine th_n ?_
  refine wp_seq ?_
  refine wp_reg ?_
  refine st_move hf rfl rfl (by decide) ?_
  clear hf; intro a ha hf; clear ha
  obtain ⟨q1, hcall2, h⟩ := bnd h
  refine st_call hf (by decide) Try.func19 rfl rfl rfl rfl rfl (f_points_of_c hp  hcall2) ?_
  rintro _ w ⟨v3, v4, v5, rfl, hp0⟩
  clear hp; have hp := hp0; clear hp0
  replace hp : Hp _ _ _ (Res.obj 3 v3 [.int .i64 (2 : Int)] :: Res.obj 3 v4 [.int .i64 (1 : Int)] :: Res.obj 108 v5 [.func (.func 51) #[] #[optr v4 0]] :: ow) := hp
  refine ⟨_, rfl, ?_⟩
  clear hf; intro a hf
  refine st_move hf rfl rfl (by decide) ?_
  clear hf; intro a ha hf; clear ha
  refine st_extract hf (by decide) rfl rfl rfl ?_
  clear hf; intro a ha hf; clear ha
  refine st_extract hf (by decide) rfl rfl rfl ?_
  clear hf; intro a ha hf; clear ha
  refine st_alloc (cs := [.int .i64 (0 : Int), .int .i64 (0 : Int), .nilFunc]) (zv := .agg #[.int .i64 (0 : Int), .int .i64 (0 : Int), .nilFunc]) hf (by decide) (by kernel_rfl) rfl hp rfl ?_
  clear hf; intro a w v9 hf hp0; clear hp; have hp := hp0; clear hp0
  replace hp : Hp _ _ _ (Res.obj 71 v9 [.int .i64 (0 : Int), .int .i64 (0 : Int), .nilFunc] :: Res.obj 3 v3 [.int .i64 (2 : Int)] :: Res.obj 3 v4 [.int .i64 (1 : Int)] :: Res.obj 108 v5 [.func (.func 51) #[] #[optr v4 0]] :: ow) := hp
  refine st_stO (us := [.int .i64 (2 : Int), .int .i64 (1 : Int), .func (.func 53) #[] #[optr v3 0, optr v5 0]]) hf hp (i := 0) rfl rfl rfl rfl rfl (by rfl) (by kernel_rfl) (Nat.le_of_ble_eq_true rfl) ?_
  clear hf; intro a w hf hp0; clear hp; have hp := hp0; clear hp0
  replace hp : Hp _ _ _ (Res.obj 71 v9 [.int .i64 (2 : Int), .int .i64 (1 : Int), .func (.func 53) #[] #[optr v3 0, optr v5 0]] :: Res.obj 3 v3 [.int .i64 (2 : Int)] :: Res.obj 3 v4 [.int .i64 (1 : Int)] :: Res.obj 108 v5 [.func (.func 51) #[] #[optr v4 0]] :: ow) := hp
  refine st_assign hf rfl rfl (by decide) ?_
  clear hf; intro a ha hf; clear ha
  refine st_nil hf ?_
  refine th_n ?_
  refine wp_seq ?_
  refine wp_seq ?_
  refine wp_reg ?_
  refine st_move hf rfl rfl (by decide) ?_
  clear hf; intro a ha hf; clear ha
  refine st_not hf (by decide) rfl rfl ?_
  clear hf; intro a ha hf; clear ha
  refine st_nil hf ?_
  refine th_n ?_
  refine wp_if hf rfl (fun hb => ?_) (fun hb => ?_)
  · replace h := ifT h hb
    refine wp_seq ?_
    refine wp_reg ?_
    refine st_assign hf rfl rfl (by decide) ?_
    clear hf; intro a ha hf; clear ha
    refine st_assign hf rfl rfl (by decide) ?_
    clear hf; intro a ha hf; clear ha
    refine st_nil hf ?_
    refine th_n ?_
    refine wp_ret ?_
    refine th_r ?_
    obtain rfl := Option.some.inj h
    have hp := hp.nil Ek.c128 39
    have hp : Hp _ _ _ (Res.sl Ek.c128 39 (.slice none 0 0) ([]) :: ow) := Hp.sel (pre := [Res.sl Ek.c128 39 (.slice none 0 0) ([]), Res.obj 71 v9 [.int .i64 (2 : Int), .int .i64 (1 : Int), .func (.func 53) #[] #[optr v3 0, optr v5 0]], Res.obj 3 v3 [.int .i64 (2 : Int)], Res.obj 3 v4 [.int .i64 (1 : Int)], Res.obj 108 v5 [.func (.func 51) #[] #[optr v4 0]]]) (tail := ow) (rs' := [Res.sl Ek.c128 39 (.slice none 0 0) ([])]) hp [0] (by decide) (by simp) rfl
    exact ⟨rfl, ⟨_, hf.sub ⟨rfl, rfl, trivial⟩, hp⟩⟩
  replace h := ifF h hb
  refine wp_skip ?_
  refine th_n ?_
  refine wp_seq ?_
  refine wp_reg ?_
  refine st_move hf rfl rfl (by decide) ?_
  clear hf; intro a ha hf; clear ha
  obtain ⟨hc12, h⟩ := chk h
  refine st_make (E := Ek.c128) hf (by decide) elt39 Try.underlying32 (by decide) hp rfl rfl rfl hc12.1 hc12.2.1 hc12.2.2 ?_
  clear hf; intro a w v13 hf hp0; clear hp; have hp := hp0; clear hp0
  replace hp : Hp _ _ _ (Res.sl Ek.c128 39 v13 (List.replicate ((4 : Int)).toNat (Fl.bits 0, Fl.bits 0)) :: Res.obj 71 v9 [.int .i64 (2 : Int), .int .i64 (1 : Int), .func (.func 53) #[] #[optr v3 0, optr v5 0]] :: Res.obj 3 v3 [.int .i64 (2 : Int)] :: Res.obj 3 v4 [.int .i64 (1 : Int)] :: Res.obj 108 v5 [.func (.func 51) #[] #[optr v4 0]] :: ow) := hp
  refine st_assign hf rfl rfl (by decide) ?_
  clear hf; intro a ha hf; clear ha
  refine st_nil hf ?_
  refine th_n ?_
  refine wp_seq ?_
  refine wp_seq ?_
  refine wp_reg ?_
  refine st_move hf rfl rfl (by decide) ?_
  clear hf; intro a ha hf; clear ha
  refine st_len (E := Ek.c128) hf (by decide) Try.underlying32 rfl rfl (hp.sl (i := 0) rfl) ?_
  clear hf; intro a ha hf; clear ha
  refine st_move hf rfl rfl (by decide) ?_
  clear hf; intro a ha hf; clear ha
  refine st_nil hf ?_
  refine th_n ?_
  refine wp_block ?_
  obtain ⟨q41, hl, h⟩ := bnd h
  have hp : Hp _ _ _ (Res.sl Ek.c128 39 v13 (List.replicate ((4 : Int)).toNat (Fl.bits 0, Fl.bits 0)) :: Res.obj 71 v9 [.int .i64 (2 : Int), .int .i64 (1 : Int), .func (.func 53) #[] #[optr v3 0, optr v5 0]] :: Res.obj 3 v3 [.int .i64 (2 : Int)] :: Res.obj 108 v5 [.func (.func 51) #[] #[optr v4 0]] :: Res.obj 3 v4 [.int .i64 (1 : Int)] :: ow) := Hp.sel (pre := [Res.sl Ek.c128 39 v13 (List.replicate ((4 : Int)).toNat (Fl.bits 0, Fl.bits 0)), Res.obj 71 v9 [.int .i64 (2 : Int), .int .i64 (1 : Int), .func (.func 53) #[] #[optr v3 0, optr v5 0]], Res.obj 3 v3 [.int .i64 (2 : Int)], Res.obj 3 v4 [.int .i64 (1 : Int)], Res.obj 108 v5 [.func (.func 51) #[] #[optr v4 0]]]) (tail := ow) (rs' := [Res.sl Ek.c128 39 v13 (List.replicate ((4 : Int)).toNat (Fl.bits 0, Fl.bits 0)), Res.obj 71 v9 [.int .i64 (2 : Int), .int .i64 (1 : Int), .func (.func 53) #[] #[optr v3 0, optr v5 0]], Res.obj 3 v3 [.int .i64 (2 : Int)], Res.obj 108 v5 [.func (.func 51) #[] #[optr v4 0]], Res.obj 3 v4 [.int .i64 (1 : Int)]]) hp [0, 1, 2, 4, 3] (by decide) (by simp) rfl
  refine wp_loop_pure (f := f_points_All.s1) (s := ((List.replicate ((4 : Int)).toNat (Fl.bits 0, Fl.bits 0)), (0 : Int))) (fun s a w => ∃ (v15 : Value), Fr 31 a [(4, optr v9 0), (6, v15), (18, .int .i64 ((List.replicate ((4 : Int)).toNat (Fl.bits 0, Fl.bits 0)).length : Int)), (19, .int .i64 s.2)] ∧ Hp S w0 w (Res.sl Ek.c128 39 v15 s.1 :: Res.obj 71 v9 [.int .i64 (2 : Int), .int .i64 (1 : Int), .func (.func 53) #[] #[optr v3 0, optr v5 0]] :: Res.obj 3 v3 [.int .i64 (2 : Int)] :: Res.obj 108 v5 [.func (.func 51) #[] #[optr v4 0]] :: Res.obj 3 v4 [.int .i64 (1 : Int)] :: ow)) (fun q e a w => e = .exit 0 ∧ ∃ (v17 : Value), Fr 31 a [(6, v17)] ∧ Hp S w0 w (Res.sl Ek.c128 39 v17 q :: ow)) ?_ hl ⟨_, hf.sub ⟨rfl, rfl, rfl, rfl, trivial⟩, hp⟩ ?_
  · clear hl hf hp
    intro s x a w h hI
    obtain ⟨out6, t19⟩ := s
    obtain ⟨v15, hf, hp⟩ : ∃ (v15 : Value), Fr 31 a [(4, optr v9 0), (6, v15), (18, .int .i64 ((List.replicate ((4 : Int)).toNat (Fl.bits 0, Fl.bits 0)).length : Int)), (19, .int .i64 t19)] ∧ Hp S w0 w (Res.sl Ek.c128 39 v15 out6 :: Res.obj 71 v9 [.int .i64 (2 : Int), .int .i64 (1 : Int), .func (.func 53) #[] #[optr v3 0, optr v5 0]] :: Res.obj 3 v3 [.int .i64 (2 : Int)] :: Res.obj 108 v5 [.func (.func 51) #[] #[optr v4 0]] :: Res.obj 3 v4 [.int .i64 (1 : Int)] :: ow) := hI
    replace h : f_points_All.s1c out6 t19 = some x := h
    unfold f_points_All.s1c at h
    refine wp_seq ?_
    refine wp_reg ?_
    refine st_ilss hf (by decide) rfl rfl rfl ?_
    clear hf; intro a ha hf; clear ha
    refine st_nil hf ?_
    refine th_n ?_
    refine wp_seq ?_
    refine wp_if hf rfl (fun hb => ?_) (fun hb => ?_)
    · replace h := ifT h hb
      refine wp_skip ?_
      refine th_n ?_
      refine wp_seq ?_
      refine wp_block ?_
      refine wp_seq ?_
      refine wp_reg ?_
      refine st_move hf rfl rfl (by decide) ?_
      clear hf; intro a ha hf; clear ha
      refine st_assign hf rfl rfl (by decide) ?_
      clear hf; intro a ha hf; clear ha
      refine st_nil hf ?_
      refine th_n ?_
      refine wp_reg ?_
      refine st_move hf rfl rfl (by decide) ?_
      clear hf; intro a ha hf; clear ha
      refine st_move hf rfl rfl (by decide) ?_
      clear hf; intro a ha hf; clear ha
      refine st_fa (o' := 2) hf (by decide) (off := 2) (sz := 1) (by kernel_rfl) (by decide) rfl rfl (hp.ob (i := 1) rfl) rfl ?_
      clear hf; intro a ha hf; clear ha
      refine st_ldO (u := .func (.func 53) #[] #[optr v3 0, optr v5 0]) hf (by decide) pl69 rfl rfl (hp.ob (i := 1) rfl) rfl ?_
      clear hf; intro a ha hf; clear ha
      refine st_move hf rfl rfl (by decide) ?_
      clear hf; intro a ha hf; clear ha
      obtain ⟨q19, hcall20, h⟩ := bnd h
      obtain ⟨S21, hp22, rd23, up24, bk25⟩ := Hp.lendO hp (i := 2) rfl
      obtain ⟨S26, hp27, rd28, up29, bk30⟩ := Hp.lendO hp22 (i := 3) rfl
      obtain ⟨S31, hp32, rd33, up34, bk35⟩ := Hp.lendO hp27 (i := 2) rfl
      refine st_call hf (by decide) Try.func53 rfl rfl rfl rfl rfl (f_points_square_2_c hp32 _ _ _ ((((rd23.now hp22).mono up29).now hp27).mono up34) _ _ ((rd28.now hp27).mono up34) _ rd33 hcall20) ?_
      rintro _ w ⟨v36, v37, rfl, y38, y39, hp0⟩
      have hp0 := bk35 _ _ hp0
      have hp0 := bk30 _ _ hp0
      have hp0 := bk25 _ _ hp0
      clear hp; have hp := hp0; clear hp0
      replace hp : Hp _ _ _ (Res.obj 3 v3 [.int .i64 (2 : Int)] :: Res.obj 3 v4 [.int .i64 (1 : Int)] :: Res.obj 108 v5 [.func (.func 51) #[] #[optr v4 0]] :: Res.sl Ek.c128 39 v15 out6 :: Res.obj 71 v9 [.int .i64 (2 : Int), .int .i64 (1 : Int), .func (.func 53) #[] #[optr v3 0, optr v5 0]] :: ow) := hp
      refine ⟨_, rfl, ?_⟩
      clear hf; intro a hf
      obtain ⟨hc40, h⟩ := chk h
      refine st_index (E := Ek.c128) hf (by decide) Try.underlying32 elt39 rfl rfl rfl (hp.sl (i := 3) rfl) hc40.1 hc40.2 ?_
      clear hf; intro a ha hf; clear ha
      refine st_store (E := Ek.c128) hf elt39 hp (i := 3) rfl rfl rfl rfl (show Ek.c128.rep [.complex .f64 v36 v37] q19 from ⟨_, _, rfl, y38, y39⟩) hc40.1 hc40.2 ?_
      clear hf; intro a w hf hp0; clear hp; have hp := hp0; clear hp0
      replace hp : Hp _ _ _ (Res.obj 3 v3 [.int .i64 (2 : Int)] :: Res.obj 3 v4 [.int .i64 (1 : Int)] :: Res.obj 108 v5 [.func (.func 51) #[] #[optr v4 0]] :: Res.sl Ek.c128 39 v15 (out6.set (t19).toNat q19) :: Res.obj 71 v9 [.int .i64 (2 : Int), .int .i64 (1 : Int), .func (.func 53) #[] #[optr v3 0, optr v5 0]] :: ow) := hp
      refine st_nil hf ?_
      refine ib_n ?_
      refine th_n ?_
      refine wp_reg ?_
      refine st_iadd hf (by decide) rfl rfl rfl ?_
      clear hf; intro a ha hf; clear ha
      refine st_move hf rfl rfl (by decide) ?_
      clear hf; intro a ha hf; clear ha
      refine st_nil hf ?_
      obtain rfl := Option.some.inj h
      have hp : Hp _ _ _ (Res.sl Ek.c128 39 v15 (out6.set (t19).toNat q19) :: Res.obj 71 v9 [.int .i64 (2 : Int), .int .i64 (1 : Int), .func (.func 53) #[] #[optr v3 0, optr v5 0]] :: Res.obj 3 v3 [.int .i64 (2 : Int)] :: Res.obj 108 v5 [.func (.func 51) #[] #[optr v4 0]] :: Res.obj 3 v4 [.int .i64 (1 : Int)] :: ow) := Hp.sel (pre := [Res.obj 3 v3 [.int .i64 (2 : Int)], Res.obj 3 v4 [.int .i64 (1 : Int)], Res.obj 108 v5 [.func (.func 51) #[] #[optr v4 0]], Res.sl Ek.c128 39 v15 (out6.set (t19).toNat q19), Res.obj 71 v9 [.int .i64 (2 : Int), .int .i64 (1 : Int), .func (.func 53) #[] #[optr v3 0, optr v5 0]]]) (tail := ow) (rs' := [Res.sl Ek.c128 39 v15 (out6.set (t19).toNat q19), Res.obj 71 v9 [.int .i64 (2 : Int), .int .i64 (1 : Int), .func (.func 53) #[] #[optr v3 0, optr v5 0]], Res.obj 3 v3 [.int .i64 (2 : Int)], Res.obj 108 v5 [.func (.func 51) #[] #[optr v4 0]], Res.obj 3 v4 [.int .i64 (1 : Int)]]) hp [3, 4, 0, 2, 1] (by decide) (by simp) rfl
      exact rnd_l ⟨_, hf.sub ⟨rfl, rfl, rfl, rfl, trivial⟩, hp⟩
    replace h := ifF h hb
    refine wp_exit ?_
    refine th_e ?_
    obtain rfl := Option.some.inj h
    have hp : Hp _ _ _ (Res.sl Ek.c128 39 v15 out6 :: ow) := Hp.sel (pre := [Res.sl Ek.c128 39 v15 out6, Res.obj 71 v9 [.int .i64 (2 : Int), .int .i64 (1 : Int), .func (.func 53) #[] #[optr v3 0, optr v5 0]], Res.obj 3 v3 [.int .i64 (2 : Int)], Res.obj 108 v5 [.func (.func 51) #[] #[optr v4 0]], Res.obj 3 v4 [.int .i64 (1 : Int)]]) (tail := ow) (rs' := [Res.sl Ek.c128 39 v15 out6]) hp [0] (by decide) (by simp) rfl
    exact rnd_r (by simp) ⟨rfl, _, hf.sub ⟨rfl, trivial⟩, hp⟩
  clear hl hf hp
  intro e a w hne hO
  obtain ⟨rfl, v17, hf, hp⟩ := hO
  refine ib_same ?_
  refine th_n ?_
  refine wp_seq ?_
  refine wp_reg ?_
  refine st_move hf rfl rfl (by decide) ?_
  clear hf; intro a ha hf; clear ha
  refine st_assign hf rfl rfl (by decide) ?_
  clear hf; intro a ha hf; clear ha
  refine st_assign hf rfl rfl (by decide) ?_
  clear hf; intro a ha hf; clear ha
  refine st_nil hf ?_
  refine th_n ?_
  refine wp_ret ?_
  obtain rfl := Option.some.inj h
  exact ⟨rfl, ⟨_, hf.sub ⟨rfl, rfl, trivial⟩, hp⟩⟩

noncomputable def f_points_Label.s1c (zx1 : (Fl × Fl)) (q1 : ((List (Fl × Fl)) × Int)) (t20 : Int) : Option (Int ⊕ (Unit ⊕ (Int × Int))) := (if (decide (t20 < (q1.1.length : Int))) = true then (if 0 ≤ t20 ∧ t20 < (q1.1.length : Int) then (if (ceq (gt q1.1 t20) zx1) = true then (some (Sum.inr (Sum.inr (t20, (0 : Int))))) else (some (Sum.inl (IntKind.i64.wrap (t20 + (1 : Int)))))) else none) else (some (Sum.inr (Sum.inl ()))))
noncomputable def f_points_Label.s1 (zx1 : (Fl × Fl)) (q1 : ((List (Fl × Fl)) × Int)) (s : Int) : Option (Int ⊕ (Unit ⊕ (Int × Int))) := f_points_Label.s1c zx1 q1 s
noncomputable def f_points_Label (zx1 : (Fl × Fl)) : Option (Int × Int) := ((f_points_All).bind fun q1 => (if (q1.2 != (0 : Int)) = true then (some ((0 : Int), q1.2)) else ((loop (f_points_Label.s1 zx1 q1) (0 : Int)).bind (fun q10 => sm q10 (fun q11 => (some ((0 : Int), (6 : Int)))) (fun q12 => (some (q12.1, q12.2)))))))
theorem f_points_Label_c {S : Nat → Prop} {w0 w : World} {ow : List Res} (hp : Hp S w0 w ow) (bzx1 czx1 : Nat) (zx1 : Fl × Fl) (hzx1 : zx1.1.rep bzx1) (kzx1 : zx1.2.rep czx1) {r : (Int × Int)} (h : f_points_Label zx1 = some r) :
    Calls Try.prog 14 #[.int .i64 (4 : Int), .complex .f64 bzx1 czx1] w (fun e w' => e = .returned (.tuple #[.int .i64 r.1, .int .i64 r.2]) ∧ Hp S w0 w' (ow)) := by
  unfold f_points_Label at h
  refine enter (n := 30) (args := [.int .i64 (4 : Int), .complex .f64 bzx1 czx1]) Try.func14 rfl rfl (Nat.le_of_ble_eq_true rfl) fun a hf => ?_
  replace hf : Fr 30 a [(0, .int .i64 (4 : Int)), (1, .complex .f64 bzx1 czx1)] := hf
  refine wp_mono (Q := fun e a w => e = .ret ∧ Fr 30 a [(4, .int .i64 r.1), (5, .int .i64 r.2)] ∧ Hp S w0 w (ow)) ?_ ?_
  rotate_left
  · rintro e a w ⟨rfl, hf, hp⟩
    exact ret2 hf rfl rfl rfl ⟨rfl, hp⟩
  refine wp_seq ?_
  refine wp_reg ?_
  refine st_assign hf rfl rfl (by decide) ?_
  clear hf; intro a ha hf; clear ha
  refine st_assign hf rfl rfl (by decide) ?_
  clear hf; intro a ha hf; clear ha
  refine st_nil hf ?_
  refine th_n ?_
  refine wp_seq ?_
  refine wp_reg ?_
  refine st_move hf rfl rfl (by decide) ?_
  clear hf; intro a ha hf; clear ha
  obtain ⟨q1, hcall2, h⟩ := bnd h
  refine st_call hf (by decide) Try.func20 rfl rfl rfl rfl rfl (f_points_All_c hp  hcall2) ?_
  rintro _ w ⟨v3, rfl, hp0⟩
  clear hp; have hp := hp0; clear hp0
  replace hp : Hp _ _ _ (Res.sl Ek.c128 39 v3 q1.1 :: ow) := hp
  refine ⟨_, rfl, ?_⟩
  clear hf; intro a hf
  refine st_move hf rfl rfl (by decide) ?_
  clear hf; intro a ha hf; clear ha
  refine st_extract hf (by decide) rfl rfl rfl ?_
  clear hf; intro a ha hf; clear ha
  refine st_extract hf (by decide) rfl rfl rfl ?_
  clear hf; intro a ha hf; clear ha
  refine st_assign hf rfl rfl (by decide) ?_
  clear hf; intro a ha hf; clear ha
  refine st_assign hf rfl rfl (by decide) ?_
  clear hf; intro a ha hf; clear ha
  refine st_nil hf ?_
  refine th_n ?_
  refine wp_seq ?_
  refine wp_seq ?_
  refine wp_reg ?_
  refine st_move hf rfl rfl (by decide) ?_
  clear hf; intro a ha hf; clear ha
  refine st_ineq hf (by decide) rfl rfl rfl ?_
  clear hf; intro a ha hf; clear ha
  refine st_nil hf ?_
  refine th_n ?_
  refine wp_if hf rfl (fun hb => ?_) (fun hb => ?_)
  · replace h := ifT h hb
    refine wp_seq ?_
    refine wp_reg ?_
    refine st_move hf rfl rfl (by decide) ?_
    clear hf; intro a ha hf; clear ha
    refine st_assign hf rfl rfl (by decide) ?_
    clear hf; intro a ha hf; clear ha
    refine st_assign hf rfl rfl (by decide) ?_
    clear hf; intro a ha hf; clear ha
    refine st_nil hf ?_
    refine th_n ?_
    refine wp_ret ?_
    refine th_r ?_
    obtain rfl := Option.some.inj h
    have hp : Hp _ _ _ (ow) := Hp.sel (pre := [Res.sl Ek.c128 39 v3 q1.1]) (tail := ow) (rs' := []) hp [] (by decide) (by simp) rfl
    exact ⟨rfl, ⟨hf.sub ⟨rfl, rfl, trivial⟩, hp⟩⟩
  replace h := ifF h hb
  refine wp_skip ?_
  refine th_n ?_
  refine wp_seq ?_
  refine wp_seq ?_
  refine wp_reg ?_
  refine st_move hf rfl rfl (by decide) ?_
  clear hf; intro a ha hf; clear ha
  refine st_len (E := Ek.c128) hf (by decide) Try.underlying32 rfl rfl (hp.sl (i := 0) rfl) ?_
  clear hf; intro a ha hf; clear ha
  refine st_move hf rfl rfl (by decide) ?_
  clear hf; intro a ha hf; clear ha
  refine st_nil hf ?_
  refine th_n ?_
  refine wp_block ?_
  obtain ⟨q10, hl, h⟩ := bnd h
  refine wp_loop_pure (f := (f_points_Label.s1 zx1 q1)) (s := (0 : Int)) (fun s a w => Fr 30 a [(1, .complex .f64 bzx1 czx1), (18, v3), (19, .int .i64 (q1.1.length : Int)), (20, .int .i64 s)] ∧ Hp S w0 w (Res.sl Ek.c128 39 v3 q1.1 :: ow)) (fun q e a w => match q with | (Sum.inl q) => e = .exit 0 ∧ Fr 30 a [] ∧ Hp S w0 w (ow) | (Sum.inr q) => e = .ret ∧ Fr 30 a [(4, .int .i64 q.1), (5, .int .i64 q.2)] ∧ Hp S w0 w (ow)) ?_ hl ⟨hf.sub ⟨rfl, rfl, rfl, rfl, trivial⟩, hp⟩ ?_
  · clear hl hf hp
    intro s x a w h hI
    obtain ⟨t20, hs⟩ : ∃ z, z = s := ⟨s, rfl⟩; subst hs
    obtain ⟨hf, hp⟩ : Fr 30 a [(1, .complex .f64 bzx1 czx1), (18, v3), (19, .int .i64 (q1.1.length : Int)), (20, .int .i64 t20)] ∧ Hp S w0 w (Res.sl Ek.c128 39 v3 q1.1 :: ow) := hI
    replace h : f_points_Label.s1c zx1 q1 t20 = some x := h
    unfold f_points_Label.s1c at h
    refine wp_seq ?_
    refine wp_reg ?_
    refine st_ilss hf (by decide) rfl rfl rfl ?_
    clear hf; intro a ha hf; clear ha
    refine st_nil hf ?_
    refine th_n ?_
    refine wp_seq ?_
    refine wp_if hf rfl (fun hb => ?_) (fun hb => ?_)
    · replace h := ifT h hb
      refine wp_skip ?_
      refine th_n ?_
      refine wp_seq ?_
      refine wp_block ?_
      refine wp_seq ?_
      refine wp_reg ?_
      refine st_move hf rfl rfl (by decide) ?_
      clear hf; intro a ha hf; clear ha
      obtain ⟨hc5, h⟩ := chk h
      refine st_index (E := Ek.c128) hf (by decide) Try.underlying32 elt39 rfl rfl rfl (hp.sl (i := 0) rfl) hc5.1 hc5.2 ?_
      clear hf; intro a ha hf; clear ha
      refine st_ldC hf (by decide) pl39 rfl rfl (hp.sl (i := 0) rfl) hc5.1 hc5.2 ?_
      clear hf; intro a bb6 bb7 y8 y9 ha hf; clear ha
      refine st_assign hf rfl rfl (by decide) ?_
      clear hf; intro a ha hf; clear ha
      refine st_assign hf rfl rfl (by decide) ?_
      clear hf; intro a ha hf; clear ha
      refine st_nil hf ?_
      refine th_n ?_
      refine wp_seq ?_
      refine wp_reg ?_
      refine st_move hf rfl rfl (by decide) ?_
      clear hf; intro a ha hf; clear ha
      refine st_move hf rfl rfl (by decide) ?_
      clear hf; intro a ha hf; clear ha
      refine st_ccmp (r_ceq (x := (gt q1.1 t20)) (y := zx1) y8 y9 hzx1 kzx1) hf (by decide) rfl rfl rfl ?_
      clear hf; intro a ha hf; clear ha
      refine st_nil hf ?_
      refine th_n ?_
      refine wp_if hf rfl (fun hb => ?_) (fun hb => ?_)
      · replace h := ifT h hb
        refine wp_seq ?_
        refine wp_reg ?_
        refine st_move hf rfl rfl (by decide) ?_
        clear hf; intro a ha hf; clear ha
        refine st_assign hf rfl rfl (by decide) ?_
        clear hf; intro a ha hf; clear ha
        refine st_assign hf rfl rfl (by decide) ?_
        clear hf; intro a ha hf; clear ha
        refine st_nil hf ?_
        refine th_n ?_
        refine wp_ret ?_
        refine ib_r ?_
        refine th_r ?_
        obtain rfl := Option.some.inj h
        have hp : Hp _ _ _ (ow) := Hp.sel (pre := [Res.sl Ek.c128 39 v3 q1.1]) (tail := ow) (rs' := []) hp [] (by decide) (by simp) rfl
        exact rnd_r (by simp) ⟨rfl, ⟨hf.sub ⟨rfl, rfl, trivial⟩, hp⟩⟩
      replace h := ifF h hb
      refine wp_skip ?_
      refine ib_n ?_
      refine th_n ?_
      refine wp_reg ?_
      refine st_iadd hf (by decide) rfl rfl rfl ?_
      clear hf; intro a ha hf; clear ha
      refine st_move hf rfl rfl (by decide) ?_
      clear hf; intro a ha hf; clear ha
      refine st_nil hf ?_
      obtain rfl := Option.some.inj h
      exact rnd_l ⟨hf.sub ⟨rfl, rfl, rfl, rfl, trivial⟩, hp⟩
    replace h := ifF h hb
    refine wp_exit ?_
    refine th_e ?_
    obtain rfl := Option.some.inj h
    have hp : Hp _ _ _ (ow) := Hp.sel (pre := [Res.sl Ek.c128 39 v3 q1.1]) (tail := ow) (rs' := []) hp [] (by decide) (by simp) rfl
    exact rnd_r (by simp) ⟨rfl, hf.sub trivial, hp⟩
  clear hl hf hp
  intro e a w hne hO
  rcases q10 with q11 | q12
  · replace h := smL h
    obtain ⟨rfl, hf, hp⟩ := hO
    refine ib_same ?_
    refine th_n ?_
    refine wp_seq ?_
    refine wp_reg ?_
    refine st_assign hf rfl rfl (by decide) ?_
    clear hf; intro a ha hf; clear ha
    refine st_assign hf rfl rfl (by decide) ?_
    clear hf; intro a ha hf; clear ha
    refine st_nil hf ?_
    refine th_n ?_
    refine wp_ret ?_
    obtain rfl := Option.some.inj h
    exact ⟨rfl, ⟨hf.sub ⟨rfl, rfl, trivial⟩, hp⟩⟩
  replace h := smR h
  obtain ⟨rfl, hf, hp⟩ := hO
  refine ib_r ?_
  refine th_r ?_
  obtain rfl := Option.some.inj h
  exact ⟨rfl, ⟨hf.sub ⟨rfl, rfl, trivial⟩, hp⟩⟩

end Go.Proofs.Ytgdhjjdgghilhaa
