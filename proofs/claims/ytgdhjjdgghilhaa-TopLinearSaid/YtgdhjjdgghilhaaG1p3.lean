/- The functions foghorn foghorntop.TopLinear: what each answers, as a plain function, and that its call answers it; printed by gen.py. -/
import Derived.Test.YtgdhjjdgghilhaaProg
import Derived.Test.YtgdhjjdgghilhaaGlUf
import Derived.KernelRfl
import Derived.Test.YtgdhjjdgghilhaaG1p2
set_option linter.unusedVariables false
set_option linter.unusedSimpArgs false
set_option maxRecDepth 100000
set_option maxHeartbeats 4000000
namespace Go.Proofs.Ytgdhjjdgghilhaa
open GL
noncomputable def f_slice_axes (edge1 : Int) (zx2 : (Fl × Fl)) : Option (Int × (Fl × Fl) × Bool) := ((f_slice_Axis zx2.1 edge1).bind fun q3 => ((f_slice_Axis zx2.2 edge1).bind fun q5 => ((f_points_Label ((fofi q3.1), (fofi q5.1))).bind fun q7 => (some (q7.1, ((fofi q3.1), (fofi q5.1)), false)))))
theorem f_slice_axes_c {S : Nat → Prop} {w0 w : World} {ow : List Res} (hp : Hp S w0 w ow) (edge1 : Int) (bzx2 czx2 : Nat) (zx2 : Fl × Fl) (hzx2 : zx2.1.rep bzx2) (kzx2 : zx2.2.rep czx2) {r : (Int × (Fl × Fl) × Bool)} (h : f_slice_axes edge1 zx2 = some r) :
    Calls Try.prog 80 #[.int .i64 (4 : Int), .int .i64 edge1, .complex .f64 bzx2 czx2] w (fun e w' => ∃ (b0 : Nat) (b1 : Nat), e = .returned (.agg #[.int .i64 r.1, .complex .f64 b0 b1, .bool r.2.2]) ∧ Fl.rep b0 r.2.1.1 ∧ Fl.rep b1 r.2.1.2 ∧ Hp S w0 w' (ow)) := by
  unfold f_slice_axes at h
  refine enter (n := 42) (args := [.int .i64 (4 : Int), .int .i64 edge1, .complex .f64 bzx2 czx2]) Try.func80 rfl rfl (Nat.le_of_ble_eq_true rfl) fun a hf => ?_
  replace hf : Fr 42 a [(0, .int .i64 (4 : Int)), (1, .int .i64 edge1), (2, .complex .f64 bzx2 czx2)] := hf
  refine wp_mono (Q := fun e a w => e = .ret ∧ ∃ (b0 : Nat) (b1 : Nat) (c0 : Value), Fr 42 a [(6, optr c0 0)] ∧ Fl.rep b0 r.2.1.1 ∧ Fl.rep b1 r.2.1.2 ∧ Hp S w0 w (Res.obj 58 c0 [.int .i64 r.1, .complex .f64 b0 b1, .bool r.2.2] :: ow)) ?_ ?_
  rotate_left
  · rintro e a w ⟨rfl, x0, x1, c0, hf, y0, y1, hp⟩
    exact retG1 hf rfl ⟨_, _, rfl, hp.ob (i := 0) rfl, .inr ⟨by kernel_rfl, rfl⟩⟩ ⟨x0, x1, rfl, y0, y1, hp.drop⟩
  refine wp_seq ?_
  refine wp_reg ?_
  refine st_alloc (cs := [.int .i64 (0 : Int), .complex .f64 0 0, .bool false]) (zv := .agg #[.int .i64 (0 : Int), .complex .f64 0 0, .bool false]) hf (by decide) (by kernel_rfl) rfl hp rfl ?_
  clear hf; intro a w v1 hf hp0; clear hp; have hp := hp0; clear hp0
  replace hp : Hp _ _ _ (Res.obj 58 v1 [.int .i64 (0 : Int), .complex .f64 0 0, .bool false] :: ow) := hp
  refine st_nil hf ?_
  refine th_n ?_
  refine wp_seq ?_
  refine wp_reg ?_
  refine st_move hf rfl rfl (by decide) ?_
  clear hf; intro a ha hf; clear ha
  refine st_real hf (by decide) rfl rfl ?_
  clear hf; intro a ha hf; clear ha
  refine st_move hf rfl rfl (by decide) ?_
  clear hf; intro a ha hf; clear ha
  obtain ⟨q3, hcall4, h⟩ := bnd h
  refine st_call hf (by decide) Try.func83 rfl rfl rfl rfl rfl (f_slice_Axis_c hp _ _ (show Fl.rep bzx2 zx2.1 from hzx2) _ hcall4) ?_
  rintro _ w ⟨rfl, hp0⟩
  clear hp; have hp := hp0; clear hp0
  replace hp : Hp _ _ _ (Res.obj 58 v1 [.int .i64 (0 : Int), .complex .f64 0 0, .bool false] :: ow) := hp
  refine ⟨_, rfl, ?_⟩
  clear hf; intro a hf
  refine st_move hf rfl rfl (by decide) ?_
  clear hf; intro a ha hf; clear ha
  refine st_extract hf (by decide) rfl rfl rfl ?_
  clear hf; intro a ha hf; clear ha
  refine st_extract hf (by decide) rfl rfl rfl ?_
  clear hf; intro a ha hf; clear ha
  refine st_assign hf rfl rfl (by decide) ?_
  clear hf; intro a ha hf; clear ha
  refine st_assign hf rfl rfl (by decide) ?_
  clear hf; intro a ha hf; clear ha
  refine st_nil hf ?_
  refine th_n ?_
  refine wp_seq ?_
  refine wp_reg ?_
  refine st_move hf rfl rfl (by decide) ?_
  clear hf; intro a ha hf; clear ha
  refine st_imag hf (by decide) rfl rfl ?_
  clear hf; intro a ha hf; clear ha
  refine st_move hf rfl rfl (by decide) ?_
  clear hf; intro a ha hf; clear ha
  obtain ⟨q5, hcall6, h⟩ := bnd h
  refine st_call hf (by decide) Try.func83 rfl rfl rfl rfl rfl (f_slice_Axis_c hp _ _ (show Fl.rep czx2 zx2.2 from kzx2) _ hcall6) ?_
  rintro _ w ⟨rfl, hp0⟩
  clear hp; have hp := hp0; clear hp0
  replace hp : Hp _ _ _ (Res.obj 58 v1 [.int .i64 (0 : Int), .complex .f64 0 0, .bool false] :: ow) := hp
  refine ⟨_, rfl, ?_⟩
  clear hf; intro a hf
  refine st_move hf rfl rfl (by decide) ?_
  clear hf; intro a ha hf; clear ha
  refine st_extract hf (by decide) rfl rfl rfl ?_
  clear hf; intro a ha hf; clear ha
  refine st_extract hf (by decide) rfl rfl rfl ?_
  clear hf; intro a ha hf; clear ha
  refine st_assign hf rfl rfl (by decide) ?_
  clear hf; intro a ha hf; clear ha
  refine st_assign hf rfl rfl (by decide) ?_
  clear hf; intro a ha hf; clear ha
  refine st_nil hf ?_
  refine th_n ?_
  refine wp_seq ?_
  refine wp_reg ?_
  refine st_move hf rfl rfl (by decide) ?_
  clear hf; intro a ha hf; clear ha
  refine st_conv_if Try.underlying3 Try.underlying33 hf (by decide) rfl rfl ?_
  clear hf; intro a ha hf; clear ha
  refine st_move hf rfl rfl (by decide) ?_
  clear hf; intro a ha hf; clear ha
  refine st_conv_if Try.underlying3 Try.underlying33 hf (by decide) rfl rfl ?_
  clear hf; intro a ha hf; clear ha
  refine st_complex hf (by decide) rfl rfl rfl ?_
  clear hf; intro a ha hf; clear ha
  refine st_assign hf rfl rfl (by decide) ?_
  clear hf; intro a ha hf; clear ha
  refine st_nil hf ?_
  refine th_n ?_
  refine wp_seq ?_
  refine wp_reg ?_
  refine st_move hf rfl rfl (by decide) ?_
  clear hf; intro a ha hf; clear ha
  refine st_move hf rfl rfl (by decide) ?_
  clear hf; intro a ha hf; clear ha
  obtain ⟨q7, hcall8, h⟩ := bnd h
  refine st_call hf (by decide) Try.func14 rfl rfl rfl rfl rfl (f_points_Label_c hp _ _ _ (show Fl.rep (FloatKind.f64.nearest q3.1) (((fofi q3.1), (fofi q5.1))).1 from rfl) (show Fl.rep (FloatKind.f64.nearest q5.1) (((fofi q3.1), (fofi q5.1))).2 from rfl) hcall8) ?_
  rintro _ w ⟨rfl, hp0⟩
  clear hp; have hp := hp0; clear hp0
  replace hp : Hp _ _ _ (Res.obj 58 v1 [.int .i64 (0 : Int), .complex .f64 0 0, .bool false] :: ow) := hp
  refine ⟨_, rfl, ?_⟩
  clear hf; intro a hf
  refine st_move hf rfl rfl (by decide) ?_
  clear hf; intro a ha hf; clear ha
  refine st_extract hf (by decide) rfl rfl rfl ?_
  clear hf; intro a ha hf; clear ha
  refine st_extract hf (by decide) rfl rfl rfl ?_
  clear hf; intro a ha hf; clear ha
  refine st_assign hf rfl rfl (by decide) ?_
  clear hf; intro a ha hf; clear ha
  refine st_assign hf rfl rfl (by decide) ?_
  clear hf; intro a ha hf; clear ha
  refine st_nil hf ?_
  refine th_n ?_
  refine wp_seq ?_
  refine wp_reg ?_
  refine st_move hf rfl rfl (by decide) ?_
  clear hf; intro a ha hf; clear ha
  refine st_move hf rfl rfl (by decide) ?_
  clear hf; intro a ha hf; clear ha
  refine st_buildA (vals := [(0, .int .i64 q7.1), (1, .complex .f64 (FloatKind.f64.nearest q3.1) (FloatKind.f64.nearest q5.1))]) (cells := [.int .i64 q7.1, .complex .f64 (FloatKind.f64.nearest q3.1) (FloatKind.f64.nearest q5.1), .bool false]) hf (by decide) rfl (by simp [hf.ev (x := (Operand.tmp 39)) rfl, hf.ev (x := (Operand.tmp 40)) rfl]) (fun w => by kernel_rfl) ?_
  clear hf; intro a ha hf; clear ha
  refine st_stO (us := [.int .i64 q7.1, .complex .f64 (FloatKind.f64.nearest q3.1) (FloatKind.f64.nearest q5.1), .bool false]) hf hp (i := 0) rfl rfl rfl rfl rfl (by rfl) (by kernel_rfl) (Nat.le_of_ble_eq_true rfl) ?_
  clear hf; intro a w hf hp0; clear hp; have hp := hp0; clear hp0
  replace hp : Hp _ _ _ (Res.obj 58 v1 [.int .i64 q7.1, .complex .f64 (FloatKind.f64.nearest q3.1) (FloatKind.f64.nearest q5.1), .bool false] :: ow) := hp
  refine st_nil hf ?_
  refine th_n ?_
  refine wp_ret ?_
  obtain rfl := Option.some.inj h
  exact ⟨rfl, ⟨_, _, _, hf.sub ⟨rfl, trivial⟩, rfl, rfl, hp⟩⟩

noncomputable def f_slice_decide (edge1 : Int) (zx2 : (Fl × Fl)) : Option (Int × (Fl × Fl) × Bool) := ((f_slice_nan zx2).bind fun q3 => ((if q3 = true then (some true) else ((f_math_IsInf zx2.1 (0 : Int)).bind fun q8 => (some q8))).bind fun z7 => ((if z7 = true then (some true) else ((f_math_IsInf zx2.2 (0 : Int)).bind fun q13 => (some q13))).bind fun z12 => (if z12 = true then (some ((0 : Int), (Fl.bits 0, Fl.bits 0), true)) else ((f_slice_ways).bind fun q15 => ((f_slice_axes edge1 zx2).bind fun q19 => (some (q19.1, q19.2.1, q19.2.2))))))))
theorem f_slice_decide_c {S : Nat → Prop} {w0 w : World} {ow : List Res} (hp : Hp S w0 w ow) (edge1 : Int) (bzx2 czx2 : Nat) (zx2 : Fl × Fl) (hzx2 : zx2.1.rep bzx2) (kzx2 : zx2.2.rep czx2) {r : (Int × (Fl × Fl) × Bool)} (h : f_slice_decide edge1 zx2 = some r) :
    Calls Try.prog 65 #[.int .i64 (4 : Int), .int .i64 edge1, .complex .f64 bzx2 czx2] w (fun e w' => ∃ (b0 : Nat) (b1 : Nat), e = .returned (.agg #[.int .i64 r.1, .complex .f64 b0 b1, .bool r.2.2]) ∧ Fl.rep b0 r.2.1.1 ∧ Fl.rep b1 r.2.1.2 ∧ Hp S w0 w' (ow)) := by
  unfold f_slice_decide at h
  refine enter (n := 28) (args := [.int .i64 (4 : Int), .int .i64 edge1, .complex .f64 bzx2 czx2]) Try.func65 rfl rfl (Nat.le_of_ble_eq_true rfl) fun a hf => ?_
  replace hf : Fr 28 a [(0, .int .i64 (4 : Int)), (1, .int .i64 edge1), (2, .complex .f64 bzx2 czx2)] := hf
  refine wp_mono (Q := fun e a w => e = .ret ∧ ∃ (b0 : Nat) (b1 : Nat) (c0 : Value), Fr 28 a [(6, optr c0 0)] ∧ Fl.rep b0 r.2.1.1 ∧ Fl.rep b1 r.2.1.2 ∧ Hp S w0 w (Res.obj 58 c0 [.int .i64 r.1, .complex .f64 b0 b1, .bool r.2.2] :: ow)) ?_ ?_
  rotate_left
  · rintro e a w ⟨rfl, x0, x1, c0, hf, y0, y1, hp⟩
    exact retG1 hf rfl ⟨_, _, rfl, hp.ob (i := 0) rfl, .inr ⟨by kernel_rfl, rfl⟩⟩ ⟨x0, x1, rfl, y0, y1, hp.drop⟩
  refine wp_seq ?_
  refine wp_reg ?_
  refine st_alloc (cs := [.int .i64 (0 : Int), .complex .f64 0 0, .bool false]) (zv := .agg #[.int .i64 (0 : Int), .complex .f64 0 0, .bool false]) hf (by decide) (by kernel_rfl) rfl hp rfl ?_
  clear hf; intro a w v1 hf hp0; clear hp; have hp := hp0; clear hp0
  replace hp : Hp _ _ _ (Res.obj 58 v1 [.int .i64 (0 : Int), .complex .f64 0 0, .bool false] :: ow) := hp
  refine st_nil hf ?_
  refine th_n ?_
  refine wp_seq ?_
  refine wp_seq ?_
  refine wp_reg ?_
  refine st_move hf rfl rfl (by decide) ?_
  clear hf; intro a ha hf; clear ha
  obtain ⟨q3, hcall4, h⟩ := bnd h
  refine st_call hf (by decide) Try.func72 rfl rfl rfl rfl rfl (f_slice_nan_c hp _ _ _ (show Fl.rep bzx2 (zx2).1 from hzx2) (show Fl.rep czx2 (zx2).2 from kzx2) hcall4) ?_
  rintro _ w ⟨rfl, hp0⟩
  clear hp; have hp := hp0; clear hp0
  replace hp : Hp _ _ _ (Res.obj 58 v1 [.int .i64 (0 : Int), .complex .f64 0 0, .bool false] :: ow) := hp
  refine ⟨_, rfl, ?_⟩
  clear hf; intro a hf
  refine st_move hf rfl rfl (by decide) ?_
  clear hf; intro a ha hf; clear ha
  obtain ⟨z7, hz5, h⟩ := bnd h
  refine wpList_cut 4 (fun a w => Fr 28 a [(0, .int .i64 (4 : Int)), (1, .int .i64 edge1), (2, .complex .f64 bzx2 czx2), (6, optr v1 0), (13, .bool z7)] ∧ Hp S w0 w (Res.obj 58 v1 [.int .i64 (0 : Int), .complex .f64 0 0, .bool false] :: ow)) ?_ ?_
  · rcases Bool.eq_false_or_eq_true q3 with hb6 | hb6
    · skip
      replace hz5 := ifT hz5 hb6
      refine st_skip hf (wantN hf rfl rfl hb6) rfl (by decide) ?_ rfl
      clear hf; intro a hf
      refine st_skip hf (wantN hf rfl rfl hb6) rfl (by decide) ?_ rfl
      clear hf; intro a hf
      refine st_skip hf (wantN hf rfl rfl hb6) rfl (by decide) ?_ rfl
      clear hf; intro a hf
      obtain rfl := Option.some.inj hz5
      refine st_pick (v := .bool true) hf rfl rfl (fun hb' => ?_) (fun hb' => ?_) (by decide) ?_
      · rfl
      · exact absurd (hb6.symm.trans hb') (by decide)
      clear hf; intro a ha hf; clear ha
      refine st_nil hf (th_n ?_)
      exact ⟨hf.sub ⟨rfl, rfl, rfl, rfl, rfl, trivial⟩, hp⟩
    replace hz5 := ifF hz5 hb6
    refine st_move hf (wantY hf rfl rfl hb6) rfl (by decide) ?_
    clear hf; intro a ha hf; clear ha
    refine st_real hf (by decide) (wantY hf rfl rfl hb6) rfl ?_
    clear hf; intro a ha hf; clear ha
    obtain ⟨q8, hcall9, hz5⟩ := bnd hz5
    refine st_call hf (by decide) Try.func73 rfl rfl (wantY hf rfl rfl hb6) rfl rfl (f_math_IsInf_c hp _ _ (show Fl.rep bzx2 zx2.1 from hzx2) _ hcall9) ?_
    rintro _ w ⟨rfl, hp0⟩
    clear hp; have hp := hp0; clear hp0
    replace hp : Hp _ _ _ (Res.obj 58 v1 [.int .i64 (0 : Int), .complex .f64 0 0, .bool false] :: ow) := hp
    refine ⟨_, rfl, ?_⟩
    clear hf; intro a hf
    obtain rfl := Option.some.inj hz5
    refine st_pick (v := .bool q8) hf rfl rfl (fun hb' => ?_) (fun hb' => ?_) (by decide) ?_
    · exact absurd (hb6.symm.trans hb') (by decide)
    · rfl
    clear hf; intro a ha hf; clear ha
    refine st_nil hf (th_n ?_)
    exact ⟨hf.sub ⟨rfl, rfl, rfl, rfl, rfl, trivial⟩, hp⟩
  rintro a w ⟨hf, hp⟩
  refine st_move hf rfl rfl (by decide) ?_
  clear hf; intro a ha hf; clear ha
  obtain ⟨z12, hz10, h⟩ := bnd h
  refine wpList_cut 4 (fun a w => Fr 28 a [(0, .int .i64 (4 : Int)), (1, .int .i64 edge1), (2, .complex .f64 bzx2 czx2), (6, optr v1 0), (18, .bool z12)] ∧ Hp S w0 w (Res.obj 58 v1 [.int .i64 (0 : Int), .complex .f64 0 0, .bool false] :: ow)) ?_ ?_
  · rcases Bool.eq_false_or_eq_true z7 with hb11 | hb11
    · skip
      replace hz10 := ifT hz10 hb11
      refine st_skip hf (wantN hf rfl rfl hb11) rfl (by decide) ?_ rfl
      clear hf; intro a hf
      refine st_skip hf (wantN hf rfl rfl hb11) rfl (by decide) ?_ rfl
      clear hf; intro a hf
      refine st_skip hf (wantN hf rfl rfl hb11) rfl (by decide) ?_ rfl
      clear hf; intro a hf
      obtain rfl := Option.some.inj hz10
      refine st_pick (v := .bool true) hf rfl rfl (fun hb' => ?_) (fun hb' => ?_) (by decide) ?_
      · rfl
      · exact absurd (hb11.symm.trans hb') (by decide)
      clear hf; intro a ha hf; clear ha
      refine st_nil hf (th_n ?_)
      exact ⟨hf.sub ⟨rfl, rfl, rfl, rfl, rfl, trivial⟩, hp⟩
    replace hz10 := ifF hz10 hb11
    refine st_move hf (wantY hf rfl rfl hb11) rfl (by decide) ?_
    clear hf; intro a ha hf; clear ha
    refine st_imag hf (by decide) (wantY hf rfl rfl hb11) rfl ?_
    clear hf; intro a ha hf; clear ha
    obtain ⟨q13, hcall14, hz10⟩ := bnd hz10
    refine st_call hf (by decide) Try.func73 rfl rfl (wantY hf rfl rfl hb11) rfl rfl (f_math_IsInf_c hp _ _ (show Fl.rep czx2 zx2.2 from kzx2) _ hcall14) ?_
    rintro _ w ⟨rfl, hp0⟩
    clear hp; have hp := hp0; clear hp0
    replace hp : Hp _ _ _ (Res.obj 58 v1 [.int .i64 (0 : Int), .complex .f64 0 0, .bool false] :: ow) := hp
    refine ⟨_, rfl, ?_⟩
    clear hf; intro a hf
    obtain rfl := Option.some.inj hz10
    refine st_pick (v := .bool q13) hf rfl rfl (fun hb' => ?_) (fun hb' => ?_) (by decide) ?_
    · exact absurd (hb11.symm.trans hb') (by decide)
    · rfl
    clear hf; intro a ha hf; clear ha
    refine st_nil hf (th_n ?_)
    exact ⟨hf.sub ⟨rfl, rfl, rfl, rfl, rfl, trivial⟩, hp⟩
  rintro a w ⟨hf, hp⟩
  refine st_nil hf ?_
  refine th_n ?_
  refine wp_if hf rfl (fun hb => ?_) (fun hb => ?_)
  · replace h := ifT h hb
    refine wp_seq ?_
    refine wp_reg ?_
    refine st_buildA (vals := [(2, .bool true)]) (cells := [.int .i64 (0 : Int), .complex .f64 0 0, .bool true]) hf (by decide) rfl (by simp [hf.ev (x := (Operand.const (.bool true))) rfl]) (fun w => by kernel_rfl) ?_
    clear hf; intro a ha hf; clear ha
    refine st_stO (us := [.int .i64 (0 : Int), .complex .f64 0 0, .bool true]) hf hp (i := 0) rfl rfl rfl rfl rfl (by rfl) (by kernel_rfl) (Nat.le_of_ble_eq_true rfl) ?_
    clear hf; intro a w hf hp0; clear hp; have hp := hp0; clear hp0
    replace hp : Hp _ _ _ (Res.obj 58 v1 [.int .i64 (0 : Int), .complex .f64 0 0, .bool true] :: ow) := hp
    refine st_nil hf ?_
    refine th_n ?_
    refine wp_ret ?_
    refine th_r ?_
    obtain rfl := Option.some.inj h
    exact ⟨rfl, ⟨_, _, _, hf.sub ⟨rfl, trivial⟩, rfl, rfl, hp⟩⟩
  replace h := ifF h hb
  refine wp_skip ?_
  refine th_n ?_
  refine wp_seq ?_
  refine wp_reg ?_
  obtain ⟨q15, hcall16, h⟩ := bnd h
  refine st_call hf (by decide) Try.func74 rfl rfl rfl rfl rfl (f_slice_ways_c hp  hcall16) ?_
  rintro _ w ⟨v17, rfl, hp0⟩
  clear hp; have hp := hp0; clear hp0
  replace hp : Hp _ _ _ (Res.map kid v17 [((4 : Int), .agg #[.func (.func 80) #[] #[]]), ((16 : Int), .agg #[.func (.func 80) #[] #[]]), ((32 : Int), .agg #[.func (.func 81) #[] #[]]), ((64 : Int), .agg #[.func (.func 80) #[] #[]]), ((128 : Int), .agg #[.func (.func 81) #[] #[]]), ((256 : Int), .agg #[.func (.func 80) #[] #[]])] :: Res.obj 58 v1 [.int .i64 (0 : Int), .complex .f64 0 0, .bool false] :: ow) := hp
  refine ⟨_, rfl, ?_⟩
  clear hf; intro a hf
  refine st_move hf rfl rfl (by decide) ?_
  clear hf; intro a ha hf; clear ha
  refine st_lookup (enc := kid) (z0 := (.agg #[.nilFunc])) (ok := false) hf (by decide) Try.underlying125 Try.underlying3 (by kernel_rfl) hp (i := 0) rfl rfl rfl rfl ?_
  clear hf; intro a ha hf; clear ha
  replace hf : Fr _ _ ((22, .agg #[.func (.func 80) #[] #[]]) :: _) := hf
  refine st_fieldE hf (by decide) (off := 0) (e := 120) (by kernel_rfl) pl120 rfl rfl rfl ?_
  clear hf; intro a ha hf; clear ha
  refine st_move hf rfl rfl (by decide) ?_
  clear hf; intro a ha hf; clear ha
  refine st_move hf rfl rfl (by decide) ?_
  clear hf; intro a ha hf; clear ha
  refine st_move hf rfl rfl (by decide) ?_
  clear hf; intro a ha hf; clear ha
  obtain ⟨q19, hcall20, h⟩ := bnd h
  refine st_call hf (by decide) Try.func80 rfl rfl rfl rfl rfl (f_slice_axes_c hp _ _ _ _ (show Fl.rep bzx2 (zx2).1 from hzx2) (show Fl.rep czx2 (zx2).2 from kzx2) hcall20) ?_
  rintro _ w ⟨v21, v22, rfl, y23, y24, hp0⟩
  clear hp; have hp := hp0; clear hp0
  replace hp : Hp _ _ _ (Res.map kid v17 [((4 : Int), .agg #[.func (.func 80) #[] #[]]), ((16 : Int), .agg #[.func (.func 80) #[] #[]]), ((32 : Int), .agg #[.func (.func 81) #[] #[]]), ((64 : Int), .agg #[.func (.func 80) #[] #[]]), ((128 : Int), .agg #[.func (.func 81) #[] #[]]), ((256 : Int), .agg #[.func (.func 80) #[] #[]])] :: Res.obj 58 v1 [.int .i64 (0 : Int), .complex .f64 0 0, .bool false] :: ow) := hp
  refine ⟨_, rfl, ?_⟩
  clear hf; intro a hf
  refine st_stO (us := [.int .i64 q19.1, .complex .f64 v21 v22, .bool q19.2.2]) hf hp (i := 1) rfl rfl rfl rfl rfl (by rfl) (by kernel_rfl) (Nat.le_of_ble_eq_true rfl) ?_
  clear hf; intro a w hf hp0; clear hp; have hp := hp0; clear hp0
  replace hp : Hp _ _ _ (Res.map kid v17 [((4 : Int), .agg #[.func (.func 80) #[] #[]]), ((16 : Int), .agg #[.func (.func 80) #[] #[]]), ((32 : Int), .agg #[.func (.func 81) #[] #[]]), ((64 : Int), .agg #[.func (.func 80) #[] #[]]), ((128 : Int), .agg #[.func (.func 81) #[] #[]]), ((256 : Int), .agg #[.func (.func 80) #[] #[]])] :: Res.obj 58 v1 [.int .i64 q19.1, .complex .f64 v21 v22, .bool q19.2.2] :: ow) := hp
  refine st_nil hf ?_
  refine th_n ?_
  refine wp_ret ?_
  obtain rfl := Option.some.inj h
  have hp : Hp _ _ _ (Res.obj 58 v1 [.int .i64 q19.1, .complex .f64 v21 v22, .bool q19.2.2] :: ow) := Hp.sel (pre := [Res.map kid v17 [((4 : Int), .agg #[.func (.func 80) #[] #[]]), ((16 : Int), .agg #[.func (.func 80) #[] #[]]), ((32 : Int), .agg #[.func (.func 81) #[] #[]]), ((64 : Int), .agg #[.func (.func 80) #[] #[]]), ((128 : Int), .agg #[.func (.func 81) #[] #[]]), ((256 : Int), .agg #[.func (.func 80) #[] #[]])], Res.obj 58 v1 [.int .i64 q19.1, .complex .f64 v21 v22, .bool q19.2.2]]) (tail := ow) (rs' := [Res.obj 58 v1 [.int .i64 q19.1, .complex .f64 v21 v22, .bool q19.2.2]]) hp [1] (by decide) (by simp) rfl
  exact ⟨rfl, ⟨_, _, _, hf.sub ⟨rfl, trivial⟩, y23, y24, hp⟩⟩

noncomputable def f_slice_Decide (zx1 : (Fl × Fl)) : Option ((Int × (Fl × Fl) × Bool) × Int) := ((f_points_Edge).bind fun q3 => (if (q3.2 != (0 : Int)) = true then (some (((0 : Int), (Fl.bits 0, Fl.bits 0), false), (1 : Int))) else ((f_slice_decide q3.1 zx1).bind fun q5 => (some ((q5.1, q5.2.1, q5.2.2), (0 : Int))))))
theorem f_slice_Decide_c {S : Nat → Prop} {w0 w : World} {ow : List Res} (hp : Hp S w0 w ow) (bzx1 czx1 : Nat) (zx1 : Fl × Fl) (hzx1 : zx1.1.rep bzx1) (kzx1 : zx1.2.rep czx1) {r : ((Int × (Fl × Fl) × Bool) × Int)} (h : f_slice_Decide zx1 = some r) :
    Calls Try.prog 50 #[.int .i64 (4 : Int), .complex .f64 bzx1 czx1] w (fun e w' => ∃ (b0 : Nat) (b1 : Nat), e = .returned (.tuple #[.agg #[.int .i64 r.1.1, .complex .f64 b0 b1, .bool r.1.2.2], .int .i64 r.2]) ∧ Fl.rep b0 r.1.2.1.1 ∧ Fl.rep b1 r.1.2.1.2 ∧ Hp S w0 w' (ow)) := by
  unfold f_slice_Decide at h
  refine enter (n := 20) (args := [.int .i64 (4 : Int), .complex .f64 bzx1 czx1]) Try.func50 rfl rfl (Nat.le_of_ble_eq_true rfl) fun a hf => ?_
  replace hf : Fr 20 a [(0, .int .i64 (4 : Int)), (1, .complex .f64 bzx1 czx1)] := hf
  refine wp_mono (Q := fun e a w => e = .ret ∧ ∃ (b0 : Nat) (b1 : Nat) (c0 : Value), Fr 20 a [(4, optr c0 0), (5, .int .i64 r.2)] ∧ Fl.rep b0 r.1.2.1.1 ∧ Fl.rep b1 r.1.2.1.2 ∧ Hp S w0 w (Res.obj 58 c0 [.int .i64 r.1.1, .complex .f64 b0 b1, .bool r.1.2.2] :: ow)) ?_ ?_
  rotate_left
  · rintro e a w ⟨rfl, x0, x1, c0, hf, y0, y1, hp⟩
    exact retG2 hf rfl ⟨_, _, rfl, hp.ob (i := 0) rfl, .inr ⟨by kernel_rfl, rfl⟩⟩ rfl ⟨x0, x1, rfl, y0, y1, hp.drop⟩
  refine wp_seq ?_
  refine wp_reg ?_
  refine st_alloc (cs := [.int .i64 (0 : Int), .complex .f64 0 0, .bool false]) (zv := .agg #[.int .i64 (0 : Int), .complex .f64 0 0, .bool false]) hf (by decide) (by kernel_rfl) rfl hp rfl ?_
  clear hf; intro a w v1 hf hp0; clear hp; have hp := hp0; clear hp0
  replace hp : Hp _ _ _ (Res.obj 58 v1 [.int .i64 (0 : Int), .complex .f64 0 0, .bool false] :: ow) := hp
  refine st_assign hf rfl rfl (by decide) ?_
  clear hf; intro a ha hf; clear ha
  refine st_nil hf ?_
  refine th_n ?_
  refine wp_seq ?_
  refine wp_reg ?_
  refine st_move hf rfl rfl (by decide) ?_
  clear hf; intro a ha hf; clear ha
  obtain ⟨q3, hcall4, h⟩ := bnd h
  refine st_call hf (by decide) Try.func44 rfl rfl rfl rfl rfl (f_points_Edge_c hp  hcall4) ?_
  rintro _ w ⟨rfl, hp0⟩
  clear hp; have hp := hp0; clear hp0
  replace hp : Hp _ _ _ (Res.obj 58 v1 [.int .i64 (0 : Int), .complex .f64 0 0, .bool false] :: ow) := hp
  refine ⟨_, rfl, ?_⟩
  clear hf; intro a hf
  refine st_move hf rfl rfl (by decide) ?_
  clear hf; intro a ha hf; clear ha
  refine st_extract hf (by decide) rfl rfl rfl ?_
  clear hf; intro a ha hf; clear ha
  refine st_extract hf (by decide) rfl rfl rfl ?_
  clear hf; intro a ha hf; clear ha
  refine st_assign hf rfl rfl (by decide) ?_
  clear hf; intro a ha hf; clear ha
  refine st_assign hf rfl rfl (by decide) ?_
  clear hf; intro a ha hf; clear ha
  refine st_nil hf ?_
  refine th_n ?_
  refine wp_seq ?_
  refine wp_seq ?_
  refine wp_reg ?_
  refine st_move hf rfl rfl (by decide) ?_
  clear hf; intro a ha hf; clear ha
  refine st_ineq hf (by decide) rfl rfl rfl ?_
  clear hf; intro a ha hf; clear ha
  refine st_nil hf ?_
  refine th_n ?_
  refine wp_if hf rfl (fun hb => ?_) (fun hb => ?_)
  · replace h := ifT h hb
    refine wp_seq ?_
    refine wp_reg ?_
    refine st_buildA (vals := []) (cells := [.int .i64 (0 : Int), .complex .f64 0 0, .bool false]) hf (by decide) rfl (by simp []) (fun w => by kernel_rfl) ?_
    clear hf; intro a ha hf; clear ha
    refine st_stO (us := [.int .i64 (0 : Int), .complex .f64 0 0, .bool false]) hf hp (i := 0) rfl rfl rfl rfl rfl (by rfl) (by kernel_rfl) (Nat.le_of_ble_eq_true rfl) ?_
    clear hf; intro a w hf hp0; clear hp; have hp := hp0; clear hp0
    replace hp : Hp _ _ _ (Res.obj 58 v1 [.int .i64 (0 : Int), .complex .f64 0 0, .bool false] :: ow) := hp
    refine st_assign hf rfl rfl (by decide) ?_
    clear hf; intro a ha hf; clear ha
    refine st_nil hf ?_
    refine th_n ?_
    refine wp_ret ?_
    refine th_r ?_
    obtain rfl := Option.some.inj h
    exact ⟨rfl, ⟨_, _, _, hf.sub ⟨rfl, rfl, trivial⟩, rfl, rfl, hp⟩⟩
  replace h := ifF h hb
  refine wp_skip ?_
  refine th_n ?_
  refine wp_seq ?_
  refine wp_reg ?_
  refine st_move hf rfl rfl (by decide) ?_
  clear hf; intro a ha hf; clear ha
  refine st_move hf rfl rfl (by decide) ?_
  clear hf; intro a ha hf; clear ha
  refine st_move hf rfl rfl (by decide) ?_
  clear hf; intro a ha hf; clear ha
  obtain ⟨q5, hcall6, h⟩ := bnd h
  refine st_call hf (by decide) Try.func65 rfl rfl rfl rfl rfl (f_slice_decide_c hp _ _ _ _ (show Fl.rep bzx1 (zx1).1 from hzx1) (show Fl.rep czx1 (zx1).2 from kzx1) hcall6) ?_
  rintro _ w ⟨v7, v8, rfl, y9, y10, hp0⟩
  clear hp; have hp := hp0; clear hp0
  replace hp : Hp _ _ _ (Res.obj 58 v1 [.int .i64 (0 : Int), .complex .f64 0 0, .bool false] :: ow) := hp
  refine ⟨_, rfl, ?_⟩
  clear hf; intro a hf
  refine st_stO (us := [.int .i64 q5.1, .complex .f64 v7 v8, .bool q5.2.2]) hf hp (i := 0) rfl rfl rfl rfl rfl (by rfl) (by kernel_rfl) (Nat.le_of_ble_eq_true rfl) ?_
  clear hf; intro a w hf hp0; clear hp; have hp := hp0; clear hp0
  replace hp : Hp _ _ _ (Res.obj 58 v1 [.int .i64 q5.1, .complex .f64 v7 v8, .bool q5.2.2] :: ow) := hp
  refine st_assign hf rfl rfl (by decide) ?_
  clear hf; intro a ha hf; clear ha
  refine st_nil hf ?_
  refine th_n ?_
  refine wp_ret ?_
  obtain rfl := Option.some.inj h
  exact ⟨rfl, ⟨_, _, _, hf.sub ⟨rfl, rfl, trivial⟩, y9, y10, hp⟩⟩

noncomputable def f_feedback_Loop_Step.s1c (l0 : (List (Int × (List (Fl × Fl)) × (List (Fl × Fl)) × Int × Int × Fl × Int × Bool × Bool × (Fl × Fl)))) (il0 : Int) (re8 : Fl) (im9 : Fl) (k10 : Int) : Option ((Fl × Fl × Int) ⊕ (Fl × Fl)) := (if (decide (k10 < (gt l0 il0).2.2.2.1)) = true then (if 0 ≤ k10 ∧ k10 < (64 : Int) then (if 0 ≤ (((IntKind.i64.wrap ((IntKind.i64.wrap ((gt l0 il0).2.2.2.2.1 - k10)) + (64 : Int)))).tmod (64 : Int)) ∧ (((IntKind.i64.wrap ((IntKind.i64.wrap ((gt l0 il0).2.2.2.2.1 - k10)) + (64 : Int)))).tmod (64 : Int)) < (64 : Int) then ((f_feedback_times (gt ((gt l0 il0).2.1) k10) (gt ((gt l0 il0).2.2.1) (((IntKind.i64.wrap ((IntKind.i64.wrap ((gt l0 il0).2.2.2.2.1 - k10)) + (64 : Int)))).tmod (64 : Int)))).bind fun q52 => (some (Sum.inl ((fsub re8 q52.1), (fsub im9 q52.2), (IntKind.i64.wrap (k10 + (1 : Int))))))) else none) else none) else (some (Sum.inr (re8, im9))))
noncomputable def f_feedback_Loop_Step.s1 (l0 : (List (Int × (List (Fl × Fl)) × (List (Fl × Fl)) × Int × Int × Fl × Int × Bool × Bool × (Fl × Fl)))) (il0 : Int) (s : (Fl × Fl × Int)) : Option ((Fl × Fl × Int) ⊕ (Fl × Fl)) := f_feedback_Loop_Step.s1c l0 il0 s.1 s.2.1 s.2.2
noncomputable def f_feedback_Loop_Step (l0 : (List (Int × (List (Fl × Fl)) × (List (Fl × Fl)) × Int × Int × Fl × Int × Bool × Bool × (Fl × Fl)))) (il0 : Int) (sx1_V : (Fl × Fl)) (sx1_Lost : Bool) : Option ((Int × (Fl × Fl) × Bool) × Int × (List (Int × (List (Fl × Fl)) × (List (Fl × Fl)) × Int × Int × Fl × Int × Bool × Bool × (Fl × Fl)))) := ((f_grid_Check ([(sx1_V, sx1_Lost)])).bind fun q8 => (if (q8.2 != (0 : Int)) = true then (some (((0 : Int), (Fl.bits 0, Fl.bits 0), false), q8.2, l0)) else (if (((gt l0 il0).2.2.2.2.2.2.2.2.1) || sx1_Lost) = true then ((some (l0.set (il0).toNat ((gt l0 il0).1, (gt l0 il0).2.1, (gt l0 il0).2.2.1, (gt l0 il0).2.2.2.1, (gt l0 il0).2.2.2.2.1, (gt l0 il0).2.2.2.2.2.1, (gt l0 il0).2.2.2.2.2.2.1, (gt l0 il0).2.2.2.2.2.2.2.1, true, (gt l0 il0).2.2.2.2.2.2.2.2.2))).bind fun q17 => (some (((0 : Int), (Fl.bits 0, Fl.bits 0), true), (0 : Int), q17))) else ((loop (f_feedback_Loop_Step.s1 l0 il0) (sx1_V.1, sx1_V.2, (1 : Int))).bind (fun q62 => ((f_feedback_turned (q62.1, q62.2) ((gt l0 il0).2.2.2.2.2.2.1)).bind fun q63 => ((farithS .quo q63.1 ((gt l0 il0).2.2.2.2.2.1)).bind fun q80 => ((farithS .quo q63.2 ((gt l0 il0).2.2.2.2.2.1)).bind fun q87 => ((some (l0.set (il0).toNat ((gt l0 il0).1, (gt l0 il0).2.1, (gt l0 il0).2.2.1, (gt l0 il0).2.2.2.1, (gt l0 il0).2.2.2.2.1, (gt l0 il0).2.2.2.2.2.1, (gt l0 il0).2.2.2.2.2.2.1, (gt l0 il0).2.2.2.2.2.2.2.1, (gt l0 il0).2.2.2.2.2.2.2.2.1, (q80, q87)))).bind fun q89 => ((some (q89.set (il0).toNat ((gt q89 il0).1, (gt q89 il0).2.1, (gt q89 il0).2.2.1, (gt q89 il0).2.2.2.1, (gt q89 il0).2.2.2.2.1, (gt q89 il0).2.2.2.2.2.1, (gt q89 il0).2.2.2.2.2.2.1, true, (gt q89 il0).2.2.2.2.2.2.2.2.1, (gt q89 il0).2.2.2.2.2.2.2.2.2))).bind fun q92 => (if (gt q92 il0).1 = (4 : Int) then ((f_slice_Decide ((gt q92 il0).2.2.2.2.2.2.2.2.2)).bind fun q107 => (if 0 ≤ (gt q92 il0).2.2.2.2.1 ∧ (gt q92 il0).2.2.2.2.1 < (64 : Int) then ((some (q92.set (il0).toNat ((gt q92 il0).1, (gt q92 il0).2.1, (((gt q92 il0).2.2.1).set ((gt q92 il0).2.2.2.2.1).toNat q107.1.2.1), (gt q92 il0).2.2.2.1, (gt q92 il0).2.2.2.2.1, (gt q92 il0).2.2.2.2.2.1, (gt q92 il0).2.2.2.2.2.2.1, (gt q92 il0).2.2.2.2.2.2.2.1, (gt q92 il0).2.2.2.2.2.2.2.2.1, (gt q92 il0).2.2.2.2.2.2.2.2.2))).bind fun q128 => ((some (q128.set (il0).toNat ((gt q128 il0).1, (gt q128 il0).2.1, (gt q128 il0).2.2.1, (gt q128 il0).2.2.2.1, (((IntKind.i64.wrap ((gt q128 il0).2.2.2.2.1 + (1 : Int)))).tmod (64 : Int)), (gt q128 il0).2.2.2.2.2.1, (gt q128 il0).2.2.2.2.2.2.1, (gt q128 il0).2.2.2.2.2.2.2.1, (gt q128 il0).2.2.2.2.2.2.2.2.1, (gt q128 il0).2.2.2.2.2.2.2.2.2))).bind fun q131 => (some ((q107.1.1, q107.1.2.1, q107.1.2.2), q107.2, q131)))) else none)) else none)))))))))))
theorem f_feedback_Loop_Step_c {S : Nat → Prop} {w0 w : World} {ow : List Res} (vl0 : Value) (tbl0 : Nat) (l0 : List (Int × (List (Fl × Fl)) × (List (Fl × Fl)) × Int × Int × Fl × Int × Bool × Bool × (Fl × Fl))) (il0 : Int) (kl0 : 0 ≤ il0 ∧ il0 < (l0.length : Int)) (bsx1_V csx1_V : Nat) (sx1_V : Fl × Fl) (hsx1_V : sx1_V.1.rep bsx1_V) (ksx1_V : sx1_V.2.rep csx1_V) (sx1_Lost : Bool) (hp : Hp S w0 w (Res.sl (Ek.pair (Ek.int .i64) (Ek.pair (Ek.arr 64 Ek.c128) (Ek.pair (Ek.arr 64 Ek.c128) (Ek.pair (Ek.int .i64) (Ek.pair (Ek.int .i64) (Ek.pair Ek.f64 (Ek.pair (Ek.int .i64) (Ek.pair Ek.bool (Ek.pair Ek.bool Ek.c128))))))))) tbl0 vl0 l0 :: ow)) {r : ((Int × (Fl × Fl) × Bool) × Int × (List (Int × (List (Fl × Fl)) × (List (Fl × Fl)) × Int × Int × Fl × Int × Bool × Bool × (Fl × Fl))))} (h : f_feedback_Loop_Step l0 il0 sx1_V sx1_Lost = some r) :
    Calls Try.prog 33 #[eptr vl0 il0 136, .agg #[.complex .f64 bsx1_V csx1_V, .bool sx1_Lost]] w (fun e w' => ∃ (b0 : Nat) (b1 : Nat), e = .returned (.tuple #[.agg #[.int .i64 r.1.1, .complex .f64 b0 b1, .bool r.1.2.2], .int .i64 r.2.1]) ∧ Fl.rep b0 r.1.2.1.1 ∧ Fl.rep b1 r.1.2.1.2 ∧ Hp S w0 w' (Res.sl (Ek.pair (Ek.int .i64) (Ek.pair (Ek.arr 64 Ek.c128) (Ek.pair (Ek.arr 64 Ek.c128) (Ek.pair (Ek.int .i64) (Ek.pair (Ek.int .i64) (Ek.pair Ek.f64 (Ek.pair (Ek.int .i64) (Ek.pair Ek.bool (Ek.pair Ek.bool Ek.c128))))))))) tbl0 vl0 r.2.2 :: ow)) := by
  unfold f_feedback_Loop_Step at h
  refine enter (n := 146) (args := [eptr vl0 il0 136, .agg #[.complex .f64 bsx1_V csx1_V, .bool sx1_Lost]]) Try.func33 rfl rfl (Nat.le_of_ble_eq_true rfl) fun a hf => ?_
  replace hf : Fr 146 a [(0, eptr vl0 il0 136), (1, .agg #[.complex .f64 bsx1_V csx1_V, .bool sx1_Lost])] := hf
  refine wp_mono (Q := fun e a w => e = .ret ∧ ∃ (b0 : Nat) (b1 : Nat) (c0 : Value), Fr 146 a [(4, optr c0 0), (5, .int .i64 r.2.1)] ∧ Fl.rep b0 r.1.2.1.1 ∧ Fl.rep b1 r.1.2.1.2 ∧ Hp S w0 w (Res.obj 58 c0 [.int .i64 r.1.1, .complex .f64 b0 b1, .bool r.1.2.2] :: Res.sl (Ek.pair (Ek.int .i64) (Ek.pair (Ek.arr 64 Ek.c128) (Ek.pair (Ek.arr 64 Ek.c128) (Ek.pair (Ek.int .i64) (Ek.pair (Ek.int .i64) (Ek.pair Ek.f64 (Ek.pair (Ek.int .i64) (Ek.pair Ek.bool (Ek.pair Ek.bool Ek.c128))))))))) tbl0 vl0 r.2.2 :: ow)) ?_ ?_
  rotate_left
  · rintro e a w ⟨rfl, x0, x1, c0, hf, y0, y1, hp⟩
    exact retG2 hf rfl ⟨_, _, rfl, hp.ob (i := 0) rfl, .inr ⟨by kernel_rfl, rfl⟩⟩ rfl ⟨x0, x1, rfl, y0, y1, hp.drop⟩
  refine wp_seq ?_
  refine wp_reg ?_
  refine st_boxO (cs := [.complex .f64 bsx1_V csx1_V, .bool sx1_Lost]) hf (by decide) hp rfl rfl rfl ?_
  clear hf; intro a w v2 hf hp0; clear hp; have hp := hp0; clear hp0
  replace hp : Hp _ _ _ (Res.obj 51 v2 [.complex .f64 bsx1_V csx1_V, .bool sx1_Lost] :: Res.sl (Ek.pair (Ek.int .i64) (Ek.pair (Ek.arr 64 Ek.c128) (Ek.pair (Ek.arr 64 Ek.c128) (Ek.pair (Ek.int .i64) (Ek.pair (Ek.int .i64) (Ek.pair Ek.f64 (Ek.pair (Ek.int .i64) (Ek.pair Ek.bool (Ek.pair Ek.bool Ek.c128))))))))) tbl0 vl0 l0 :: ow) := hp
  refine st_alloc (cs := [.int .i64 (0 : Int), .complex .f64 0 0, .bool false]) (zv := .agg #[.int .i64 (0 : Int), .complex .f64 0 0, .bool false]) hf (by decide) (by kernel_rfl) rfl hp rfl ?_
  clear hf; intro a w v4 hf hp0; clear hp; have hp := hp0; clear hp0
  replace hp : Hp _ _ _ (Res.obj 58 v4 [.int .i64 (0 : Int), .complex .f64 0 0, .bool false] :: Res.obj 51 v2 [.complex .f64 bsx1_V csx1_V, .bool sx1_Lost] :: Res.sl (Ek.pair (Ek.int .i64) (Ek.pair (Ek.arr 64 Ek.c128) (Ek.pair (Ek.arr 64 Ek.c128) (Ek.pair (Ek.int .i64) (Ek.pair (Ek.int .i64) (Ek.pair Ek.f64 (Ek.pair (Ek.int .i64) (Ek.pair Ek.bool (Ek.pair Ek.bool Ek.c128))))))))) tbl0 vl0 l0 :: ow) := hp
  refine st_assign hf rfl rfl (by decide) ?_
  clear hf; intro a ha hf; clear ha
  refine st_nil hf ?_
  refine th_n ?_
  refine wp_seq ?_
  refine wp_seq ?_
  refine wp_reg ?_
  refine st_move hf rfl rfl (by decide) ?_
  clear hf; intro a ha hf; clear ha
  refine st_enilE hf (by decide) Try.underlying81 rfl rfl rfl (Sl.isP (hp.sl (i := 2) rfl) kl0.1 kl0.2) ?_
  clear hf; intro a ha hf; clear ha
  refine st_nil hf ?_
  refine th_n ?_
  refine wp_if hf rfl (fun hb => ?_) (fun hb => ?_)
  · exact absurd hb (by decide)
  refine wp_skip ?_
  refine th_n ?_
  refine wp_seq ?_
  refine wp_seq ?_
  refine wp_reg ?_
  refine st_ldOA (m := 2) (us := [.complex .f64 bsx1_V csx1_V, .bool sx1_Lost]) hf (by decide) (by kernel_rfl) rfl rfl (hp.ob (i := 1) rfl) rfl rfl ?_
  clear hf; intro a ha hf; clear ha
  refine st_build (E := (Ek.pair Ek.c128 Ek.bool)) (xs := [(sx1_V, sx1_Lost)]) hf (by decide) elt51 Try.underlying52 hp (vals := #[(0, .agg #[.complex .f64 bsx1_V csx1_V, .bool sx1_Lost])]) (cells := #[.complex .f64 bsx1_V csx1_V, .bool sx1_Lost]) rfl (by simp [hf.ev (x := (Operand.tmp 20)) rfl]) (Nat.le_of_ble_eq_true rfl) (Nat.le_of_ble_eq_true rfl) (z := .agg #[.complex .f64 0 0, .bool false]) (by kernel_rfl) (by kernel_rfl) rfl (reps_cons (cs := [.complex .f64 bsx1_V csx1_V, .bool sx1_Lost]) ⟨[.complex .f64 bsx1_V csx1_V], [.bool sx1_Lost], rfl, (show Ek.c128.rep [.complex .f64 bsx1_V csx1_V] sx1_V from ⟨_, _, rfl, hsx1_V, ksx1_V⟩), rfl⟩ (reps_nil _)) ?_
  clear hf; intro a w v6 hf hp0; clear hp; have hp := hp0; clear hp0
  replace hp : Hp _ _ _ (Res.sl (Ek.pair Ek.c128 Ek.bool) 51 v6 ([(sx1_V, sx1_Lost)]) :: Res.obj 58 v4 [.int .i64 (0 : Int), .complex .f64 0 0, .bool false] :: Res.obj 51 v2 [.complex .f64 bsx1_V csx1_V, .bool sx1_Lost] :: Res.sl (Ek.pair (Ek.int .i64) (Ek.pair (Ek.arr 64 Ek.c128) (Ek.pair (Ek.arr 64 Ek.c128) (Ek.pair (Ek.int .i64) (Ek.pair (Ek.int .i64) (Ek.pair Ek.f64 (Ek.pair (Ek.int .i64) (Ek.pair Ek.bool (Ek.pair Ek.bool Ek.c128))))))))) tbl0 vl0 l0 :: ow) := hp
  obtain ⟨q8, hcall9, h⟩ := bnd h
  obtain ⟨S10, hp11, rd12, up13, bk14⟩ := Hp.lendS hp (i := 0) rfl
  refine st_call hf (by decide) Try.func32 rfl rfl rfl rfl rfl (f_grid_Check_c hp11 _ _ rd12 hcall9) ?_
  rintro _ w ⟨rfl, hp0⟩
  have hp0 := bk14 _ _ hp0
  clear hp; have hp := hp0; clear hp0
  replace hp : Hp _ _ _ (Res.sl (Ek.pair Ek.c128 Ek.bool) 51 v6 ([(sx1_V, sx1_Lost)]) :: Res.obj 58 v4 [.int .i64 (0 : Int), .complex .f64 0 0, .bool false] :: Res.obj 51 v2 [.complex .f64 bsx1_V csx1_V, .bool sx1_Lost] :: Res.sl (Ek.pair (Ek.int .i64) (Ek.pair (Ek.arr 64 Ek.c128) (Ek.pair (Ek.arr 64 Ek.c128) (Ek.pair (Ek.int .i64) (Ek.pair (Ek.int .i64) (Ek.pair Ek.f64 (Ek.pair (Ek.int .i64) (Ek.pair Ek.bool (Ek.pair Ek.bool Ek.c128))))))))) tbl0 vl0 l0 :: ow) := hp
  refine ⟨_, rfl, ?_⟩
  clear hf; intro a hf
  refine st_move hf rfl rfl (by decide) ?_
  clear hf; intro a ha hf; clear ha
  refine st_extract hf (by decide) rfl rfl rfl ?_
  clear hf; intro a ha hf; clear ha
  refine st_extract hf (by decide) rfl rfl rfl ?_
  clear hf; intro a ha hf; clear ha
  refine st_assign hf rfl rfl (by decide) ?_
  clear hf; intro a ha hf; clear ha
  refine st_assign hf rfl rfl (by decide) ?_
  clear hf; intro a ha hf; clear ha
  refine st_nil hf ?_
  refine th_n ?_
  refine wp_seq ?_
  refine wp_reg ?_
  refine st_move hf rfl rfl (by decide) ?_
  clear hf; intro a ha hf; clear ha
  refine st_ineq hf (by decide) rfl rfl rfl ?_
  clear hf; intro a ha hf; clear ha
  refine st_nil hf ?_
  refine th_n ?_
  refine wp_if hf rfl (fun hb => ?_) (fun hb => ?_)
  · replace h := ifT h hb
    refine wp_seq ?_
    refine wp_reg ?_
    refine st_buildA (vals := []) (cells := [.int .i64 (0 : Int), .complex .f64 0 0, .bool false]) hf (by decide) rfl (by simp []) (fun w => by kernel_rfl) ?_
    clear hf; intro a ha hf; clear ha
    refine st_move hf rfl rfl (by decide) ?_
    clear hf; intro a ha hf; clear ha
    refine st_stO (us := [.int .i64 (0 : Int), .complex .f64 0 0, .bool false]) hf hp (i := 1) rfl rfl rfl rfl rfl (by rfl) (by kernel_rfl) (Nat.le_of_ble_eq_true rfl) ?_
    clear hf; intro a w hf hp0; clear hp; have hp := hp0; clear hp0
    replace hp : Hp _ _ _ (Res.sl (Ek.pair Ek.c128 Ek.bool) 51 v6 ([(sx1_V, sx1_Lost)]) :: Res.obj 58 v4 [.int .i64 (0 : Int), .complex .f64 0 0, .bool false] :: Res.obj 51 v2 [.complex .f64 bsx1_V csx1_V, .bool sx1_Lost] :: Res.sl (Ek.pair (Ek.int .i64) (Ek.pair (Ek.arr 64 Ek.c128) (Ek.pair (Ek.arr 64 Ek.c128) (Ek.pair (Ek.int .i64) (Ek.pair (Ek.int .i64) (Ek.pair Ek.f64 (Ek.pair (Ek.int .i64) (Ek.pair Ek.bool (Ek.pair Ek.bool Ek.c128))))))))) tbl0 vl0 l0 :: ow) := hp
    refine st_assign hf rfl rfl (by decide) ?_
    clear hf; intro a ha hf; clear ha
    refine st_nil hf ?_
    refine th_n ?_
    refine wp_ret ?_
    refine th_r ?_
    obtain rfl := Option.some.inj h
    have hp : Hp _ _ _ (Res.obj 58 v4 [.int .i64 (0 : Int), .complex .f64 0 0, .bool false] :: Res.sl (Ek.pair (Ek.int .i64) (Ek.pair (Ek.arr 64 Ek.c128) (Ek.pair (Ek.arr 64 Ek.c128) (Ek.pair (Ek.int .i64) (Ek.pair (Ek.int .i64) (Ek.pair Ek.f64 (Ek.pair (Ek.int .i64) (Ek.pair Ek.bool (Ek.pair Ek.bool Ek.c128))))))))) tbl0 vl0 l0 :: ow) := Hp.sel (pre := [Res.sl (Ek.pair Ek.c128 Ek.bool) 51 v6 ([(sx1_V, sx1_Lost)]), Res.obj 58 v4 [.int .i64 (0 : Int), .complex .f64 0 0, .bool false], Res.obj 51 v2 [.complex .f64 bsx1_V csx1_V, .bool sx1_Lost], Res.sl (Ek.pair (Ek.int .i64) (Ek.pair (Ek.arr 64 Ek.c128) (Ek.pair (Ek.arr 64 Ek.c128) (Ek.pair (Ek.int .i64) (Ek.pair (Ek.int .i64) (Ek.pair Ek.f64 (Ek.pair (Ek.int .i64) (Ek.pair Ek.bool (Ek.pair Ek.bool Ek.c128))))))))) tbl0 vl0 l0]) (tail := ow) (rs' := [Res.obj 58 v4 [.int .i64 (0 : Int), .complex .f64 0 0, .bool false], Res.sl (Ek.pair (Ek.int .i64) (Ek.pair (Ek.arr 64 Ek.c128) (Ek.pair (Ek.arr 64 Ek.c128) (Ek.pair (Ek.int .i64) (Ek.pair (Ek.int .i64) (Ek.pair Ek.f64 (Ek.pair (Ek.int .i64) (Ek.pair Ek.bool (Ek.pair Ek.bool Ek.c128))))))))) tbl0 vl0 l0]) hp [1, 3] (by decide) (by simp) rfl
    exact ⟨rfl, ⟨_, _, _, hf.sub ⟨rfl, rfl, trivial⟩, rfl, rfl, hp⟩⟩
  replace h := ifF h hb
  refine wp_skip ?_
  refine th_n ?_
  refine wp_seq ?_
  refine wp_seq ?_
  refine wp_reg ?_
  refine st_move hf rfl rfl (by decide) ?_
  clear hf; intro a ha hf; clear ha
  refine st_nilE hf (by decide) rfl rfl (Sl.ptr (hp.sl (i := 3) rfl) kl0.1 kl0.2) ?_
  clear hf; intro a ha hf; clear ha
  refine st_faP (off := 134) (sz := 1) hf (by decide) (by kernel_rfl) (by decide) rfl rfl (Sl.isP (hp.sl (i := 3) rfl) kl0.1 kl0.2) ?_
  clear hf; intro a ha hf; clear ha
  refine st_ldQ (F := Ek.bool) (yv := (gt l0 il0).2.2.2.2.2.2.2.2.1) hf (by decide) pl4 (fun x => .bool x) (fun _ _ h => h) rfl rfl (Sl.part (E := (Ek.pair (Ek.int .i64) (Ek.pair (Ek.arr 64 Ek.c128) (Ek.pair (Ek.arr 64 Ek.c128) (Ek.pair (Ek.int .i64) (Ek.pair (Ek.int .i64) (Ek.pair Ek.f64 (Ek.pair (Ek.int .i64) (Ek.pair Ek.bool (Ek.pair Ek.bool Ek.c128)))))))))) (F := Ek.bool) (o := 134) (Sub.comp (Sub.snd (E := (Ek.int .i64)) (F := (Ek.pair (Ek.arr 64 Ek.c128) (Ek.pair (Ek.arr 64 Ek.c128) (Ek.pair (Ek.int .i64) (Ek.pair (Ek.int .i64) (Ek.pair Ek.f64 (Ek.pair (Ek.int .i64) (Ek.pair Ek.bool (Ek.pair Ek.bool Ek.c128)))))))))) (Sub.comp (Sub.snd (E := (Ek.arr 64 Ek.c128)) (F := (Ek.pair (Ek.arr 64 Ek.c128) (Ek.pair (Ek.int .i64) (Ek.pair (Ek.int .i64) (Ek.pair Ek.f64 (Ek.pair (Ek.int .i64) (Ek.pair Ek.bool (Ek.pair Ek.bool Ek.c128))))))))) (Sub.comp (Sub.snd (E := (Ek.arr 64 Ek.c128)) (F := (Ek.pair (Ek.int .i64) (Ek.pair (Ek.int .i64) (Ek.pair Ek.f64 (Ek.pair (Ek.int .i64) (Ek.pair Ek.bool (Ek.pair Ek.bool Ek.c128)))))))) (Sub.comp (Sub.snd (E := (Ek.int .i64)) (F := (Ek.pair (Ek.int .i64) (Ek.pair Ek.f64 (Ek.pair (Ek.int .i64) (Ek.pair Ek.bool (Ek.pair Ek.bool Ek.c128))))))) (Sub.comp (Sub.snd (E := (Ek.int .i64)) (F := (Ek.pair Ek.f64 (Ek.pair (Ek.int .i64) (Ek.pair Ek.bool (Ek.pair Ek.bool Ek.c128)))))) (Sub.comp (Sub.snd (E := Ek.f64) (F := (Ek.pair (Ek.int .i64) (Ek.pair Ek.bool (Ek.pair Ek.bool Ek.c128))))) (Sub.comp (Sub.snd (E := (Ek.int .i64)) (F := (Ek.pair Ek.bool (Ek.pair Ek.bool Ek.c128)))) (Sub.comp (Sub.snd (E := Ek.bool) (F := (Ek.pair Ek.bool Ek.c128))) (Sub.fst (E := Ek.bool) (F := Ek.c128)))))))))) (hp.sl (i := 3) rfl) kl0.1 kl0.2) ?_
  clear hf; intro a ha hf; clear ha
  refine st_move hf rfl rfl (by decide) ?_
  clear hf; intro a ha hf; clear ha
  refine wpList_cut 3 (fun a w => Fr 146 a [(0, eptr vl0 il0 136), (3, optr v2 0), (4, optr v4 0), (36, .bool (((gt l0 il0).2.2.2.2.2.2.2.2.1) || sx1_Lost))] ∧ Hp S w0 w (Res.sl (Ek.pair Ek.c128 Ek.bool) 51 v6 ([(sx1_V, sx1_Lost)]) :: Res.obj 58 v4 [.int .i64 (0 : Int), .complex .f64 0 0, .bool false] :: Res.obj 51 v2 [.complex .f64 bsx1_V csx1_V, .bool sx1_Lost] :: Res.sl (Ek.pair (Ek.int .i64) (Ek.pair (Ek.arr 64 Ek.c128) (Ek.pair (Ek.arr 64 Ek.c128) (Ek.pair (Ek.int .i64) (Ek.pair (Ek.int .i64) (Ek.pair Ek.f64 (Ek.pair (Ek.int .i64) (Ek.pair Ek.bool (Ek.pair Ek.bool Ek.c128))))))))) tbl0 vl0 l0 :: ow)) ?_ ?_
  · rcases Bool.eq_false_or_eq_true ((gt l0 il0).2.2.2.2.2.2.2.2.1) with hb16 | hb16
    · skip
      refine st_skip hf (wantN hf rfl rfl hb16) rfl (by decide) ?_ rfl
      clear hf; intro a hf
      refine st_skip hf (wantN hf rfl rfl hb16) rfl (by decide) ?_ rfl
      clear hf; intro a hf
      refine st_pick (v := .bool true) hf rfl rfl (fun hb' => ?_) (fun hb' => ?_) (by decide) ?_
      · rfl
      · exact absurd (hb16.symm.trans hb') (by decide)
      clear hf; intro a ha hf; clear ha
      refine st_nil hf (th_n ?_)
      exact ⟨hf.sub ⟨rfl, rfl, rfl, (by rw [hb16]; rfl), trivial⟩, hp⟩
    refine st_fa (o' := 1) hf (by decide) (off := 1) (sz := 1) (by kernel_rfl) (by decide) (wantY hf rfl rfl hb16) rfl (hp.ob (i := 2) rfl) rfl ?_
    clear hf; intro a ha hf; clear ha
    refine st_ldO (u := .bool sx1_Lost) hf (by decide) pl4 (wantY hf rfl rfl hb16) rfl (hp.ob (i := 2) rfl) rfl ?_
    clear hf; intro a ha hf; clear ha
    refine st_pick (v := .bool sx1_Lost) hf rfl rfl (fun hb' => ?_) (fun hb' => ?_) (by decide) ?_
    · exact absurd (hb16.symm.trans hb') (by decide)
    · rfl
    clear hf; intro a ha hf; clear ha
    refine st_nil hf (th_n ?_)
    exact ⟨hf.sub ⟨rfl, rfl, rfl, (by rw [hb16]; rfl), trivial⟩, hp⟩
  rintro a w ⟨hf, hp⟩
  refine st_nil hf ?_
  refine th_n ?_
  refine wp_if hf rfl (fun hb => ?_) (fun hb => ?_)
  · replace h := ifT h hb
    refine wp_seq ?_
    refine wp_reg ?_
    refine st_move hf rfl rfl (by decide) ?_
    clear hf; intro a ha hf; clear ha
    refine st_nilE hf (by decide) rfl rfl (Sl.ptr (hp.sl (i := 3) rfl) kl0.1 kl0.2) ?_
    clear hf; intro a ha hf; clear ha
    refine st_faP (off := 134) (sz := 1) hf (by decide) (by kernel_rfl) (by decide) rfl rfl (Sl.isP (hp.sl (i := 3) rfl) kl0.1 kl0.2) ?_
    clear hf; intro a ha hf; clear ha
    refine st_stQ (E := (Ek.pair (Ek.int .i64) (Ek.pair (Ek.arr 64 Ek.c128) (Ek.pair (Ek.arr 64 Ek.c128) (Ek.pair (Ek.int .i64) (Ek.pair (Ek.int .i64) (Ek.pair Ek.f64 (Ek.pair (Ek.int .i64) (Ek.pair Ek.bool (Ek.pair Ek.bool Ek.c128)))))))))) (F := Ek.bool) (o := 134) (Sub.comp (Sub.snd (E := (Ek.int .i64)) (F := (Ek.pair (Ek.arr 64 Ek.c128) (Ek.pair (Ek.arr 64 Ek.c128) (Ek.pair (Ek.int .i64) (Ek.pair (Ek.int .i64) (Ek.pair Ek.f64 (Ek.pair (Ek.int .i64) (Ek.pair Ek.bool (Ek.pair Ek.bool Ek.c128)))))))))) (Sub.comp (Sub.snd (E := (Ek.arr 64 Ek.c128)) (F := (Ek.pair (Ek.arr 64 Ek.c128) (Ek.pair (Ek.int .i64) (Ek.pair (Ek.int .i64) (Ek.pair Ek.f64 (Ek.pair (Ek.int .i64) (Ek.pair Ek.bool (Ek.pair Ek.bool Ek.c128))))))))) (Sub.comp (Sub.snd (E := (Ek.arr 64 Ek.c128)) (F := (Ek.pair (Ek.int .i64) (Ek.pair (Ek.int .i64) (Ek.pair Ek.f64 (Ek.pair (Ek.int .i64) (Ek.pair Ek.bool (Ek.pair Ek.bool Ek.c128)))))))) (Sub.comp (Sub.snd (E := (Ek.int .i64)) (F := (Ek.pair (Ek.int .i64) (Ek.pair Ek.f64 (Ek.pair (Ek.int .i64) (Ek.pair Ek.bool (Ek.pair Ek.bool Ek.c128))))))) (Sub.comp (Sub.snd (E := (Ek.int .i64)) (F := (Ek.pair Ek.f64 (Ek.pair (Ek.int .i64) (Ek.pair Ek.bool (Ek.pair Ek.bool Ek.c128)))))) (Sub.comp (Sub.snd (E := Ek.f64) (F := (Ek.pair (Ek.int .i64) (Ek.pair Ek.bool (Ek.pair Ek.bool Ek.c128))))) (Sub.comp (Sub.snd (E := (Ek.int .i64)) (F := (Ek.pair Ek.bool (Ek.pair Ek.bool Ek.c128)))) (Sub.comp (Sub.snd (E := Ek.bool) (F := (Ek.pair Ek.bool Ek.c128))) (Sub.fst (E := Ek.bool) (F := Ek.c128)))))))))) hf (by kernel_rfl) hp (i := 3) rfl rfl rfl rfl rfl kl0.1 kl0.2 ?_
    clear hf; intro a w hf hp0; clear hp; have hp := hp0; clear hp0
    replace hp : Hp _ _ _ (Res.sl (Ek.pair Ek.c128 Ek.bool) 51 v6 ([(sx1_V, sx1_Lost)]) :: Res.obj 58 v4 [.int .i64 (0 : Int), .complex .f64 0 0, .bool false] :: Res.obj 51 v2 [.complex .f64 bsx1_V csx1_V, .bool sx1_Lost] :: Res.sl (Ek.pair (Ek.int .i64) (Ek.pair (Ek.arr 64 Ek.c128) (Ek.pair (Ek.arr 64 Ek.c128) (Ek.pair (Ek.int .i64) (Ek.pair (Ek.int .i64) (Ek.pair Ek.f64 (Ek.pair (Ek.int .i64) (Ek.pair Ek.bool (Ek.pair Ek.bool Ek.c128))))))))) tbl0 vl0 (l0.set (il0).toNat ((gt l0 il0).1, (gt l0 il0).2.1, (gt l0 il0).2.2.1, (gt l0 il0).2.2.2.1, (gt l0 il0).2.2.2.2.1, (gt l0 il0).2.2.2.2.2.1, (gt l0 il0).2.2.2.2.2.2.1, (gt l0 il0).2.2.2.2.2.2.2.1, true, (gt l0 il0).2.2.2.2.2.2.2.2.2)) :: ow) := hp
    obtain ⟨q17, hq18, h⟩ := bnd h
    have hq19 := Option.some.inj hq18
    rw [hq19] at hp
    replace hp : Hp _ _ _ (Res.sl (Ek.pair Ek.c128 Ek.bool) 51 v6 ([(sx1_V, sx1_Lost)]) :: Res.obj 58 v4 [.int .i64 (0 : Int), .complex .f64 0 0, .bool false] :: Res.obj 51 v2 [.complex .f64 bsx1_V csx1_V, .bool sx1_Lost] :: Res.sl (Ek.pair (Ek.int .i64) (Ek.pair (Ek.arr 64 Ek.c128) (Ek.pair (Ek.arr 64 Ek.c128) (Ek.pair (Ek.int .i64) (Ek.pair (Ek.int .i64) (Ek.pair Ek.f64 (Ek.pair (Ek.int .i64) (Ek.pair Ek.bool (Ek.pair Ek.bool Ek.c128))))))))) tbl0 vl0 q17 :: ow) := hp
    refine st_nil hf ?_
    refine th_n ?_
    refine wp_seq ?_
    refine wp_reg ?_
    refine st_buildA (vals := [(2, .bool true)]) (cells := [.int .i64 (0 : Int), .complex .f64 0 0, .bool true]) hf (by decide) rfl (by simp [hf.ev (x := (Operand.const (.bool true))) rfl]) (fun w => by kernel_rfl) ?_
    clear hf; intro a ha hf; clear ha
    refine st_stO (us := [.int .i64 (0 : Int), .complex .f64 0 0, .bool true]) hf hp (i := 1) rfl rfl rfl rfl rfl (by rfl) (by kernel_rfl) (Nat.le_of_ble_eq_true rfl) ?_
    clear hf; intro a w hf hp0; clear hp; have hp := hp0; clear hp0
    replace hp : Hp _ _ _ (Res.sl (Ek.pair Ek.c128 Ek.bool) 51 v6 ([(sx1_V, sx1_Lost)]) :: Res.obj 58 v4 [.int .i64 (0 : Int), .complex .f64 0 0, .bool true] :: Res.obj 51 v2 [.complex .f64 bsx1_V csx1_V, .bool sx1_Lost] :: Res.sl (Ek.pair (Ek.int .i64) (Ek.pair (Ek.arr 64 Ek.c128) (Ek.pair (Ek.arr 64 Ek.c128) (Ek.pair (Ek.int .i64) (Ek.pair (Ek.int .i64) (Ek.pair Ek.f64 (Ek.pair (Ek.int .i64) (Ek.pair Ek.bool (Ek.pair Ek.bool Ek.c128))))))))) tbl0 vl0 q17 :: ow) := hp
    refine st_assign hf rfl rfl (by decide) ?_
    clear hf; intro a ha hf; clear ha
    refine st_nil hf ?_
    refine th_n ?_
    refine wp_ret ?_
    refine th_r ?_
    obtain rfl := Option.some.inj h
    have hp : Hp _ _ _ (Res.obj 58 v4 [.int .i64 (0 : Int), .complex .f64 0 0, .bool true] :: Res.sl (Ek.pair (Ek.int .i64) (Ek.pair (Ek.arr 64 Ek.c128) (Ek.pair (Ek.arr 64 Ek.c128) (Ek.pair (Ek.int .i64) (Ek.pair (Ek.int .i64) (Ek.pair Ek.f64 (Ek.pair (Ek.int .i64) (Ek.pair Ek.bool (Ek.pair Ek.bool Ek.c128))))))))) tbl0 vl0 q17 :: ow) := Hp.sel (pre := [Res.sl (Ek.pair Ek.c128 Ek.bool) 51 v6 ([(sx1_V, sx1_Lost)]), Res.obj 58 v4 [.int .i64 (0 : Int), .complex .f64 0 0, .bool true], Res.obj 51 v2 [.complex .f64 bsx1_V csx1_V, .bool sx1_Lost], Res.sl (Ek.pair (Ek.int .i64) (Ek.pair (Ek.arr 64 Ek.c128) (Ek.pair (Ek.arr 64 Ek.c128) (Ek.pair (Ek.int .i64) (Ek.pair (Ek.int .i64) (Ek.pair Ek.f64 (Ek.pair (Ek.int .i64) (Ek.pair Ek.bool (Ek.pair Ek.bool Ek.c128))))))))) tbl0 vl0 q17]) (tail := ow) (rs' := [Res.obj 58 v4 [.int .i64 (0 : Int), .complex .f64 0 0, .bool true], Res.sl (Ek.pair (Ek.int .i64) (Ek.pair (Ek.arr 64 Ek.c128) (Ek.pair (Ek.arr 64 Ek.c128) (Ek.pair (Ek.int .i64) (Ek.pair (Ek.int .i64) (Ek.pair Ek.f64 (Ek.pair (Ek.int .i64) (Ek.pair Ek.bool (Ek.pair Ek.bool Ek.c128))))))))) tbl0 vl0 q17]) hp [1, 3] (by decide) (by simp) rfl
    exact ⟨rfl, ⟨_, _, _, hf.sub ⟨rfl, rfl, trivial⟩, rfl, rfl, hp⟩⟩
  replace h := ifF h hb
  refine wp_skip ?_
  refine th_n ?_
  refine wp_seq ?_
  obtain ⟨S20, hp21, rd22, up23, bk24⟩ := Hp.lendO hp (i := 2) rfl
  have rl25 := rd22
  refine wp_cutN (fun a w => Fr 146 a [(0, eptr vl0 il0 136), (4, optr v4 0), (8, .float .f64 bsx1_V), (9, .float .f64 csx1_V)] ∧ Hp S w0 w (Res.obj 51 v2 [.complex .f64 bsx1_V csx1_V, .bool sx1_Lost] :: Res.sl (Ek.pair Ek.c128 Ek.bool) 51 v6 ([(sx1_V, sx1_Lost)]) :: Res.obj 58 v4 [.int .i64 (0 : Int), .complex .f64 0 0, .bool false] :: Res.sl (Ek.pair (Ek.int .i64) (Ek.pair (Ek.arr 64 Ek.c128) (Ek.pair (Ek.arr 64 Ek.c128) (Ek.pair (Ek.int .i64) (Ek.pair (Ek.int .i64) (Ek.pair Ek.f64 (Ek.pair (Ek.int .i64) (Ek.pair Ek.bool (Ek.pair Ek.bool Ek.c128))))))))) tbl0 vl0 l0 :: ow)) ?_ ?_
  · have hp := hp21.same (Same.drew w)
    refine dr_begin' (fun a w => Fr 146 a [(0, eptr vl0 il0 136), (4, optr v4 0), (8, .float .f64 bsx1_V), (9, .float .f64 csx1_V)] ∧ Hp S w0 w (Res.obj 51 v2 [.complex .f64 bsx1_V csx1_V, .bool sx1_Lost] :: Res.sl (Ek.pair Ek.c128 Ek.bool) 51 v6 ([(sx1_V, sx1_Lost)]) :: Res.obj 58 v4 [.int .i64 (0 : Int), .complex .f64 0 0, .bool false] :: Res.sl (Ek.pair (Ek.int .i64) (Ek.pair (Ek.arr 64 Ek.c128) (Ek.pair (Ek.arr 64 Ek.c128) (Ek.pair (Ek.int .i64) (Ek.pair (Ek.int .i64) (Ek.pair Ek.f64 (Ek.pair (Ek.int .i64) (Ek.pair Ek.bool (Ek.pair Ek.bool Ek.c128))))))))) tbl0 vl0 l0 :: ow)) (fun w' => ∃ l, Hp S20 w w' l) [] (by kernel_rfl) ?_
    refine dr_take 0 (optr v2 0) rfl (by kernel_rfl) (by kernel_rfl) (by kernel_rfl) (by kernel_rfl) rfl rfl hf (by decide) rfl (fun w hp => ?_) ⟨_, hp⟩ ?_
    · obtain ⟨_, hp⟩ := hp
      refine st_fa (o' := 0) hf (by decide) (off := 0) (sz := 1) (by kernel_rfl) (by decide) rfl rfl (rl25.ob hp) rfl ?_
      clear hf; intro a ha hf
      exact st_nil hf (th_n ⟨ha, rfl⟩)
    clear hf; intro a hf
    refine dr_take 1 (.complex .f64 bsx1_V csx1_V) rfl (by kernel_rfl) (by kernel_rfl) (by kernel_rfl) (by kernel_rfl) rfl rfl hf (by decide) rfl (fun w hp => ?_) ⟨_, hp⟩ ?_
    · obtain ⟨_, hp⟩ := hp
      refine st_ldO (u := .complex .f64 bsx1_V csx1_V) hf (by decide) pl39 rfl rfl (rl25.ob hp) rfl ?_
      clear hf; intro a ha hf
      exact st_nil hf (th_n ⟨ha, rfl⟩)
    clear hf; intro a hf
    refine dr_take 2 (.float .f64 bsx1_V) rfl (by kernel_rfl) (by kernel_rfl) (by kernel_rfl) (by kernel_rfl) rfl rfl hf (by decide) rfl (fun w hp => ?_) ⟨_, hp⟩ ?_
    · obtain ⟨_, hp⟩ := hp
      refine st_real hf (by decide) rfl rfl ?_
      clear hf; intro a ha hf
      exact st_nil hf (th_n ⟨ha, rfl⟩)
    clear hf; intro a hf
    refine dr_take 3 (optr v2 0) rfl (by kernel_rfl) (by kernel_rfl) (by kernel_rfl) (by kernel_rfl) rfl rfl hf (by decide) rfl (fun w hp => ?_) ⟨_, hp⟩ ?_
    · obtain ⟨_, hp⟩ := hp
      refine st_fa (o' := 0) hf (by decide) (off := 0) (sz := 1) (by kernel_rfl) (by decide) rfl rfl (rl25.ob hp) rfl ?_
      clear hf; intro a ha hf
      exact st_nil hf (th_n ⟨ha, rfl⟩)
    clear hf; intro a hf
    refine dr_take 4 (.complex .f64 bsx1_V csx1_V) rfl (by kernel_rfl) (by kernel_rfl) (by kernel_rfl) (by kernel_rfl) rfl rfl hf (by decide) rfl (fun w hp => ?_) ⟨_, hp⟩ ?_
    · obtain ⟨_, hp⟩ := hp
      refine st_ldO (u := .complex .f64 bsx1_V csx1_V) hf (by decide) pl39 rfl rfl (rl25.ob hp) rfl ?_
      clear hf; intro a ha hf
      exact st_nil hf (th_n ⟨ha, rfl⟩)
    clear hf; intro a hf
    refine dr_take 5 (.float .f64 csx1_V) rfl (by kernel_rfl) (by kernel_rfl) (by kernel_rfl) (by kernel_rfl) rfl rfl hf (by decide) rfl (fun w hp => ?_) ⟨_, hp⟩ ?_
    · obtain ⟨_, hp⟩ := hp
      refine st_imag hf (by decide) rfl rfl ?_
      clear hf; intro a ha hf
      exact st_nil hf (th_n ⟨ha, rfl⟩)
    clear hf; intro a hf
    refine dr_take 6 (.float .f64 bsx1_V) rfl (by kernel_rfl) (by kernel_rfl) (by kernel_rfl) (by kernel_rfl) rfl rfl hf (by decide) rfl (fun w hp => ?_) ⟨_, hp⟩ ?_
    · obtain ⟨_, hp⟩ := hp
      refine st_assign hf rfl rfl (by decide) ?_
      clear hf; intro a ha hf
      exact st_nil hf (th_n ⟨ha, rfl⟩)
    clear hf; intro a hf
    refine dr_take 7 (.float .f64 csx1_V) rfl (by kernel_rfl) (by kernel_rfl) (by kernel_rfl) (by kernel_rfl) rfl rfl hf (by decide) rfl (fun w hp => ?_) ⟨_, hp⟩ ?_
    · obtain ⟨_, hp⟩ := hp
      refine st_assign hf rfl rfl (by decide) ?_
      clear hf; intro a ha hf
      exact st_nil hf (th_n ⟨ha, rfl⟩)
    clear hf; intro a hf
    refine dr_end (by kernel_rfl) ?_ _
    have hp := bk24 _ _ hp
    exact ⟨hf.sub ⟨rfl, rfl, rfl, rfl, trivial⟩, hp⟩
  rintro a w ⟨hf, hp⟩
  refine th_n ?_
  refine wp_seq ?_
  refine wp_seq ?_
  refine wp_reg ?_
  refine st_assign hf rfl rfl (by decide) ?_
  clear hf; intro a ha hf; clear ha
  refine st_nil hf ?_
  refine th_n ?_
  refine wp_block ?_
  obtain ⟨q62, hl, h⟩ := bnd h
  have hp : Hp _ _ _ (Res.sl (Ek.pair (Ek.int .i64) (Ek.pair (Ek.arr 64 Ek.c128) (Ek.pair (Ek.arr 64 Ek.c128) (Ek.pair (Ek.int .i64) (Ek.pair (Ek.int .i64) (Ek.pair Ek.f64 (Ek.pair (Ek.int .i64) (Ek.pair Ek.bool (Ek.pair Ek.bool Ek.c128))))))))) tbl0 vl0 l0 :: Res.obj 58 v4 [.int .i64 (0 : Int), .complex .f64 0 0, .bool false] :: ow) := Hp.sel (pre := [Res.obj 51 v2 [.complex .f64 bsx1_V csx1_V, .bool sx1_Lost], Res.sl (Ek.pair Ek.c128 Ek.bool) 51 v6 ([(sx1_V, sx1_Lost)]), Res.obj 58 v4 [.int .i64 (0 : Int), .complex .f64 0 0, .bool false], Res.sl (Ek.pair (Ek.int .i64) (Ek.pair (Ek.arr 64 Ek.c128) (Ek.pair (Ek.arr 64 Ek.c128) (Ek.pair (Ek.int .i64) (Ek.pair (Ek.int .i64) (Ek.pair Ek.f64 (Ek.pair (Ek.int .i64) (Ek.pair Ek.bool (Ek.pair Ek.bool Ek.c128))))))))) tbl0 vl0 l0]) (tail := ow) (rs' := [Res.sl (Ek.pair (Ek.int .i64) (Ek.pair (Ek.arr 64 Ek.c128) (Ek.pair (Ek.arr 64 Ek.c128) (Ek.pair (Ek.int .i64) (Ek.pair (Ek.int .i64) (Ek.pair Ek.f64 (Ek.pair (Ek.int .i64) (Ek.pair Ek.bool (Ek.pair Ek.bool Ek.c128))))))))) tbl0 vl0 l0, Res.obj 58 v4 [.int .i64 (0 : Int), .complex .f64 0 0, .bool false]]) hp [3, 2] (by decide) (by simp) rfl
  refine wp_loop_pure (f := (f_feedback_Loop_Step.s1 l0 il0)) (s := (sx1_V.1, sx1_V.2, (1 : Int))) (fun s a w => ∃ (bb26 : Nat) (bb28 : Nat), Fr 146 a [(0, eptr vl0 il0 136), (4, optr v4 0), (8, .float .f64 bb26), (9, .float .f64 bb28), (10, .int .i64 s.2.2)] ∧ Fl.rep bb26 s.1 ∧ Fl.rep bb28 s.2.1 ∧ Hp S w0 w (Res.sl (Ek.pair (Ek.int .i64) (Ek.pair (Ek.arr 64 Ek.c128) (Ek.pair (Ek.arr 64 Ek.c128) (Ek.pair (Ek.int .i64) (Ek.pair (Ek.int .i64) (Ek.pair Ek.f64 (Ek.pair (Ek.int .i64) (Ek.pair Ek.bool (Ek.pair Ek.bool Ek.c128))))))))) tbl0 vl0 l0 :: Res.obj 58 v4 [.int .i64 (0 : Int), .complex .f64 0 0, .bool false] :: ow)) (fun q e a w => e = .exit 0 ∧ ∃ (bb30 : Nat) (bb32 : Nat), Fr 146 a [(0, eptr vl0 il0 136), (4, optr v4 0), (8, .float .f64 bb30), (9, .float .f64 bb32)] ∧ Fl.rep bb30 q.1 ∧ Fl.rep bb32 q.2 ∧ Hp S w0 w (Res.sl (Ek.pair (Ek.int .i64) (Ek.pair (Ek.arr 64 Ek.c128) (Ek.pair (Ek.arr 64 Ek.c128) (Ek.pair (Ek.int .i64) (Ek.pair (Ek.int .i64) (Ek.pair Ek.f64 (Ek.pair (Ek.int .i64) (Ek.pair Ek.bool (Ek.pair Ek.bool Ek.c128))))))))) tbl0 vl0 l0 :: Res.obj 58 v4 [.int .i64 (0 : Int), .complex .f64 0 0, .bool false] :: ow)) ?_ hl ⟨_, _, hf.sub ⟨rfl, rfl, rfl, rfl, rfl, trivial⟩, hsx1_V, ksx1_V, hp⟩ ?_
  · clear hl hf hp
    intro s x a w h hI
    obtain ⟨re8, im9, k10⟩ := s
    obtain ⟨bb26, bb28, hf, y27, y29, hp⟩ : ∃ (bb26 : Nat) (bb28 : Nat), Fr 146 a [(0, eptr vl0 il0 136), (4, optr v4 0), (8, .float .f64 bb26), (9, .float .f64 bb28), (10, .int .i64 k10)] ∧ Fl.rep bb26 re8 ∧ Fl.rep bb28 im9 ∧ Hp S w0 w (Res.sl (Ek.pair (Ek.int .i64) (Ek.pair (Ek.arr 64 Ek.c128) (Ek.pair (Ek.arr 64 Ek.c128) (Ek.pair (Ek.int .i64) (Ek.pair (Ek.int .i64) (Ek.pair Ek.f64 (Ek.pair (Ek.int .i64) (Ek.pair Ek.bool (Ek.pair Ek.bool Ek.c128))))))))) tbl0 vl0 l0 :: Res.obj 58 v4 [.int .i64 (0 : Int), .complex .f64 0 0, .bool false] :: ow) := hI
    replace h : f_feedback_Loop_Step.s1c l0 il0 re8 im9 k10 = some x := h
    unfold f_feedback_Loop_Step.s1c at h
    refine wp_seq ?_
    refine wp_seq ?_
    refine wp_reg ?_
    refine st_move hf rfl rfl (by decide) ?_
    clear hf; intro a ha hf; clear ha
    refine st_move hf rfl rfl (by decide) ?_
    clear hf; intro a ha hf; clear ha
    refine st_nilE hf (by decide) rfl rfl (Sl.ptr (hp.sl (i := 0) rfl) kl0.1 kl0.2) ?_
    clear hf; intro a ha hf; clear ha
    refine st_faP (off := 129) (sz := 1) hf (by decide) (by kernel_rfl) (by decide) rfl rfl (Sl.isP (hp.sl (i := 0) rfl) kl0.1 kl0.2) ?_
    clear hf; intro a ha hf; clear ha
    refine st_ldQ (F := (Ek.int .i64)) (yv := (gt l0 il0).2.2.2.1) hf (by decide) pl3 (fun x => .int .i64 x) (fun _ _ h => h) rfl rfl (Sl.part (E := (Ek.pair (Ek.int .i64) (Ek.pair (Ek.arr 64 Ek.c128) (Ek.pair (Ek.arr 64 Ek.c128) (Ek.pair (Ek.int .i64) (Ek.pair (Ek.int .i64) (Ek.pair Ek.f64 (Ek.pair (Ek.int .i64) (Ek.pair Ek.bool (Ek.pair Ek.bool Ek.c128)))))))))) (F := (Ek.int .i64)) (o := 129) (Sub.comp (Sub.snd (E := (Ek.int .i64)) (F := (Ek.pair (Ek.arr 64 Ek.c128) (Ek.pair (Ek.arr 64 Ek.c128) (Ek.pair (Ek.int .i64) (Ek.pair (Ek.int .i64) (Ek.pair Ek.f64 (Ek.pair (Ek.int .i64) (Ek.pair Ek.bool (Ek.pair Ek.bool Ek.c128)))))))))) (Sub.comp (Sub.snd (E := (Ek.arr 64 Ek.c128)) (F := (Ek.pair (Ek.arr 64 Ek.c128) (Ek.pair (Ek.int .i64) (Ek.pair (Ek.int .i64) (Ek.pair Ek.f64 (Ek.pair (Ek.int .i64) (Ek.pair Ek.bool (Ek.pair Ek.bool Ek.c128))))))))) (Sub.comp (Sub.snd (E := (Ek.arr 64 Ek.c128)) (F := (Ek.pair (Ek.int .i64) (Ek.pair (Ek.int .i64) (Ek.pair Ek.f64 (Ek.pair (Ek.int .i64) (Ek.pair Ek.bool (Ek.pair Ek.bool Ek.c128)))))))) (Sub.fst (E := (Ek.int .i64)) (F := (Ek.pair (Ek.int .i64) (Ek.pair Ek.f64 (Ek.pair (Ek.int .i64) (Ek.pair Ek.bool (Ek.pair Ek.bool Ek.c128)))))))))) (hp.sl (i := 0) rfl) kl0.1 kl0.2) ?_
    clear hf; intro a ha hf; clear ha
    refine st_ilss hf (by decide) rfl rfl rfl ?_
    clear hf; intro a ha hf; clear ha
    refine st_nil hf ?_
    refine th_n ?_
    refine wp_if hf rfl (fun hb => ?_) (fun hb => ?_)
    · replace h := ifT h hb
      refine wp_skip ?_
      refine th_n ?_
      refine wp_seq ?_
      refine wp_block ?_
      refine wp_seq ?_
      obtain ⟨S34, hp35, rd36, up37, bk38⟩ := Hp.lendS hp (i := 0) rfl
      have rl39 := rd36
      obtain ⟨hc40, h⟩ := chk h
      obtain ⟨bb42, bb43, y44, y45, hl41⟩ := RdS.pinPC (p := il0) (o := 1 + (k10).toNat * 1) (Sub.comp (Sub.comp (Sub.snd (E := (Ek.int .i64)) (F := (Ek.pair (Ek.arr 64 Ek.c128) (Ek.pair (Ek.arr 64 Ek.c128) (Ek.pair (Ek.int .i64) (Ek.pair (Ek.int .i64) (Ek.pair Ek.f64 (Ek.pair (Ek.int .i64) (Ek.pair Ek.bool (Ek.pair Ek.bool Ek.c128)))))))))) (Sub.fst (E := (Ek.arr 64 Ek.c128)) (F := (Ek.pair (Ek.arr 64 Ek.c128) (Ek.pair (Ek.int .i64) (Ek.pair (Ek.int .i64) (Ek.pair Ek.f64 (Ek.pair (Ek.int .i64) (Ek.pair Ek.bool (Ek.pair Ek.bool Ek.c128)))))))))) (Sub.arr (F := Ek.c128) (N := 64) (j := k10) hc40.1 hc40.2)) rl39 kl0.1 kl0.2
      obtain ⟨hc46, h⟩ := chk h
      obtain ⟨bb48, bb49, y50, y51, hl47⟩ := RdS.pinPC (p := il0) (o := 65 + ((((IntKind.i64.wrap ((IntKind.i64.wrap ((gt l0 il0).2.2.2.2.1 - k10)) + (64 : Int)))).tmod (64 : Int))).toNat * 1) (Sub.comp (Sub.comp (Sub.snd (E := (Ek.int .i64)) (F := (Ek.pair (Ek.arr 64 Ek.c128) (Ek.pair (Ek.arr 64 Ek.c128) (Ek.pair (Ek.int .i64) (Ek.pair (Ek.int .i64) (Ek.pair Ek.f64 (Ek.pair (Ek.int .i64) (Ek.pair Ek.bool (Ek.pair Ek.bool Ek.c128)))))))))) (Sub.comp (Sub.snd (E := (Ek.arr 64 Ek.c128)) (F := (Ek.pair (Ek.arr 64 Ek.c128) (Ek.pair (Ek.int .i64) (Ek.pair (Ek.int .i64) (Ek.pair Ek.f64 (Ek.pair (Ek.int .i64) (Ek.pair Ek.bool (Ek.pair Ek.bool Ek.c128))))))))) (Sub.fst (E := (Ek.arr 64 Ek.c128)) (F := (Ek.pair (Ek.int .i64) (Ek.pair (Ek.int .i64) (Ek.pair Ek.f64 (Ek.pair (Ek.int .i64) (Ek.pair Ek.bool (Ek.pair Ek.bool Ek.c128)))))))))) (Sub.arr (F := Ek.c128) (N := 64) (j := (((IntKind.i64.wrap ((IntKind.i64.wrap ((gt l0 il0).2.2.2.2.1 - k10)) + (64 : Int)))).tmod (64 : Int))) hc46.1 hc46.2)) rl39 kl0.1 kl0.2
      obtain ⟨q52, hcall53, h⟩ := bnd h
      refine wp_cutN (fun a w => ∃ (v54 : Nat) (v55 : Nat), Fl.rep v54 q52.1 ∧ Fl.rep v55 q52.2 ∧ Fr 146 a [(0, eptr vl0 il0 136), (4, optr v4 0), (8, .float .f64 bb26), (9, .float .f64 bb28), (10, .int .i64 k10), (11, .float .f64 v54), (12, .float .f64 v55)] ∧ Hp S w0 w (Res.sl (Ek.pair (Ek.int .i64) (Ek.pair (Ek.arr 64 Ek.c128) (Ek.pair (Ek.arr 64 Ek.c128) (Ek.pair (Ek.int .i64) (Ek.pair (Ek.int .i64) (Ek.pair Ek.f64 (Ek.pair (Ek.int .i64) (Ek.pair Ek.bool (Ek.pair Ek.bool Ek.c128))))))))) tbl0 vl0 l0 :: Res.obj 58 v4 [.int .i64 (0 : Int), .complex .f64 0 0, .bool false] :: ow)) ?_ ?_
      · have hp := hp35.same (Same.drew w)
        refine dr_begin' (fun a w => ∃ (v54 : Nat) (v55 : Nat), Fl.rep v54 q52.1 ∧ Fl.rep v55 q52.2 ∧ Fr 146 a [(0, eptr vl0 il0 136), (4, optr v4 0), (8, .float .f64 bb26), (9, .float .f64 bb28), (10, .int .i64 k10), (11, .float .f64 v54), (12, .float .f64 v55)] ∧ Hp S w0 w (Res.sl (Ek.pair (Ek.int .i64) (Ek.pair (Ek.arr 64 Ek.c128) (Ek.pair (Ek.arr 64 Ek.c128) (Ek.pair (Ek.int .i64) (Ek.pair (Ek.int .i64) (Ek.pair Ek.f64 (Ek.pair (Ek.int .i64) (Ek.pair Ek.bool (Ek.pair Ek.bool Ek.c128))))))))) tbl0 vl0 l0 :: Res.obj 58 v4 [.int .i64 (0 : Int), .complex .f64 0 0, .bool false] :: ow)) (fun w' => ∃ l, Hp S34 w w' l) [] (by kernel_rfl) ?_
        refine dr_take 0 (eptr vl0 il0 136) rfl (by kernel_rfl) (by kernel_rfl) (by kernel_rfl) (by kernel_rfl) rfl rfl hf (by decide) rfl (fun w hp => ?_) ⟨_, hp⟩ ?_
        · obtain ⟨_, hp⟩ := hp
          refine st_move hf rfl rfl (by decide) ?_
          clear hf; intro a ha hf
          exact st_nil hf (th_n ⟨ha, rfl⟩)
        clear hf; intro a hf
        refine dr_take 1 (.int .i64 k10) rfl (by kernel_rfl) (by kernel_rfl) (by kernel_rfl) (by kernel_rfl) rfl rfl hf (by decide) rfl (fun w hp => ?_) ⟨_, hp⟩ ?_
        · obtain ⟨_, hp⟩ := hp
          refine st_move hf rfl rfl (by decide) ?_
          clear hf; intro a ha hf
          exact st_nil hf (th_n ⟨ha, rfl⟩)
        clear hf; intro a hf
        refine dr_nilE 2 rfl (by kernel_rfl) (by kernel_rfl) (by kernel_rfl) hf (by decide) rfl rfl (Sl.ptr (rl39.sl hp) kl0.1 kl0.2) ?_
        clear hf; intro a hf
        refine dr_take 3 (optr (eptr vl0 il0 136) 1) rfl (by kernel_rfl) (by kernel_rfl) (by kernel_rfl) (by kernel_rfl) rfl rfl hf (by decide) rfl (fun w hp => ?_) ⟨_, hp⟩ ?_
        · obtain ⟨_, hp⟩ := hp
          refine st_faP (off := 1) (sz := 64) hf (by decide) (by kernel_rfl) (by decide) rfl rfl (Sl.isP (rl39.sl hp) kl0.1 kl0.2) ?_
          clear hf; intro a ha hf
          exact st_nil hf (th_n ⟨ha, rfl⟩)
        clear hf; intro a hf
        refine dr_take 4 (optr (eptr vl0 il0 136) (1 + (k10).toNat * 1)) rfl (by kernel_rfl) (by kernel_rfl) (by kernel_rfl) (by kernel_rfl) rfl rfl hf (by decide) rfl (fun w hp => ?_) ⟨_, hp⟩ ?_
        · obtain ⟨_, hp⟩ := hp
          refine st_iaQ (sz := 1) hf (by decide) Try.underlying87 (by kernel_rfl) rfl rfl rfl (Sl.isP (rl39.sl hp) kl0.1 kl0.2) hc40.1 hc40.2 ?_
          clear hf; intro a ha hf
          exact st_nil hf (th_n ⟨ha, rfl⟩)
        clear hf; intro a hf
        refine dr_take 5 (.complex .f64 bb42 bb43) rfl (by kernel_rfl) (by kernel_rfl) (by kernel_rfl) (by kernel_rfl) rfl rfl hf (by decide) rfl (fun w hp => ?_) ⟨_, hp⟩ ?_
        · obtain ⟨_, hp⟩ := hp
          refine st_ldP hf (by decide) pl39 rfl rfl (hl41 _ _ hp) ?_
          clear hf; intro a ha hf
          exact st_nil hf (th_n ⟨ha, rfl⟩)
        clear hf; intro a hf
        refine dr_take 6 (eptr vl0 il0 136) rfl (by kernel_rfl) (by kernel_rfl) (by kernel_rfl) (by kernel_rfl) rfl rfl hf (by decide) rfl (fun w hp => ?_) ⟨_, hp⟩ ?_
        · obtain ⟨_, hp⟩ := hp
          refine st_move hf rfl rfl (by decide) ?_
          clear hf; intro a ha hf
          exact st_nil hf (th_n ⟨ha, rfl⟩)
        clear hf; intro a hf
        refine dr_take 7 (eptr vl0 il0 136) rfl (by kernel_rfl) (by kernel_rfl) (by kernel_rfl) (by kernel_rfl) rfl rfl hf (by decide) rfl (fun w hp => ?_) ⟨_, hp⟩ ?_
        · obtain ⟨_, hp⟩ := hp
          refine st_move hf rfl rfl (by decide) ?_
          clear hf; intro a ha hf
          exact st_nil hf (th_n ⟨ha, rfl⟩)
        clear hf; intro a hf
        refine dr_nilE 8 rfl (by kernel_rfl) (by kernel_rfl) (by kernel_rfl) hf (by decide) rfl rfl (Sl.ptr (rl39.sl hp) kl0.1 kl0.2) ?_
        clear hf; intro a hf
        refine dr_take 9 (optr (eptr vl0 il0 136) 130) rfl (by kernel_rfl) (by kernel_rfl) (by kernel_rfl) (by kernel_rfl) rfl rfl hf (by decide) rfl (fun w hp => ?_) ⟨_, hp⟩ ?_
        · obtain ⟨_, hp⟩ := hp
          refine st_faP (off := 130) (sz := 1) hf (by decide) (by kernel_rfl) (by decide) rfl rfl (Sl.isP (rl39.sl hp) kl0.1 kl0.2) ?_
          clear hf; intro a ha hf
          exact st_nil hf (th_n ⟨ha, rfl⟩)
        clear hf; intro a hf
        refine dr_take 10 (.int .i64 ((gt l0 il0).2.2.2.2.1)) rfl (by kernel_rfl) (by kernel_rfl) (by kernel_rfl) (by kernel_rfl) rfl rfl hf (by decide) rfl (fun w hp => ?_) ⟨_, hp⟩ ?_
        · obtain ⟨_, hp⟩ := hp
          refine st_ldQ (F := (Ek.int .i64)) (yv := (gt l0 il0).2.2.2.2.1) hf (by decide) pl3 (fun x => .int .i64 x) (fun _ _ h => h) rfl rfl (Sl.part (E := (Ek.pair (Ek.int .i64) (Ek.pair (Ek.arr 64 Ek.c128) (Ek.pair (Ek.arr 64 Ek.c128) (Ek.pair (Ek.int .i64) (Ek.pair (Ek.int .i64) (Ek.pair Ek.f64 (Ek.pair (Ek.int .i64) (Ek.pair Ek.bool (Ek.pair Ek.bool Ek.c128)))))))))) (F := (Ek.int .i64)) (o := 130) (Sub.comp (Sub.snd (E := (Ek.int .i64)) (F := (Ek.pair (Ek.arr 64 Ek.c128) (Ek.pair (Ek.arr 64 Ek.c128) (Ek.pair (Ek.int .i64) (Ek.pair (Ek.int .i64) (Ek.pair Ek.f64 (Ek.pair (Ek.int .i64) (Ek.pair Ek.bool (Ek.pair Ek.bool Ek.c128)))))))))) (Sub.comp (Sub.snd (E := (Ek.arr 64 Ek.c128)) (F := (Ek.pair (Ek.arr 64 Ek.c128) (Ek.pair (Ek.int .i64) (Ek.pair (Ek.int .i64) (Ek.pair Ek.f64 (Ek.pair (Ek.int .i64) (Ek.pair Ek.bool (Ek.pair Ek.bool Ek.c128))))))))) (Sub.comp (Sub.snd (E := (Ek.arr 64 Ek.c128)) (F := (Ek.pair (Ek.int .i64) (Ek.pair (Ek.int .i64) (Ek.pair Ek.f64 (Ek.pair (Ek.int .i64) (Ek.pair Ek.bool (Ek.pair Ek.bool Ek.c128)))))))) (Sub.comp (Sub.snd (E := (Ek.int .i64)) (F := (Ek.pair (Ek.int .i64) (Ek.pair Ek.f64 (Ek.pair (Ek.int .i64) (Ek.pair Ek.bool (Ek.pair Ek.bool Ek.c128))))))) (Sub.fst (E := (Ek.int .i64)) (F := (Ek.pair Ek.f64 (Ek.pair (Ek.int .i64) (Ek.pair Ek.bool (Ek.pair Ek.bool Ek.c128)))))))))) (rl39.sl hp) kl0.1 kl0.2) ?_
          clear hf; intro a ha hf
          exact st_nil hf (th_n ⟨ha, rfl⟩)
        clear hf; intro a hf
        refine dr_take 11 (.int .i64 k10) rfl (by kernel_rfl) (by kernel_rfl) (by kernel_rfl) (by kernel_rfl) rfl rfl hf (by decide) rfl (fun w hp => ?_) ⟨_, hp⟩ ?_
        · obtain ⟨_, hp⟩ := hp
          refine st_move hf rfl rfl (by decide) ?_
          clear hf; intro a ha hf
          exact st_nil hf (th_n ⟨ha, rfl⟩)
        clear hf; intro a hf
        refine dr_take 12 (.int .i64 (IntKind.i64.wrap ((gt l0 il0).2.2.2.2.1 - k10))) rfl (by kernel_rfl) (by kernel_rfl) (by kernel_rfl) (by kernel_rfl) rfl rfl hf (by decide) rfl (fun w hp => ?_) ⟨_, hp⟩ ?_
        · obtain ⟨_, hp⟩ := hp
          refine st_isub hf (by decide) rfl rfl rfl ?_
          clear hf; intro a ha hf
          exact st_nil hf (th_n ⟨ha, rfl⟩)
        clear hf; intro a hf
        refine dr_take 13 (.int .i64 (IntKind.i64.wrap ((IntKind.i64.wrap ((gt l0 il0).2.2.2.2.1 - k10)) + (64 : Int)))) rfl (by kernel_rfl) (by kernel_rfl) (by kernel_rfl) (by kernel_rfl) rfl rfl hf (by decide) rfl (fun w hp => ?_) ⟨_, hp⟩ ?_
        · obtain ⟨_, hp⟩ := hp
          refine st_iadd hf (by decide) rfl rfl rfl ?_
          clear hf; intro a ha hf
          exact st_nil hf (th_n ⟨ha, rfl⟩)
        clear hf; intro a hf
        refine dr_take 14 (.int .i64 (((IntKind.i64.wrap ((IntKind.i64.wrap ((gt l0 il0).2.2.2.2.1 - k10)) + (64 : Int)))).tmod (64 : Int))) rfl (by kernel_rfl) (by kernel_rfl) (by kernel_rfl) (by kernel_rfl) rfl rfl hf (by decide) rfl (fun w hp => ?_) ⟨_, hp⟩ ?_
        · obtain ⟨_, hp⟩ := hp
          refine st_irem hf (by decide) rfl rfl rfl (by decide) ?_
          clear hf; intro a ha hf
          exact st_nil hf (th_n ⟨ha, rfl⟩)
        clear hf; intro a hf
        refine dr_nilE 15 rfl (by kernel_rfl) (by kernel_rfl) (by kernel_rfl) hf (by decide) rfl rfl (Sl.ptr (rl39.sl hp) kl0.1 kl0.2) ?_
        clear hf; intro a hf
        refine dr_take 16 (optr (eptr vl0 il0 136) 65) rfl (by kernel_rfl) (by kernel_rfl) (by kernel_rfl) (by kernel_rfl) rfl rfl hf (by decide) rfl (fun w hp => ?_) ⟨_, hp⟩ ?_
        · obtain ⟨_, hp⟩ := hp
          refine st_faP (off := 65) (sz := 64) hf (by decide) (by kernel_rfl) (by decide) rfl rfl (Sl.isP (rl39.sl hp) kl0.1 kl0.2) ?_
          clear hf; intro a ha hf
          exact st_nil hf (th_n ⟨ha, rfl⟩)
        clear hf; intro a hf
        refine dr_take 17 (optr (eptr vl0 il0 136) (65 + ((((IntKind.i64.wrap ((IntKind.i64.wrap ((gt l0 il0).2.2.2.2.1 - k10)) + (64 : Int)))).tmod (64 : Int))).toNat * 1)) rfl (by kernel_rfl) (by kernel_rfl) (by kernel_rfl) (by kernel_rfl) rfl rfl hf (by decide) rfl (fun w hp => ?_) ⟨_, hp⟩ ?_
        · obtain ⟨_, hp⟩ := hp
          refine st_iaQ (sz := 1) hf (by decide) Try.underlying87 (by kernel_rfl) rfl rfl rfl (Sl.isP (rl39.sl hp) kl0.1 kl0.2) hc46.1 hc46.2 ?_
          clear hf; intro a ha hf
          exact st_nil hf (th_n ⟨ha, rfl⟩)
        clear hf; intro a hf
        refine dr_take 18 (.complex .f64 bb48 bb49) rfl (by kernel_rfl) (by kernel_rfl) (by kernel_rfl) (by kernel_rfl) rfl rfl hf (by decide) rfl (fun w hp => ?_) ⟨_, hp⟩ ?_
        · obtain ⟨_, hp⟩ := hp
          refine st_ldP hf (by decide) pl39 rfl rfl (hl47 _ _ hp) ?_
          clear hf; intro a ha hf
          exact st_nil hf (th_n ⟨ha, rfl⟩)
        clear hf; intro a hf
        refine dr_one 19 rfl (by kernel_rfl) ?_
        refine st_call hf (by decide) Try.func48 rfl rfl rfl rfl rfl (f_feedback_times_c hp _ _ _ (show Fl.rep bb42 ((gt ((gt l0 il0).2.1) k10)).1 from y44) (show Fl.rep bb43 ((gt ((gt l0 il0).2.1) k10)).2 from y45) _ _ _ (show Fl.rep bb48 ((gt ((gt l0 il0).2.2.1) (((IntKind.i64.wrap ((IntKind.i64.wrap ((gt l0 il0).2.2.2.2.1 - k10)) + (64 : Int)))).tmod (64 : Int)))).1 from y50) (show Fl.rep bb49 ((gt ((gt l0 il0).2.2.1) (((IntKind.i64.wrap ((IntKind.i64.wrap ((gt l0 il0).2.2.2.2.1 - k10)) + (64 : Int)))).tmod (64 : Int)))).2 from y51) hcall53) ?_
        rintro _ w ⟨v54, v55, rfl, y56, y57, hp0⟩
        clear hp; have hp := hp0; clear hp0
        replace hp : Hp _ _ _ (Res.obj 58 v4 [.int .i64 (0 : Int), .complex .f64 0 0, .bool false] :: ow) := hp
        refine ⟨_, rfl, ?_⟩
        clear hf; intro a hf
        refine st_nil hf (th_n ⟨fun _ _ => ⟨_, hp⟩, ?_⟩)
        refine dr_take 20 (.tuple #[.float .f64 v54, .float .f64 v55]) rfl (by kernel_rfl) (by kernel_rfl) (by kernel_rfl) (by kernel_rfl) rfl rfl hf (by decide) rfl (fun w hp => ?_) ⟨_, hp⟩ ?_
        · obtain ⟨_, hp⟩ := hp
          refine st_move hf rfl rfl (by decide) ?_
          clear hf; intro a ha hf
          exact st_nil hf (th_n ⟨ha, rfl⟩)
        clear hf; intro a hf
        refine dr_take 21 (.float .f64 v54) rfl (by kernel_rfl) (by kernel_rfl) (by kernel_rfl) (by kernel_rfl) rfl rfl hf (by decide) rfl (fun w hp => ?_) ⟨_, hp⟩ ?_
        · obtain ⟨_, hp⟩ := hp
          refine st_extract hf (by decide) rfl rfl rfl ?_
          clear hf; intro a ha hf
          exact st_nil hf (th_n ⟨ha, rfl⟩)
        clear hf; intro a hf
        refine dr_take 22 (.float .f64 v55) rfl (by kernel_rfl) (by kernel_rfl) (by kernel_rfl) (by kernel_rfl) rfl rfl hf (by decide) rfl (fun w hp => ?_) ⟨_, hp⟩ ?_
        · obtain ⟨_, hp⟩ := hp
          refine st_extract hf (by decide) rfl rfl rfl ?_
          clear hf; intro a ha hf
          exact st_nil hf (th_n ⟨ha, rfl⟩)
        clear hf; intro a hf
        refine dr_take 23 (.float .f64 v54) rfl (by kernel_rfl) (by kernel_rfl) (by kernel_rfl) (by kernel_rfl) rfl rfl hf (by decide) rfl (fun w hp => ?_) ⟨_, hp⟩ ?_
        · obtain ⟨_, hp⟩ := hp
          refine st_assign hf rfl rfl (by decide) ?_
          clear hf; intro a ha hf
          exact st_nil hf (th_n ⟨ha, rfl⟩)
        clear hf; intro a hf
        refine dr_take 24 (.float .f64 v55) rfl (by kernel_rfl) (by kernel_rfl) (by kernel_rfl) (by kernel_rfl) rfl rfl hf (by decide) rfl (fun w hp => ?_) ⟨_, hp⟩ ?_
        · obtain ⟨_, hp⟩ := hp
          refine st_assign hf rfl rfl (by decide) ?_
          clear hf; intro a ha hf
          exact st_nil hf (th_n ⟨ha, rfl⟩)
        clear hf; intro a hf
        refine dr_end (by kernel_rfl) ?_ _
        have hp := bk38 _ _ hp
        exact ⟨v54, v55, y56, y57, hf.sub ⟨rfl, rfl, rfl, rfl, rfl, rfl, rfl, trivial⟩, hp⟩
      rintro a w ⟨v54, v55, y56, y57, hf, hp⟩
      refine th_n ?_
      refine wp_seq ?_
      refine wp_reg ?_
      refine st_move hf rfl rfl (by decide) ?_
      clear hf; intro a ha hf; clear ha
      refine st_move hf rfl rfl (by decide) ?_
      clear hf; intro a ha hf; clear ha
      refine st_farith (op := .sub) rfl hf (by decide) hp rfl rfl rfl (show Fl.rep bb26 re8 from y27) (show Fl.rep v54 q52.1 from y56) ?_
      clear hf; intro a w bb58 y59 hf hp0; clear hp; have hp := hp0; clear hp0
      replace hp : Hp _ _ _ (Res.sl (Ek.pair (Ek.int .i64) (Ek.pair (Ek.arr 64 Ek.c128) (Ek.pair (Ek.arr 64 Ek.c128) (Ek.pair (Ek.int .i64) (Ek.pair (Ek.int .i64) (Ek.pair Ek.f64 (Ek.pair (Ek.int .i64) (Ek.pair Ek.bool (Ek.pair Ek.bool Ek.c128))))))))) tbl0 vl0 l0 :: Res.obj 58 v4 [.int .i64 (0 : Int), .complex .f64 0 0, .bool false] :: ow) := hp
      refine st_assign hf rfl rfl (by decide) ?_
      clear hf; intro a ha hf; clear ha
      refine st_nil hf ?_
      refine th_n ?_
      refine wp_reg ?_
      refine st_move hf rfl rfl (by decide) ?_
      clear hf; intro a ha hf; clear ha
      refine st_move hf rfl rfl (by decide) ?_
      clear hf; intro a ha hf; clear ha
      refine st_farith (op := .sub) rfl hf (by decide) hp rfl rfl rfl (show Fl.rep bb28 im9 from y29) (show Fl.rep v55 q52.2 from y57) ?_
      clear hf; intro a w bb60 y61 hf hp0; clear hp; have hp := hp0; clear hp0
      replace hp : Hp _ _ _ (Res.sl (Ek.pair (Ek.int .i64) (Ek.pair (Ek.arr 64 Ek.c128) (Ek.pair (Ek.arr 64 Ek.c128) (Ek.pair (Ek.int .i64) (Ek.pair (Ek.int .i64) (Ek.pair Ek.f64 (Ek.pair (Ek.int .i64) (Ek.pair Ek.bool (Ek.pair Ek.bool Ek.c128))))))))) tbl0 vl0 l0 :: Res.obj 58 v4 [.int .i64 (0 : Int), .complex .f64 0 0, .bool false] :: ow) := hp
      refine st_assign hf rfl rfl (by decide) ?_
      clear hf; intro a ha hf; clear ha
      refine st_nil hf ?_
      refine ib_n ?_
      refine th_n ?_
      refine wp_reg ?_
      refine st_move hf rfl rfl (by decide) ?_
      clear hf; intro a ha hf; clear ha
      refine st_iadd hf (by decide) rfl rfl rfl ?_
      clear hf; intro a ha hf; clear ha
      refine st_assign hf rfl rfl (by decide) ?_
      clear hf; intro a ha hf; clear ha
      refine st_nil hf ?_
      obtain rfl := Option.some.inj h
      exact rnd_l ⟨_, _, hf.sub ⟨rfl, rfl, rfl, rfl, rfl, trivial⟩, y59, y61, hp⟩
    replace h := ifF h hb
    refine wp_exit ?_
    refine th_e ?_
    obtain rfl := Option.some.inj h
    exact rnd_r (by simp) ⟨rfl, _, _, hf.sub ⟨rfl, rfl, rfl, rfl, trivial⟩, y27, y29, hp⟩
  clear hl hf hp
  intro e a w hne hO
  obtain ⟨rfl, bb30, bb32, hf, y31, y33, hp⟩ := hO
  refine ib_same ?_
  refine th_n ?_
  refine wp_seq ?_
  refine wp_reg ?_
  refine st_move hf rfl rfl (by decide) ?_
  clear hf; intro a ha hf; clear ha
  refine st_move hf rfl rfl (by decide) ?_
  clear hf; intro a ha hf; clear ha
  refine st_complex hf (by decide) rfl rfl rfl ?_
  clear hf; intro a ha hf; clear ha
  refine st_move hf rfl rfl (by decide) ?_
  clear hf; intro a ha hf; clear ha
  refine st_nilE hf (by decide) rfl rfl (Sl.ptr (hp.sl (i := 0) rfl) kl0.1 kl0.2) ?_
  clear hf; intro a ha hf; clear ha
  refine st_faP (off := 132) (sz := 1) hf (by decide) (by kernel_rfl) (by decide) rfl rfl (Sl.isP (hp.sl (i := 0) rfl) kl0.1 kl0.2) ?_
  clear hf; intro a ha hf; clear ha
  refine st_ldQ (F := (Ek.int .i64)) (yv := (gt l0 il0).2.2.2.2.2.2.1) hf (by decide) pl3 (fun x => .int .i64 x) (fun _ _ h => h) rfl rfl (Sl.part (E := (Ek.pair (Ek.int .i64) (Ek.pair (Ek.arr 64 Ek.c128) (Ek.pair (Ek.arr 64 Ek.c128) (Ek.pair (Ek.int .i64) (Ek.pair (Ek.int .i64) (Ek.pair Ek.f64 (Ek.pair (Ek.int .i64) (Ek.pair Ek.bool (Ek.pair Ek.bool Ek.c128)))))))))) (F := (Ek.int .i64)) (o := 132) (Sub.comp (Sub.snd (E := (Ek.int .i64)) (F := (Ek.pair (Ek.arr 64 Ek.c128) (Ek.pair (Ek.arr 64 Ek.c128) (Ek.pair (Ek.int .i64) (Ek.pair (Ek.int .i64) (Ek.pair Ek.f64 (Ek.pair (Ek.int .i64) (Ek.pair Ek.bool (Ek.pair Ek.bool Ek.c128)))))))))) (Sub.comp (Sub.snd (E := (Ek.arr 64 Ek.c128)) (F := (Ek.pair (Ek.arr 64 Ek.c128) (Ek.pair (Ek.int .i64) (Ek.pair (Ek.int .i64) (Ek.pair Ek.f64 (Ek.pair (Ek.int .i64) (Ek.pair Ek.bool (Ek.pair Ek.bool Ek.c128))))))))) (Sub.comp (Sub.snd (E := (Ek.arr 64 Ek.c128)) (F := (Ek.pair (Ek.int .i64) (Ek.pair (Ek.int .i64) (Ek.pair Ek.f64 (Ek.pair (Ek.int .i64) (Ek.pair Ek.bool (Ek.pair Ek.bool Ek.c128)))))))) (Sub.comp (Sub.snd (E := (Ek.int .i64)) (F := (Ek.pair (Ek.int .i64) (Ek.pair Ek.f64 (Ek.pair (Ek.int .i64) (Ek.pair Ek.bool (Ek.pair Ek.bool Ek.c128))))))) (Sub.comp (Sub.snd (E := (Ek.int .i64)) (F := (Ek.pair Ek.f64 (Ek.pair (Ek.int .i64) (Ek.pair Ek.bool (Ek.pair Ek.bool Ek.c128)))))) (Sub.comp (Sub.snd (E := Ek.f64) (F := (Ek.pair (Ek.int .i64) (Ek.pair Ek.bool (Ek.pair Ek.bool Ek.c128))))) (Sub.fst (E := (Ek.int .i64)) (F := (Ek.pair Ek.bool (Ek.pair Ek.bool Ek.c128)))))))))) (hp.sl (i := 0) rfl) kl0.1 kl0.2) ?_
  clear hf; intro a ha hf; clear ha
  obtain ⟨q63, hcall64, h⟩ := bnd h
  refine st_call hf (by decide) Try.func49 rfl rfl rfl rfl rfl (f_feedback_turned_c hp _ _ _ (show Fl.rep bb30 ((q62.1, q62.2)).1 from y31) (show Fl.rep bb32 ((q62.1, q62.2)).2 from y33) _ hcall64) ?_
  rintro _ w ⟨v65, v66, rfl, y67, y68, hp0⟩
  clear hp; have hp := hp0; clear hp0
  replace hp : Hp _ _ _ (Res.sl (Ek.pair (Ek.int .i64) (Ek.pair (Ek.arr 64 Ek.c128) (Ek.pair (Ek.arr 64 Ek.c128) (Ek.pair (Ek.int .i64) (Ek.pair (Ek.int .i64) (Ek.pair Ek.f64 (Ek.pair (Ek.int .i64) (Ek.pair Ek.bool (Ek.pair Ek.bool Ek.c128))))))))) tbl0 vl0 l0 :: Res.obj 58 v4 [.int .i64 (0 : Int), .complex .f64 0 0, .bool false] :: ow) := hp
  refine ⟨_, rfl, ?_⟩
  clear hf; intro a hf
  refine st_assign hf rfl rfl (by decide) ?_
  clear hf; intro a ha hf; clear ha
  refine st_nil hf ?_
  refine th_n ?_
  refine wp_seq ?_
  obtain ⟨S69, hp70, rd71, up72, bk73⟩ := Hp.lendS hp (i := 0) rfl
  have rl74 := rd71
  obtain ⟨bb76, y78, hl75⟩ := RdS.pinPF (p := il0) (o := 131) (Sub.comp (Sub.snd (E := (Ek.int .i64)) (F := (Ek.pair (Ek.arr 64 Ek.c128) (Ek.pair (Ek.arr 64 Ek.c128) (Ek.pair (Ek.int .i64) (Ek.pair (Ek.int .i64) (Ek.pair Ek.f64 (Ek.pair (Ek.int .i64) (Ek.pair Ek.bool (Ek.pair Ek.bool Ek.c128)))))))))) (Sub.comp (Sub.snd (E := (Ek.arr 64 Ek.c128)) (F := (Ek.pair (Ek.arr 64 Ek.c128) (Ek.pair (Ek.int .i64) (Ek.pair (Ek.int .i64) (Ek.pair Ek.f64 (Ek.pair (Ek.int .i64) (Ek.pair Ek.bool (Ek.pair Ek.bool Ek.c128))))))))) (Sub.comp (Sub.snd (E := (Ek.arr 64 Ek.c128)) (F := (Ek.pair (Ek.int .i64) (Ek.pair (Ek.int .i64) (Ek.pair Ek.f64 (Ek.pair (Ek.int .i64) (Ek.pair Ek.bool (Ek.pair Ek.bool Ek.c128)))))))) (Sub.comp (Sub.snd (E := (Ek.int .i64)) (F := (Ek.pair (Ek.int .i64) (Ek.pair Ek.f64 (Ek.pair (Ek.int .i64) (Ek.pair Ek.bool (Ek.pair Ek.bool Ek.c128))))))) (Sub.comp (Sub.snd (E := (Ek.int .i64)) (F := (Ek.pair Ek.f64 (Ek.pair (Ek.int .i64) (Ek.pair Ek.bool (Ek.pair Ek.bool Ek.c128)))))) (Sub.fst (E := Ek.f64) (F := (Ek.pair (Ek.int .i64) (Ek.pair Ek.bool (Ek.pair Ek.bool Ek.c128)))))))))) rl74 kl0.1 kl0.2
  obtain ⟨q80, hq81, h⟩ := bnd h
  obtain ⟨bb83, y85, hl82⟩ := RdS.pinPF (p := il0) (o := 131) (Sub.comp (Sub.snd (E := (Ek.int .i64)) (F := (Ek.pair (Ek.arr 64 Ek.c128) (Ek.pair (Ek.arr 64 Ek.c128) (Ek.pair (Ek.int .i64) (Ek.pair (Ek.int .i64) (Ek.pair Ek.f64 (Ek.pair (Ek.int .i64) (Ek.pair Ek.bool (Ek.pair Ek.bool Ek.c128)))))))))) (Sub.comp (Sub.snd (E := (Ek.arr 64 Ek.c128)) (F := (Ek.pair (Ek.arr 64 Ek.c128) (Ek.pair (Ek.int .i64) (Ek.pair (Ek.int .i64) (Ek.pair Ek.f64 (Ek.pair (Ek.int .i64) (Ek.pair Ek.bool (Ek.pair Ek.bool Ek.c128))))))))) (Sub.comp (Sub.snd (E := (Ek.arr 64 Ek.c128)) (F := (Ek.pair (Ek.int .i64) (Ek.pair (Ek.int .i64) (Ek.pair Ek.f64 (Ek.pair (Ek.int .i64) (Ek.pair Ek.bool (Ek.pair Ek.bool Ek.c128)))))))) (Sub.comp (Sub.snd (E := (Ek.int .i64)) (F := (Ek.pair (Ek.int .i64) (Ek.pair Ek.f64 (Ek.pair (Ek.int .i64) (Ek.pair Ek.bool (Ek.pair Ek.bool Ek.c128))))))) (Sub.comp (Sub.snd (E := (Ek.int .i64)) (F := (Ek.pair Ek.f64 (Ek.pair (Ek.int .i64) (Ek.pair Ek.bool (Ek.pair Ek.bool Ek.c128)))))) (Sub.fst (E := Ek.f64) (F := (Ek.pair (Ek.int .i64) (Ek.pair Ek.bool (Ek.pair Ek.bool Ek.c128)))))))))) rl74 kl0.1 kl0.2
  obtain ⟨q87, hq88, h⟩ := bnd h
  obtain ⟨q89, hq90, h⟩ := bnd h
  have hq91 := Option.some.inj hq90
  refine wp_cutN (fun a w => Fr 146 a [(0, eptr vl0 il0 136), (4, optr v4 0)] ∧ Hp S w0 w (Res.sl (Ek.pair (Ek.int .i64) (Ek.pair (Ek.arr 64 Ek.c128) (Ek.pair (Ek.arr 64 Ek.c128) (Ek.pair (Ek.int .i64) (Ek.pair (Ek.int .i64) (Ek.pair Ek.f64 (Ek.pair (Ek.int .i64) (Ek.pair Ek.bool (Ek.pair Ek.bool Ek.c128))))))))) tbl0 vl0 q89 :: Res.obj 58 v4 [.int .i64 (0 : Int), .complex .f64 0 0, .bool false] :: ow)) ?_ ?_
  · have hp := hp70.same (Same.drew w)
    refine dr_begin' (fun a w => Fr 146 a [(0, eptr vl0 il0 136), (4, optr v4 0)] ∧ Hp S w0 w (Res.sl (Ek.pair (Ek.int .i64) (Ek.pair (Ek.arr 64 Ek.c128) (Ek.pair (Ek.arr 64 Ek.c128) (Ek.pair (Ek.int .i64) (Ek.pair (Ek.int .i64) (Ek.pair Ek.f64 (Ek.pair (Ek.int .i64) (Ek.pair Ek.bool (Ek.pair Ek.bool Ek.c128))))))))) tbl0 vl0 q89 :: Res.obj 58 v4 [.int .i64 (0 : Int), .complex .f64 0 0, .bool false] :: ow)) (fun w' => ∃ l, Hp S69 w w' l) [18] (by kernel_rfl) ?_
    refine dr_takeP 0 (eptr vl0 il0 136) rfl (by kernel_rfl) (by kernel_rfl) (by kernel_rfl) rfl rfl hf (by decide) rfl (fun w => ?_) ?_
    · skip
      refine st_move hf rfl rfl (by decide) ?_
      clear hf; intro a ha hf
      exact st_nil hf (th_n ⟨ha, rfl⟩)
    clear hf; intro a hf
    refine dr_takeP 1 (.complex .f64 v65 v66) rfl (by kernel_rfl) (by kernel_rfl) (by kernel_rfl) rfl rfl hf (by decide) rfl (fun w => ?_) ?_
    · skip
      refine st_move hf rfl rfl (by decide) ?_
      clear hf; intro a ha hf
      exact st_nil hf (th_n ⟨ha, rfl⟩)
    clear hf; intro a hf
    refine dr_takeP 2 (.float .f64 v65) rfl (by kernel_rfl) (by kernel_rfl) (by kernel_rfl) rfl rfl hf (by decide) rfl (fun w => ?_) ?_
    · skip
      refine st_real hf (by decide) rfl rfl ?_
      clear hf; intro a ha hf
      exact st_nil hf (th_n ⟨ha, rfl⟩)
    clear hf; intro a hf
    refine dr_takeP 3 (eptr vl0 il0 136) rfl (by kernel_rfl) (by kernel_rfl) (by kernel_rfl) rfl rfl hf (by decide) rfl (fun w => ?_) ?_
    · skip
      refine st_move hf rfl rfl (by decide) ?_
      clear hf; intro a ha hf
      exact st_nil hf (th_n ⟨ha, rfl⟩)
    clear hf; intro a hf
    refine dr_nilE 4 rfl (by kernel_rfl) (by kernel_rfl) (by kernel_rfl) hf (by decide) rfl rfl (Sl.ptr rl74.any kl0.1 kl0.2) ?_
    clear hf; intro a hf
    refine dr_takeP 5 (optr (eptr vl0 il0 136) 131) rfl (by kernel_rfl) (by kernel_rfl) (by kernel_rfl) rfl rfl hf (by decide) rfl (fun w => ?_) ?_
    · skip
      refine st_faP (off := 131) (sz := 1) hf (by decide) (by kernel_rfl) (by decide) rfl rfl (Sl.isP rl74.any kl0.1 kl0.2) ?_
      clear hf; intro a ha hf
      exact st_nil hf (th_n ⟨ha, rfl⟩)
    clear hf; intro a hf
    refine dr_take2 6 (.float .f64 bb76) rfl (by kernel_rfl) (by kernel_rfl) (by kernel_rfl) (by kernel_rfl) (by kernel_rfl) rfl rfl hf (by decide) rfl (fun w hp => ?_) ⟨_, hp⟩ ?_
    · obtain ⟨_, hp⟩ := hp
      refine st_ldP hf (by decide) pl33 rfl rfl (hl75 _ _ hp) ?_
      clear hf; intro a ha hf
      exact st_nil hf (th_n ⟨ha, rfl⟩)
    clear hf; intro a hf
    refine dr_takeP 7 (.float .f64 (flb q80)) rfl (by kernel_rfl) (by kernel_rfl) (by kernel_rfl) rfl rfl hf (by decide) rfl (fun w => ?_) ?_
    · skip
      refine st_fs (op := .quo) rfl hf (by decide) rfl rfl rfl (show Fl.rep v65 q63.1 from y67) (show Fl.rep bb76 ((gt l0 il0).2.2.2.2.2.1) from y78) hq81 ?_
      clear hf; intro a ha hf
      exact st_nil hf (th_n ⟨ha, rfl⟩)
    clear hf; intro a hf
    refine dr_takeP 8 (.complex .f64 v65 v66) rfl (by kernel_rfl) (by kernel_rfl) (by kernel_rfl) rfl rfl hf (by decide) rfl (fun w => ?_) ?_
    · skip
      refine st_move hf rfl rfl (by decide) ?_
      clear hf; intro a ha hf
      exact st_nil hf (th_n ⟨ha, rfl⟩)
    clear hf; intro a hf
    refine dr_takeP 9 (.float .f64 v66) rfl (by kernel_rfl) (by kernel_rfl) (by kernel_rfl) rfl rfl hf (by decide) rfl (fun w => ?_) ?_
    · skip
      refine st_imag hf (by decide) rfl rfl ?_
      clear hf; intro a ha hf
      exact st_nil hf (th_n ⟨ha, rfl⟩)
    clear hf; intro a hf
    refine dr_takeP 10 (eptr vl0 il0 136) rfl (by kernel_rfl) (by kernel_rfl) (by kernel_rfl) rfl rfl hf (by decide) rfl (fun w => ?_) ?_
    · skip
      refine st_move hf rfl rfl (by decide) ?_
      clear hf; intro a ha hf
      exact st_nil hf (th_n ⟨ha, rfl⟩)
    clear hf; intro a hf
    refine dr_nilE 11 rfl (by kernel_rfl) (by kernel_rfl) (by kernel_rfl) hf (by decide) rfl rfl (Sl.ptr rl74.any kl0.1 kl0.2) ?_
    clear hf; intro a hf
    refine dr_takeP 12 (optr (eptr vl0 il0 136) 131) rfl (by kernel_rfl) (by kernel_rfl) (by kernel_rfl) rfl rfl hf (by decide) rfl (fun w => ?_) ?_
    · skip
      refine st_faP (off := 131) (sz := 1) hf (by decide) (by kernel_rfl) (by decide) rfl rfl (Sl.isP rl74.any kl0.1 kl0.2) ?_
      clear hf; intro a ha hf
      exact st_nil hf (th_n ⟨ha, rfl⟩)
    clear hf; intro a hf
    refine dr_take2 13 (.float .f64 bb83) rfl (by kernel_rfl) (by kernel_rfl) (by kernel_rfl) (by kernel_rfl) (by kernel_rfl) rfl rfl hf (by decide) rfl (fun w hp => ?_) ⟨_, hp⟩ ?_
    · obtain ⟨_, hp⟩ := hp
      refine st_ldP hf (by decide) pl33 rfl rfl (hl82 _ _ hp) ?_
      clear hf; intro a ha hf
      exact st_nil hf (th_n ⟨ha, rfl⟩)
    clear hf; intro a hf
    refine dr_takeP 14 (.float .f64 (flb q87)) rfl (by kernel_rfl) (by kernel_rfl) (by kernel_rfl) rfl rfl hf (by decide) rfl (fun w => ?_) ?_
    · skip
      refine st_fs (op := .quo) rfl hf (by decide) rfl rfl rfl (show Fl.rep v66 q63.2 from y68) (show Fl.rep bb83 ((gt l0 il0).2.2.2.2.2.1) from y85) hq88 ?_
      clear hf; intro a ha hf
      exact st_nil hf (th_n ⟨ha, rfl⟩)
    clear hf; intro a hf
    refine dr_takeP 15 (.complex .f64 (flb q80) (flb q87)) rfl (by kernel_rfl) (by kernel_rfl) (by kernel_rfl) rfl rfl hf (by decide) rfl (fun w => ?_) ?_
    · skip
      refine st_complex hf (by decide) rfl rfl rfl ?_
      clear hf; intro a ha hf
      exact st_nil hf (th_n ⟨ha, rfl⟩)
    clear hf; intro a hf
    refine dr_nilE 16 rfl (by kernel_rfl) (by kernel_rfl) (by kernel_rfl) hf (by decide) rfl rfl (Sl.ptr rl74.any kl0.1 kl0.2) ?_
    clear hf; intro a hf
    refine dr_takeP 17 (optr (eptr vl0 il0 136) 135) rfl (by kernel_rfl) (by kernel_rfl) (by kernel_rfl) rfl rfl hf (by decide) rfl (fun w => ?_) ?_
    · skip
      refine st_faP (off := 135) (sz := 1) hf (by decide) (by kernel_rfl) (by decide) rfl rfl (Sl.isP rl74.any kl0.1 kl0.2) ?_
      clear hf; intro a ha hf
      exact st_nil hf (th_n ⟨ha, rfl⟩)
    clear hf; intro a hf
    have hp := bk73 _ _ hp
    refine dr_one 18 rfl (by kernel_rfl) ?_
    refine st_stQ (E := (Ek.pair (Ek.int .i64) (Ek.pair (Ek.arr 64 Ek.c128) (Ek.pair (Ek.arr 64 Ek.c128) (Ek.pair (Ek.int .i64) (Ek.pair (Ek.int .i64) (Ek.pair Ek.f64 (Ek.pair (Ek.int .i64) (Ek.pair Ek.bool (Ek.pair Ek.bool Ek.c128)))))))))) (F := Ek.c128) (o := 135) (Sub.comp (Sub.snd (E := (Ek.int .i64)) (F := (Ek.pair (Ek.arr 64 Ek.c128) (Ek.pair (Ek.arr 64 Ek.c128) (Ek.pair (Ek.int .i64) (Ek.pair (Ek.int .i64) (Ek.pair Ek.f64 (Ek.pair (Ek.int .i64) (Ek.pair Ek.bool (Ek.pair Ek.bool Ek.c128)))))))))) (Sub.comp (Sub.snd (E := (Ek.arr 64 Ek.c128)) (F := (Ek.pair (Ek.arr 64 Ek.c128) (Ek.pair (Ek.int .i64) (Ek.pair (Ek.int .i64) (Ek.pair Ek.f64 (Ek.pair (Ek.int .i64) (Ek.pair Ek.bool (Ek.pair Ek.bool Ek.c128))))))))) (Sub.comp (Sub.snd (E := (Ek.arr 64 Ek.c128)) (F := (Ek.pair (Ek.int .i64) (Ek.pair (Ek.int .i64) (Ek.pair Ek.f64 (Ek.pair (Ek.int .i64) (Ek.pair Ek.bool (Ek.pair Ek.bool Ek.c128)))))))) (Sub.comp (Sub.snd (E := (Ek.int .i64)) (F := (Ek.pair (Ek.int .i64) (Ek.pair Ek.f64 (Ek.pair (Ek.int .i64) (Ek.pair Ek.bool (Ek.pair Ek.bool Ek.c128))))))) (Sub.comp (Sub.snd (E := (Ek.int .i64)) (F := (Ek.pair Ek.f64 (Ek.pair (Ek.int .i64) (Ek.pair Ek.bool (Ek.pair Ek.bool Ek.c128)))))) (Sub.comp (Sub.snd (E := Ek.f64) (F := (Ek.pair (Ek.int .i64) (Ek.pair Ek.bool (Ek.pair Ek.bool Ek.c128))))) (Sub.comp (Sub.snd (E := (Ek.int .i64)) (F := (Ek.pair Ek.bool (Ek.pair Ek.bool Ek.c128)))) (Sub.comp (Sub.snd (E := Ek.bool) (F := (Ek.pair Ek.bool Ek.c128))) (Sub.snd (E := Ek.bool) (F := Ek.c128)))))))))) hf (by kernel_rfl) hp (i := 0) rfl rfl rfl rfl (show Ek.c128.rep [.complex .f64 (flb q80) (flb q87)] (q80, q87) from ⟨_, _, rfl, (farithS_rep hq81), (farithS_rep hq88)⟩) kl0.1 kl0.2 ?_
    clear hf; intro a w hf hp0; clear hp; have hp := hp0; clear hp0
    replace hp : Hp _ _ _ (Res.sl (Ek.pair (Ek.int .i64) (Ek.pair (Ek.arr 64 Ek.c128) (Ek.pair (Ek.arr 64 Ek.c128) (Ek.pair (Ek.int .i64) (Ek.pair (Ek.int .i64) (Ek.pair Ek.f64 (Ek.pair (Ek.int .i64) (Ek.pair Ek.bool (Ek.pair Ek.bool Ek.c128))))))))) tbl0 vl0 (l0.set (il0).toNat ((gt l0 il0).1, (gt l0 il0).2.1, (gt l0 il0).2.2.1, (gt l0 il0).2.2.2.1, (gt l0 il0).2.2.2.2.1, (gt l0 il0).2.2.2.2.2.1, (gt l0 il0).2.2.2.2.2.2.1, (gt l0 il0).2.2.2.2.2.2.2.1, (gt l0 il0).2.2.2.2.2.2.2.2.1, (q80, q87))) :: Res.obj 58 v4 [.int .i64 (0 : Int), .complex .f64 0 0, .bool false] :: ow) := hp
    rw [hq91] at hp
    replace hp : Hp _ _ _ (Res.sl (Ek.pair (Ek.int .i64) (Ek.pair (Ek.arr 64 Ek.c128) (Ek.pair (Ek.arr 64 Ek.c128) (Ek.pair (Ek.int .i64) (Ek.pair (Ek.int .i64) (Ek.pair Ek.f64 (Ek.pair (Ek.int .i64) (Ek.pair Ek.bool (Ek.pair Ek.bool Ek.c128))))))))) tbl0 vl0 q89 :: Res.obj 58 v4 [.int .i64 (0 : Int), .complex .f64 0 0, .bool false] :: ow) := hp
    refine st_nil hf (th_n ⟨fun hn => absurd hn (by decide), ?_⟩)
    refine dr_end (by kernel_rfl) ?_ _
    exact ⟨hf.sub ⟨rfl, rfl, trivial⟩, hp⟩
  rintro a w ⟨hf, hp⟩
  refine th_n ?_
  refine wp_seq ?_
  refine wp_reg ?_
  refine st_move hf rfl rfl (by decide) ?_
  clear hf; intro a ha hf; clear ha
  refine st_nilE hf (by decide) rfl rfl (Sl.ptr (hp.sl (i := 0) rfl) (hsetN hq91 kl0).1 (hsetN hq91 kl0).2) ?_
  clear hf; intro a ha hf; clear ha
  refine st_faP (off := 133) (sz := 1) hf (by decide) (by kernel_rfl) (by decide) rfl rfl (Sl.isP (hp.sl (i := 0) rfl) (hsetN hq91 kl0).1 (hsetN hq91 kl0).2) ?_
  clear hf; intro a ha hf; clear ha
  refine st_stQ (E := (Ek.pair (Ek.int .i64) (Ek.pair (Ek.arr 64 Ek.c128) (Ek.pair (Ek.arr 64 Ek.c128) (Ek.pair (Ek.int .i64) (Ek.pair (Ek.int .i64) (Ek.pair Ek.f64 (Ek.pair (Ek.int .i64) (Ek.pair Ek.bool (Ek.pair Ek.bool Ek.c128)))))))))) (F := Ek.bool) (o := 133) (Sub.comp (Sub.snd (E := (Ek.int .i64)) (F := (Ek.pair (Ek.arr 64 Ek.c128) (Ek.pair (Ek.arr 64 Ek.c128) (Ek.pair (Ek.int .i64) (Ek.pair (Ek.int .i64) (Ek.pair Ek.f64 (Ek.pair (Ek.int .i64) (Ek.pair Ek.bool (Ek.pair Ek.bool Ek.c128)))))))))) (Sub.comp (Sub.snd (E := (Ek.arr 64 Ek.c128)) (F := (Ek.pair (Ek.arr 64 Ek.c128) (Ek.pair (Ek.int .i64) (Ek.pair (Ek.int .i64) (Ek.pair Ek.f64 (Ek.pair (Ek.int .i64) (Ek.pair Ek.bool (Ek.pair Ek.bool Ek.c128))))))))) (Sub.comp (Sub.snd (E := (Ek.arr 64 Ek.c128)) (F := (Ek.pair (Ek.int .i64) (Ek.pair (Ek.int .i64) (Ek.pair Ek.f64 (Ek.pair (Ek.int .i64) (Ek.pair Ek.bool (Ek.pair Ek.bool Ek.c128)))))))) (Sub.comp (Sub.snd (E := (Ek.int .i64)) (F := (Ek.pair (Ek.int .i64) (Ek.pair Ek.f64 (Ek.pair (Ek.int .i64) (Ek.pair Ek.bool (Ek.pair Ek.bool Ek.c128))))))) (Sub.comp (Sub.snd (E := (Ek.int .i64)) (F := (Ek.pair Ek.f64 (Ek.pair (Ek.int .i64) (Ek.pair Ek.bool (Ek.pair Ek.bool Ek.c128)))))) (Sub.comp (Sub.snd (E := Ek.f64) (F := (Ek.pair (Ek.int .i64) (Ek.pair Ek.bool (Ek.pair Ek.bool Ek.c128))))) (Sub.comp (Sub.snd (E := (Ek.int .i64)) (F := (Ek.pair Ek.bool (Ek.pair Ek.bool Ek.c128)))) (Sub.fst (E := Ek.bool) (F := (Ek.pair Ek.bool Ek.c128)))))))))) hf (by kernel_rfl) hp (i := 0) rfl rfl rfl rfl rfl (hsetN hq91 kl0).1 (hsetN hq91 kl0).2 ?_
  clear hf; intro a w hf hp0; clear hp; have hp := hp0; clear hp0
  replace hp : Hp _ _ _ (Res.sl (Ek.pair (Ek.int .i64) (Ek.pair (Ek.arr 64 Ek.c128) (Ek.pair (Ek.arr 64 Ek.c128) (Ek.pair (Ek.int .i64) (Ek.pair (Ek.int .i64) (Ek.pair Ek.f64 (Ek.pair (Ek.int .i64) (Ek.pair Ek.bool (Ek.pair Ek.bool Ek.c128))))))))) tbl0 vl0 (q89.set (il0).toNat ((gt q89 il0).1, (gt q89 il0).2.1, (gt q89 il0).2.2.1, (gt q89 il0).2.2.2.1, (gt q89 il0).2.2.2.2.1, (gt q89 il0).2.2.2.2.2.1, (gt q89 il0).2.2.2.2.2.2.1, true, (gt q89 il0).2.2.2.2.2.2.2.2.1, (gt q89 il0).2.2.2.2.2.2.2.2.2)) :: Res.obj 58 v4 [.int .i64 (0 : Int), .complex .f64 0 0, .bool false] :: ow) := hp
  obtain ⟨q92, hq93, h⟩ := bnd h
  have hq94 := Option.some.inj hq93
  rw [hq94] at hp
  replace hp : Hp _ _ _ (Res.sl (Ek.pair (Ek.int .i64) (Ek.pair (Ek.arr 64 Ek.c128) (Ek.pair (Ek.arr 64 Ek.c128) (Ek.pair (Ek.int .i64) (Ek.pair (Ek.int .i64) (Ek.pair Ek.f64 (Ek.pair (Ek.int .i64) (Ek.pair Ek.bool (Ek.pair Ek.bool Ek.c128))))))))) tbl0 vl0 q92 :: Res.obj 58 v4 [.int .i64 (0 : Int), .complex .f64 0 0, .bool false] :: ow) := hp
  refine st_nil hf ?_
  refine th_n ?_
  refine wp_seq ?_
  obtain ⟨S95, hp96, rd97, up98, bk99⟩ := Hp.lendS hp (i := 0) rfl
  have rl100 := rd97
  obtain ⟨bb102, bb103, y104, y105, hl101⟩ := RdS.pinPC (p := il0) (o := 135) (Sub.comp (Sub.snd (E := (Ek.int .i64)) (F := (Ek.pair (Ek.arr 64 Ek.c128) (Ek.pair (Ek.arr 64 Ek.c128) (Ek.pair (Ek.int .i64) (Ek.pair (Ek.int .i64) (Ek.pair Ek.f64 (Ek.pair (Ek.int .i64) (Ek.pair Ek.bool (Ek.pair Ek.bool Ek.c128)))))))))) (Sub.comp (Sub.snd (E := (Ek.arr 64 Ek.c128)) (F := (Ek.pair (Ek.arr 64 Ek.c128) (Ek.pair (Ek.int .i64) (Ek.pair (Ek.int .i64) (Ek.pair Ek.f64 (Ek.pair (Ek.int .i64) (Ek.pair Ek.bool (Ek.pair Ek.bool Ek.c128))))))))) (Sub.comp (Sub.snd (E := (Ek.arr 64 Ek.c128)) (F := (Ek.pair (Ek.int .i64) (Ek.pair (Ek.int .i64) (Ek.pair Ek.f64 (Ek.pair (Ek.int .i64) (Ek.pair Ek.bool (Ek.pair Ek.bool Ek.c128)))))))) (Sub.comp (Sub.snd (E := (Ek.int .i64)) (F := (Ek.pair (Ek.int .i64) (Ek.pair Ek.f64 (Ek.pair (Ek.int .i64) (Ek.pair Ek.bool (Ek.pair Ek.bool Ek.c128))))))) (Sub.comp (Sub.snd (E := (Ek.int .i64)) (F := (Ek.pair Ek.f64 (Ek.pair (Ek.int .i64) (Ek.pair Ek.bool (Ek.pair Ek.bool Ek.c128)))))) (Sub.comp (Sub.snd (E := Ek.f64) (F := (Ek.pair (Ek.int .i64) (Ek.pair Ek.bool (Ek.pair Ek.bool Ek.c128))))) (Sub.comp (Sub.snd (E := (Ek.int .i64)) (F := (Ek.pair Ek.bool (Ek.pair Ek.bool Ek.c128)))) (Sub.comp (Sub.snd (E := Ek.bool) (F := (Ek.pair Ek.bool Ek.c128))) (Sub.snd (E := Ek.bool) (F := Ek.c128)))))))))) rl100 (hsetN hq94 (hsetN hq91 kl0)).1 (hsetN hq94 (hsetN hq91 kl0)).2
  obtain ⟨hc106, h⟩ := chk h
  obtain ⟨q107, hcall108, h⟩ := bnd h
  refine wp_cutN (fun a w => ∃ (v109 : Nat) (v110 : Nat) (v113 : Value), Fl.rep v109 q107.1.2.1.1 ∧ Fl.rep v110 q107.1.2.1.2 ∧ Fr 146 a [(0, eptr vl0 il0 136), (4, optr v4 0), (14, optr v113 0), (15, .int .i64 q107.2)] ∧ Hp S w0 w (Res.sl (Ek.pair (Ek.int .i64) (Ek.pair (Ek.arr 64 Ek.c128) (Ek.pair (Ek.arr 64 Ek.c128) (Ek.pair (Ek.int .i64) (Ek.pair (Ek.int .i64) (Ek.pair Ek.f64 (Ek.pair (Ek.int .i64) (Ek.pair Ek.bool (Ek.pair Ek.bool Ek.c128))))))))) tbl0 vl0 q92 :: Res.obj 58 v113 [.int .i64 q107.1.1, .complex .f64 v109 v110, .bool q107.1.2.2] :: Res.obj 58 v4 [.int .i64 (0 : Int), .complex .f64 0 0, .bool false] :: ow)) ?_ ?_
  · have hp := hp96.same (Same.drew w)
    refine dr_begin' (fun a w => ∃ (v109 : Nat) (v110 : Nat) (v113 : Value), Fl.rep v109 q107.1.2.1.1 ∧ Fl.rep v110 q107.1.2.1.2 ∧ Fr 146 a [(0, eptr vl0 il0 136), (4, optr v4 0), (14, optr v113 0), (15, .int .i64 q107.2)] ∧ Hp S w0 w (Res.sl (Ek.pair (Ek.int .i64) (Ek.pair (Ek.arr 64 Ek.c128) (Ek.pair (Ek.arr 64 Ek.c128) (Ek.pair (Ek.int .i64) (Ek.pair (Ek.int .i64) (Ek.pair Ek.f64 (Ek.pair (Ek.int .i64) (Ek.pair Ek.bool (Ek.pair Ek.bool Ek.c128))))))))) tbl0 vl0 q92 :: Res.obj 58 v113 [.int .i64 q107.1.1, .complex .f64 v109 v110, .bool q107.1.2.2] :: Res.obj 58 v4 [.int .i64 (0 : Int), .complex .f64 0 0, .bool false] :: ow)) (fun w' => ∃ l, Hp S95 w w' l) [] (by kernel_rfl) ?_
    refine dr_take 0 (eptr vl0 il0 136) rfl (by kernel_rfl) (by kernel_rfl) (by kernel_rfl) (by kernel_rfl) rfl rfl hf (by decide) rfl (fun w hp => ?_) ⟨_, hp⟩ ?_
    · obtain ⟨_, hp⟩ := hp
      refine st_move hf rfl rfl (by decide) ?_
      clear hf; intro a ha hf
      exact st_nil hf (th_n ⟨ha, rfl⟩)
    clear hf; intro a hf
    refine dr_nilE 1 rfl (by kernel_rfl) (by kernel_rfl) (by kernel_rfl) hf (by decide) rfl rfl (Sl.ptr (rl100.sl hp) (hsetN hq94 (hsetN hq91 kl0)).1 (hsetN hq94 (hsetN hq91 kl0)).2) ?_
    clear hf; intro a hf
    refine dr_take 2 (optr (eptr vl0 il0 136) 0) rfl (by kernel_rfl) (by kernel_rfl) (by kernel_rfl) (by kernel_rfl) rfl rfl hf (by decide) rfl (fun w hp => ?_) ⟨_, hp⟩ ?_
    · obtain ⟨_, hp⟩ := hp
      refine st_faP (off := 0) (sz := 1) hf (by decide) (by kernel_rfl) (by decide) rfl rfl (Sl.isP (rl100.sl hp) (hsetN hq94 (hsetN hq91 kl0)).1 (hsetN hq94 (hsetN hq91 kl0)).2) ?_
      clear hf; intro a ha hf
      exact st_nil hf (th_n ⟨ha, rfl⟩)
    clear hf; intro a hf
    refine dr_take 3 (.int .i64 ((gt q92 il0).1)) rfl (by kernel_rfl) (by kernel_rfl) (by kernel_rfl) (by kernel_rfl) rfl rfl hf (by decide) rfl (fun w hp => ?_) ⟨_, hp⟩ ?_
    · obtain ⟨_, hp⟩ := hp
      refine st_ldQ (F := (Ek.int .i64)) (yv := (gt q92 il0).1) hf (by decide) pl3 (fun x => .int .i64 x) (fun _ _ h => h) rfl rfl (Sl.part (E := (Ek.pair (Ek.int .i64) (Ek.pair (Ek.arr 64 Ek.c128) (Ek.pair (Ek.arr 64 Ek.c128) (Ek.pair (Ek.int .i64) (Ek.pair (Ek.int .i64) (Ek.pair Ek.f64 (Ek.pair (Ek.int .i64) (Ek.pair Ek.bool (Ek.pair Ek.bool Ek.c128)))))))))) (F := (Ek.int .i64)) (o := 0) (Sub.fst (E := (Ek.int .i64)) (F := (Ek.pair (Ek.arr 64 Ek.c128) (Ek.pair (Ek.arr 64 Ek.c128) (Ek.pair (Ek.int .i64) (Ek.pair (Ek.int .i64) (Ek.pair Ek.f64 (Ek.pair (Ek.int .i64) (Ek.pair Ek.bool (Ek.pair Ek.bool Ek.c128)))))))))) (rl100.sl hp) (hsetN hq94 (hsetN hq91 kl0)).1 (hsetN hq94 (hsetN hq91 kl0)).2) ?_
      clear hf; intro a ha hf
      exact st_nil hf (th_n ⟨ha, rfl⟩)
    clear hf; intro a hf
    refine dr_take 4 (eptr vl0 il0 136) rfl (by kernel_rfl) (by kernel_rfl) (by kernel_rfl) (by kernel_rfl) rfl rfl hf (by decide) rfl (fun w hp => ?_) ⟨_, hp⟩ ?_
    · obtain ⟨_, hp⟩ := hp
      refine st_move hf rfl rfl (by decide) ?_
      clear hf; intro a ha hf
      exact st_nil hf (th_n ⟨ha, rfl⟩)
    clear hf; intro a hf
    refine dr_nilE 5 rfl (by kernel_rfl) (by kernel_rfl) (by kernel_rfl) hf (by decide) rfl rfl (Sl.ptr (rl100.sl hp) (hsetN hq94 (hsetN hq91 kl0)).1 (hsetN hq94 (hsetN hq91 kl0)).2) ?_
    clear hf; intro a hf
    refine dr_take 6 (optr (eptr vl0 il0 136) 135) rfl (by kernel_rfl) (by kernel_rfl) (by kernel_rfl) (by kernel_rfl) rfl rfl hf (by decide) rfl (fun w hp => ?_) ⟨_, hp⟩ ?_
    · obtain ⟨_, hp⟩ := hp
      refine st_faP (off := 135) (sz := 1) hf (by decide) (by kernel_rfl) (by decide) rfl rfl (Sl.isP (rl100.sl hp) (hsetN hq94 (hsetN hq91 kl0)).1 (hsetN hq94 (hsetN hq91 kl0)).2) ?_
      clear hf; intro a ha hf
      exact st_nil hf (th_n ⟨ha, rfl⟩)
    clear hf; intro a hf
    refine dr_take 7 (.complex .f64 bb102 bb103) rfl (by kernel_rfl) (by kernel_rfl) (by kernel_rfl) (by kernel_rfl) rfl rfl hf (by decide) rfl (fun w hp => ?_) ⟨_, hp⟩ ?_
    · obtain ⟨_, hp⟩ := hp
      refine st_ldP hf (by decide) pl39 rfl rfl (hl101 _ _ hp) ?_
      clear hf; intro a ha hf
      exact st_nil hf (th_n ⟨ha, rfl⟩)
    clear hf; intro a hf
    refine dr_two 8 12 rfl rfl (by kernel_rfl) ?_ ?_
    · skip
      refine st_call hf (by decide) Try.func50 rfl rfl rfl rfl rfl (callsEq (args := #[.int .i64 (4 : Int), .complex .f64 bb102 bb103]) (by rw [hc106]; rfl) (f_slice_Decide_c hp _ _ _ (show Fl.rep bb102 ((gt q92 il0).2.2.2.2.2.2.2.2.2).1 from y104) (show Fl.rep bb103 ((gt q92 il0).2.2.2.2.2.2.2.2.2).2 from y105) hcall108)) ?_
      rintro _ w ⟨v109, v110, rfl, y111, y112, hp0⟩
      clear hp; have hp := hp0; clear hp0
      replace hp : Hp _ _ _ (Res.obj 58 v4 [.int .i64 (0 : Int), .complex .f64 0 0, .bool false] :: ow) := hp
      refine ⟨_, rfl, ?_⟩
      clear hf; intro a hf
      refine st_nil hf (th_n ⟨fun _ _ => ⟨_, hp⟩, ?_⟩)
      refine dr_take 9 (.tuple #[.agg #[.int .i64 q107.1.1, .complex .f64 v109 v110, .bool q107.1.2.2], .int .i64 q107.2]) rfl (by kernel_rfl) (by kernel_rfl) (by kernel_rfl) (by kernel_rfl) rfl rfl hf (by decide) rfl (fun w hp => ?_) ⟨_, hp⟩ ?_
      · obtain ⟨_, hp⟩ := hp
        refine st_move hf rfl rfl (by decide) ?_
        clear hf; intro a ha hf
        exact st_nil hf (th_n ⟨ha, rfl⟩)
      clear hf; intro a hf
      refine dr_take 10 (.agg #[.int .i64 q107.1.1, .complex .f64 v109 v110, .bool q107.1.2.2]) rfl (by kernel_rfl) (by kernel_rfl) (by kernel_rfl) (by kernel_rfl) rfl rfl hf (by decide) rfl (fun w hp => ?_) ⟨_, hp⟩ ?_
      · obtain ⟨_, hp⟩ := hp
        refine st_extract hf (by decide) rfl rfl rfl ?_
        clear hf; intro a ha hf
        exact st_nil hf (th_n ⟨ha, rfl⟩)
      clear hf; intro a hf
      refine dr_take 11 (.int .i64 q107.2) rfl (by kernel_rfl) (by kernel_rfl) (by kernel_rfl) (by kernel_rfl) rfl rfl hf (by decide) rfl (fun w hp => ?_) ⟨_, hp⟩ ?_
      · obtain ⟨_, hp⟩ := hp
        refine st_extract hf (by decide) rfl rfl rfl ?_
        clear hf; intro a ha hf
        exact st_nil hf (th_n ⟨ha, rfl⟩)
      clear hf; intro a hf
      refine dr_one 12 rfl (by kernel_rfl) ?_
      refine st_alloc (cs := [.int .i64 (0 : Int), .complex .f64 0 0, .bool false]) (zv := .agg #[.int .i64 (0 : Int), .complex .f64 0 0, .bool false]) hf (by decide) (by kernel_rfl) rfl hp rfl ?_
      clear hf; intro a w v113 hf hp0; clear hp; have hp := hp0; clear hp0
      replace hp : Hp _ _ _ (Res.obj 58 v113 [.int .i64 (0 : Int), .complex .f64 0 0, .bool false] :: Res.obj 58 v4 [.int .i64 (0 : Int), .complex .f64 0 0, .bool false] :: ow) := hp
      refine st_nil hf (th_n ⟨fun _ _ => ⟨_, hp⟩, ?_⟩)
      refine dr_one 13 rfl (by kernel_rfl) ?_
      refine st_stO (us := [.int .i64 q107.1.1, .complex .f64 v109 v110, .bool q107.1.2.2]) hf hp (i := 0) rfl rfl rfl rfl rfl (by rfl) (by kernel_rfl) (Nat.le_of_ble_eq_true rfl) ?_
      clear hf; intro a w hf hp0; clear hp; have hp := hp0; clear hp0
      replace hp : Hp _ _ _ (Res.obj 58 v113 [.int .i64 q107.1.1, .complex .f64 v109 v110, .bool q107.1.2.2] :: Res.obj 58 v4 [.int .i64 (0 : Int), .complex .f64 0 0, .bool false] :: ow) := hp
      refine st_nil hf (th_n ⟨fun _ _ => ⟨_, hp⟩, ?_⟩)
      refine dr_take 14 (.int .i64 q107.2) rfl (by kernel_rfl) (by kernel_rfl) (by kernel_rfl) (by kernel_rfl) rfl rfl hf (by decide) rfl (fun w hp => ?_) ⟨_, hp⟩ ?_
      · obtain ⟨_, hp⟩ := hp
        refine st_assign hf rfl rfl (by decide) ?_
        clear hf; intro a ha hf
        exact st_nil hf (th_n ⟨ha, rfl⟩)
      clear hf; intro a hf
      refine dr_end (by kernel_rfl) ?_ _
      have hp := bk99 _ _ hp
      exact ⟨v109, v110, v113, y111, y112, hf.sub ⟨rfl, rfl, rfl, rfl, trivial⟩, hp⟩
    · skip
      refine st_alloc (cs := [.int .i64 (0 : Int), .complex .f64 0 0, .bool false]) (zv := .agg #[.int .i64 (0 : Int), .complex .f64 0 0, .bool false]) hf (by decide) (by kernel_rfl) rfl hp rfl ?_
      clear hf; intro a w v113 hf hp0; clear hp; have hp := hp0; clear hp0
      replace hp : Hp _ _ _ (Res.obj 58 v113 [.int .i64 (0 : Int), .complex .f64 0 0, .bool false] :: Res.obj 58 v4 [.int .i64 (0 : Int), .complex .f64 0 0, .bool false] :: ow) := hp
      refine st_nil hf (th_n ⟨fun _ _ => ⟨_, hp⟩, ?_⟩)
      refine dr_one 8 rfl (by kernel_rfl) ?_
      refine st_call hf (by decide) Try.func50 rfl rfl rfl rfl rfl (callsEq (args := #[.int .i64 (4 : Int), .complex .f64 bb102 bb103]) (by rw [hc106]; rfl) (f_slice_Decide_c hp _ _ _ (show Fl.rep bb102 ((gt q92 il0).2.2.2.2.2.2.2.2.2).1 from y104) (show Fl.rep bb103 ((gt q92 il0).2.2.2.2.2.2.2.2.2).2 from y105) hcall108)) ?_
      rintro _ w ⟨v109, v110, rfl, y111, y112, hp0⟩
      clear hp; have hp := hp0; clear hp0
      replace hp : Hp _ _ _ (Res.obj 58 v113 [.int .i64 (0 : Int), .complex .f64 0 0, .bool false] :: Res.obj 58 v4 [.int .i64 (0 : Int), .complex .f64 0 0, .bool false] :: ow) := hp
      refine ⟨_, rfl, ?_⟩
      clear hf; intro a hf
      refine st_nil hf (th_n ⟨fun _ _ => ⟨_, hp⟩, ?_⟩)
      refine dr_take 9 (.tuple #[.agg #[.int .i64 q107.1.1, .complex .f64 v109 v110, .bool q107.1.2.2], .int .i64 q107.2]) rfl (by kernel_rfl) (by kernel_rfl) (by kernel_rfl) (by kernel_rfl) rfl rfl hf (by decide) rfl (fun w hp => ?_) ⟨_, hp⟩ ?_
      · obtain ⟨_, hp⟩ := hp
        refine st_move hf rfl rfl (by decide) ?_
        clear hf; intro a ha hf
        exact st_nil hf (th_n ⟨ha, rfl⟩)
      clear hf; intro a hf
      refine dr_take 10 (.agg #[.int .i64 q107.1.1, .complex .f64 v109 v110, .bool q107.1.2.2]) rfl (by kernel_rfl) (by kernel_rfl) (by kernel_rfl) (by kernel_rfl) rfl rfl hf (by decide) rfl (fun w hp => ?_) ⟨_, hp⟩ ?_
      · obtain ⟨_, hp⟩ := hp
        refine st_extract hf (by decide) rfl rfl rfl ?_
        clear hf; intro a ha hf
        exact st_nil hf (th_n ⟨ha, rfl⟩)
      clear hf; intro a hf
      refine dr_take 11 (.int .i64 q107.2) rfl (by kernel_rfl) (by kernel_rfl) (by kernel_rfl) (by kernel_rfl) rfl rfl hf (by decide) rfl (fun w hp => ?_) ⟨_, hp⟩ ?_
      · obtain ⟨_, hp⟩ := hp
        refine st_extract hf (by decide) rfl rfl rfl ?_
        clear hf; intro a ha hf
        exact st_nil hf (th_n ⟨ha, rfl⟩)
      clear hf; intro a hf
      refine dr_one 13 rfl (by kernel_rfl) ?_
      refine st_stO (us := [.int .i64 q107.1.1, .complex .f64 v109 v110, .bool q107.1.2.2]) hf hp (i := 0) rfl rfl rfl rfl rfl (by rfl) (by kernel_rfl) (Nat.le_of_ble_eq_true rfl) ?_
      clear hf; intro a w hf hp0; clear hp; have hp := hp0; clear hp0
      replace hp : Hp _ _ _ (Res.obj 58 v113 [.int .i64 q107.1.1, .complex .f64 v109 v110, .bool q107.1.2.2] :: Res.obj 58 v4 [.int .i64 (0 : Int), .complex .f64 0 0, .bool false] :: ow) := hp
      refine st_nil hf (th_n ⟨fun _ _ => ⟨_, hp⟩, ?_⟩)
      refine dr_take 14 (.int .i64 q107.2) rfl (by kernel_rfl) (by kernel_rfl) (by kernel_rfl) (by kernel_rfl) rfl rfl hf (by decide) rfl (fun w hp => ?_) ⟨_, hp⟩ ?_
      · obtain ⟨_, hp⟩ := hp
        refine st_assign hf rfl rfl (by decide) ?_
        clear hf; intro a ha hf
        exact st_nil hf (th_n ⟨ha, rfl⟩)
      clear hf; intro a hf
      refine dr_end (by kernel_rfl) ?_ _
      have hp := bk99 _ _ hp
      exact ⟨v109, v110, v113, y111, y112, hf.sub ⟨rfl, rfl, rfl, rfl, trivial⟩, hp⟩
  rintro a w ⟨v109, v110, v113, y111, y112, hf, hp⟩
  refine th_n ?_
  refine wp_seq ?_
  obtain ⟨S115, hp116, rd117, up118, bk119⟩ := Hp.lendS hp (i := 0) rfl
  obtain ⟨S120, hp121, rd122, up123, bk124⟩ := Hp.lendO hp116 (i := 0) rfl
  have rl125 := ((rd117.now hp116).mono up123)
  have rl126 := rd122
  obtain ⟨hc127, h⟩ := chk h
  obtain ⟨q128, hq129, h⟩ := bnd h
  have hq130 := Option.some.inj hq129
  refine wp_cutN (fun a w => Fr 146 a [(0, eptr vl0 il0 136), (4, optr v4 0), (14, optr v113 0), (15, .int .i64 q107.2)] ∧ Hp S w0 w (Res.sl (Ek.pair (Ek.int .i64) (Ek.pair (Ek.arr 64 Ek.c128) (Ek.pair (Ek.arr 64 Ek.c128) (Ek.pair (Ek.int .i64) (Ek.pair (Ek.int .i64) (Ek.pair Ek.f64 (Ek.pair (Ek.int .i64) (Ek.pair Ek.bool (Ek.pair Ek.bool Ek.c128))))))))) tbl0 vl0 q128 :: Res.obj 58 v113 [.int .i64 q107.1.1, .complex .f64 v109 v110, .bool q107.1.2.2] :: Res.obj 58 v4 [.int .i64 (0 : Int), .complex .f64 0 0, .bool false] :: ow)) ?_ ?_
  · have hp := hp121.same (Same.drew w)
    refine dr_begin' (fun a w => Fr 146 a [(0, eptr vl0 il0 136), (4, optr v4 0), (14, optr v113 0), (15, .int .i64 q107.2)] ∧ Hp S w0 w (Res.sl (Ek.pair (Ek.int .i64) (Ek.pair (Ek.arr 64 Ek.c128) (Ek.pair (Ek.arr 64 Ek.c128) (Ek.pair (Ek.int .i64) (Ek.pair (Ek.int .i64) (Ek.pair Ek.f64 (Ek.pair (Ek.int .i64) (Ek.pair Ek.bool (Ek.pair Ek.bool Ek.c128))))))))) tbl0 vl0 q128 :: Res.obj 58 v113 [.int .i64 q107.1.1, .complex .f64 v109 v110, .bool q107.1.2.2] :: Res.obj 58 v4 [.int .i64 (0 : Int), .complex .f64 0 0, .bool false] :: ow)) (fun w' => ∃ l, Hp S120 w w' l) [10] (by kernel_rfl) ?_
    refine dr_takeP 0 (eptr vl0 il0 136) rfl (by kernel_rfl) (by kernel_rfl) (by kernel_rfl) rfl rfl hf (by decide) rfl (fun w => ?_) ?_
    · skip
      refine st_move hf rfl rfl (by decide) ?_
      clear hf; intro a ha hf
      exact st_nil hf (th_n ⟨ha, rfl⟩)
    clear hf; intro a hf
    refine dr_takeP 1 (eptr vl0 il0 136) rfl (by kernel_rfl) (by kernel_rfl) (by kernel_rfl) rfl rfl hf (by decide) rfl (fun w => ?_) ?_
    · skip
      refine st_move hf rfl rfl (by decide) ?_
      clear hf; intro a ha hf
      exact st_nil hf (th_n ⟨ha, rfl⟩)
    clear hf; intro a hf
    refine dr_nilE 2 rfl (by kernel_rfl) (by kernel_rfl) (by kernel_rfl) hf (by decide) rfl rfl (Sl.ptr rl125.any (hsetN hq94 (hsetN hq91 kl0)).1 (hsetN hq94 (hsetN hq91 kl0)).2) ?_
    clear hf; intro a hf
    refine dr_takeP 3 (optr (eptr vl0 il0 136) 130) rfl (by kernel_rfl) (by kernel_rfl) (by kernel_rfl) rfl rfl hf (by decide) rfl (fun w => ?_) ?_
    · skip
      refine st_faP (off := 130) (sz := 1) hf (by decide) (by kernel_rfl) (by decide) rfl rfl (Sl.isP rl125.any (hsetN hq94 (hsetN hq91 kl0)).1 (hsetN hq94 (hsetN hq91 kl0)).2) ?_
      clear hf; intro a ha hf
      exact st_nil hf (th_n ⟨ha, rfl⟩)
    clear hf; intro a hf
    refine dr_take2 4 (.int .i64 ((gt q92 il0).2.2.2.2.1)) rfl (by kernel_rfl) (by kernel_rfl) (by kernel_rfl) (by kernel_rfl) (by kernel_rfl) rfl rfl hf (by decide) rfl (fun w hp => ?_) ⟨_, hp⟩ ?_
    · obtain ⟨_, hp⟩ := hp
      refine st_ldQ (F := (Ek.int .i64)) (yv := (gt q92 il0).2.2.2.2.1) hf (by decide) pl3 (fun x => .int .i64 x) (fun _ _ h => h) rfl rfl (Sl.part (E := (Ek.pair (Ek.int .i64) (Ek.pair (Ek.arr 64 Ek.c128) (Ek.pair (Ek.arr 64 Ek.c128) (Ek.pair (Ek.int .i64) (Ek.pair (Ek.int .i64) (Ek.pair Ek.f64 (Ek.pair (Ek.int .i64) (Ek.pair Ek.bool (Ek.pair Ek.bool Ek.c128)))))))))) (F := (Ek.int .i64)) (o := 130) (Sub.comp (Sub.snd (E := (Ek.int .i64)) (F := (Ek.pair (Ek.arr 64 Ek.c128) (Ek.pair (Ek.arr 64 Ek.c128) (Ek.pair (Ek.int .i64) (Ek.pair (Ek.int .i64) (Ek.pair Ek.f64 (Ek.pair (Ek.int .i64) (Ek.pair Ek.bool (Ek.pair Ek.bool Ek.c128)))))))))) (Sub.comp (Sub.snd (E := (Ek.arr 64 Ek.c128)) (F := (Ek.pair (Ek.arr 64 Ek.c128) (Ek.pair (Ek.int .i64) (Ek.pair (Ek.int .i64) (Ek.pair Ek.f64 (Ek.pair (Ek.int .i64) (Ek.pair Ek.bool (Ek.pair Ek.bool Ek.c128))))))))) (Sub.comp (Sub.snd (E := (Ek.arr 64 Ek.c128)) (F := (Ek.pair (Ek.int .i64) (Ek.pair (Ek.int .i64) (Ek.pair Ek.f64 (Ek.pair (Ek.int .i64) (Ek.pair Ek.bool (Ek.pair Ek.bool Ek.c128)))))))) (Sub.comp (Sub.snd (E := (Ek.int .i64)) (F := (Ek.pair (Ek.int .i64) (Ek.pair Ek.f64 (Ek.pair (Ek.int .i64) (Ek.pair Ek.bool (Ek.pair Ek.bool Ek.c128))))))) (Sub.fst (E := (Ek.int .i64)) (F := (Ek.pair Ek.f64 (Ek.pair (Ek.int .i64) (Ek.pair Ek.bool (Ek.pair Ek.bool Ek.c128)))))))))) (rl125.sl hp) (hsetN hq94 (hsetN hq91 kl0)).1 (hsetN hq94 (hsetN hq91 kl0)).2) ?_
      clear hf; intro a ha hf
      exact st_nil hf (th_n ⟨ha, rfl⟩)
    clear hf; intro a hf
    refine dr_takeP 5 (optr v113 1) rfl (by kernel_rfl) (by kernel_rfl) (by kernel_rfl) rfl rfl hf (by decide) rfl (fun w => ?_) ?_
    · skip
      refine st_fa (o' := 1) hf (by decide) (off := 1) (sz := 1) (by kernel_rfl) (by decide) rfl rfl (rl126.mono fun _ _ => trivial) rfl ?_
      clear hf; intro a ha hf
      exact st_nil hf (th_n ⟨ha, rfl⟩)
    clear hf; intro a hf
    refine dr_take2 6 (.complex .f64 v109 v110) rfl (by kernel_rfl) (by kernel_rfl) (by kernel_rfl) (by kernel_rfl) (by kernel_rfl) rfl rfl hf (by decide) rfl (fun w hp => ?_) ⟨_, hp⟩ ?_
    · obtain ⟨_, hp⟩ := hp
      refine st_ldO (u := .complex .f64 v109 v110) hf (by decide) pl39 rfl rfl (rl126.ob hp) rfl ?_
      clear hf; intro a ha hf
      exact st_nil hf (th_n ⟨ha, rfl⟩)
    clear hf; intro a hf
    refine dr_nilE 7 rfl (by kernel_rfl) (by kernel_rfl) (by kernel_rfl) hf (by decide) rfl rfl (Sl.ptr rl125.any (hsetN hq94 (hsetN hq91 kl0)).1 (hsetN hq94 (hsetN hq91 kl0)).2) ?_
    clear hf; intro a hf
    refine dr_takeP 8 (optr (eptr vl0 il0 136) 65) rfl (by kernel_rfl) (by kernel_rfl) (by kernel_rfl) rfl rfl hf (by decide) rfl (fun w => ?_) ?_
    · skip
      refine st_faP (off := 65) (sz := 64) hf (by decide) (by kernel_rfl) (by decide) rfl rfl (Sl.isP rl125.any (hsetN hq94 (hsetN hq91 kl0)).1 (hsetN hq94 (hsetN hq91 kl0)).2) ?_
      clear hf; intro a ha hf
      exact st_nil hf (th_n ⟨ha, rfl⟩)
    clear hf; intro a hf
    refine dr_takeP 9 (optr (eptr vl0 il0 136) (65 + ((gt q92 il0).2.2.2.2.1).toNat * 1)) rfl (by kernel_rfl) (by kernel_rfl) (by kernel_rfl) rfl rfl hf (by decide) rfl (fun w => ?_) ?_
    · skip
      refine st_iaQ (sz := 1) hf (by decide) Try.underlying87 (by kernel_rfl) rfl rfl rfl (Sl.isP rl125.any (hsetN hq94 (hsetN hq91 kl0)).1 (hsetN hq94 (hsetN hq91 kl0)).2) hc127.1 hc127.2 ?_
      clear hf; intro a ha hf
      exact st_nil hf (th_n ⟨ha, rfl⟩)
    clear hf; intro a hf
    have hp := bk124 _ _ hp
    have hp := bk119 _ _ hp
    refine dr_one 10 rfl (by kernel_rfl) ?_
    refine st_stQ (E := (Ek.pair (Ek.int .i64) (Ek.pair (Ek.arr 64 Ek.c128) (Ek.pair (Ek.arr 64 Ek.c128) (Ek.pair (Ek.int .i64) (Ek.pair (Ek.int .i64) (Ek.pair Ek.f64 (Ek.pair (Ek.int .i64) (Ek.pair Ek.bool (Ek.pair Ek.bool Ek.c128)))))))))) (F := Ek.c128) (o := 65 + ((gt q92 il0).2.2.2.2.1).toNat * 1) (Sub.comp (Sub.comp (Sub.snd (E := (Ek.int .i64)) (F := (Ek.pair (Ek.arr 64 Ek.c128) (Ek.pair (Ek.arr 64 Ek.c128) (Ek.pair (Ek.int .i64) (Ek.pair (Ek.int .i64) (Ek.pair Ek.f64 (Ek.pair (Ek.int .i64) (Ek.pair Ek.bool (Ek.pair Ek.bool Ek.c128)))))))))) (Sub.comp (Sub.snd (E := (Ek.arr 64 Ek.c128)) (F := (Ek.pair (Ek.arr 64 Ek.c128) (Ek.pair (Ek.int .i64) (Ek.pair (Ek.int .i64) (Ek.pair Ek.f64 (Ek.pair (Ek.int .i64) (Ek.pair Ek.bool (Ek.pair Ek.bool Ek.c128))))))))) (Sub.fst (E := (Ek.arr 64 Ek.c128)) (F := (Ek.pair (Ek.int .i64) (Ek.pair (Ek.int .i64) (Ek.pair Ek.f64 (Ek.pair (Ek.int .i64) (Ek.pair Ek.bool (Ek.pair Ek.bool Ek.c128)))))))))) (Sub.arr (F := Ek.c128) (N := 64) (j := (gt q92 il0).2.2.2.2.1) hc127.1 hc127.2)) hf (by kernel_rfl) hp (i := 0) rfl rfl rfl rfl (show Ek.c128.rep [.complex .f64 v109 v110] q107.1.2.1 from ⟨_, _, rfl, y111, y112⟩) (hsetN hq94 (hsetN hq91 kl0)).1 (hsetN hq94 (hsetN hq91 kl0)).2 ?_
    clear hf; intro a w hf hp0; clear hp; have hp := hp0; clear hp0
    replace hp : Hp _ _ _ (Res.sl (Ek.pair (Ek.int .i64) (Ek.pair (Ek.arr 64 Ek.c128) (Ek.pair (Ek.arr 64 Ek.c128) (Ek.pair (Ek.int .i64) (Ek.pair (Ek.int .i64) (Ek.pair Ek.f64 (Ek.pair (Ek.int .i64) (Ek.pair Ek.bool (Ek.pair Ek.bool Ek.c128))))))))) tbl0 vl0 (q92.set (il0).toNat ((gt q92 il0).1, (gt q92 il0).2.1, (((gt q92 il0).2.2.1).set ((gt q92 il0).2.2.2.2.1).toNat q107.1.2.1), (gt q92 il0).2.2.2.1, (gt q92 il0).2.2.2.2.1, (gt q92 il0).2.2.2.2.2.1, (gt q92 il0).2.2.2.2.2.2.1, (gt q92 il0).2.2.2.2.2.2.2.1, (gt q92 il0).2.2.2.2.2.2.2.2.1, (gt q92 il0).2.2.2.2.2.2.2.2.2)) :: Res.obj 58 v113 [.int .i64 q107.1.1, .complex .f64 v109 v110, .bool q107.1.2.2] :: Res.obj 58 v4 [.int .i64 (0 : Int), .complex .f64 0 0, .bool false] :: ow) := hp
    rw [hq130] at hp
    replace hp : Hp _ _ _ (Res.sl (Ek.pair (Ek.int .i64) (Ek.pair (Ek.arr 64 Ek.c128) (Ek.pair (Ek.arr 64 Ek.c128) (Ek.pair (Ek.int .i64) (Ek.pair (Ek.int .i64) (Ek.pair Ek.f64 (Ek.pair (Ek.int .i64) (Ek.pair Ek.bool (Ek.pair Ek.bool Ek.c128))))))))) tbl0 vl0 q128 :: Res.obj 58 v113 [.int .i64 q107.1.1, .complex .f64 v109 v110, .bool q107.1.2.2] :: Res.obj 58 v4 [.int .i64 (0 : Int), .complex .f64 0 0, .bool false] :: ow) := hp
    refine st_nil hf (th_n ⟨fun hn => absurd hn (by decide), ?_⟩)
    refine dr_end (by kernel_rfl) ?_ _
    exact ⟨hf.sub ⟨rfl, rfl, rfl, rfl, trivial⟩, hp⟩
  rintro a w ⟨hf, hp⟩
  refine th_n ?_
  refine wp_seq ?_
  refine wp_reg ?_
  refine st_move hf rfl rfl (by decide) ?_
  clear hf; intro a ha hf; clear ha
  refine st_move hf rfl rfl (by decide) ?_
  clear hf; intro a ha hf; clear ha
  refine st_nilE hf (by decide) rfl rfl (Sl.ptr (hp.sl (i := 0) rfl) (hsetN hq130 (hsetN hq94 (hsetN hq91 kl0))).1 (hsetN hq130 (hsetN hq94 (hsetN hq91 kl0))).2) ?_
  clear hf; intro a ha hf; clear ha
  refine st_faP (off := 130) (sz := 1) hf (by decide) (by kernel_rfl) (by decide) rfl rfl (Sl.isP (hp.sl (i := 0) rfl) (hsetN hq130 (hsetN hq94 (hsetN hq91 kl0))).1 (hsetN hq130 (hsetN hq94 (hsetN hq91 kl0))).2) ?_
  clear hf; intro a ha hf; clear ha
  refine st_ldQ (F := (Ek.int .i64)) (yv := (gt q128 il0).2.2.2.2.1) hf (by decide) pl3 (fun x => .int .i64 x) (fun _ _ h => h) rfl rfl (Sl.part (E := (Ek.pair (Ek.int .i64) (Ek.pair (Ek.arr 64 Ek.c128) (Ek.pair (Ek.arr 64 Ek.c128) (Ek.pair (Ek.int .i64) (Ek.pair (Ek.int .i64) (Ek.pair Ek.f64 (Ek.pair (Ek.int .i64) (Ek.pair Ek.bool (Ek.pair Ek.bool Ek.c128)))))))))) (F := (Ek.int .i64)) (o := 130) (Sub.comp (Sub.snd (E := (Ek.int .i64)) (F := (Ek.pair (Ek.arr 64 Ek.c128) (Ek.pair (Ek.arr 64 Ek.c128) (Ek.pair (Ek.int .i64) (Ek.pair (Ek.int .i64) (Ek.pair Ek.f64 (Ek.pair (Ek.int .i64) (Ek.pair Ek.bool (Ek.pair Ek.bool Ek.c128)))))))))) (Sub.comp (Sub.snd (E := (Ek.arr 64 Ek.c128)) (F := (Ek.pair (Ek.arr 64 Ek.c128) (Ek.pair (Ek.int .i64) (Ek.pair (Ek.int .i64) (Ek.pair Ek.f64 (Ek.pair (Ek.int .i64) (Ek.pair Ek.bool (Ek.pair Ek.bool Ek.c128))))))))) (Sub.comp (Sub.snd (E := (Ek.arr 64 Ek.c128)) (F := (Ek.pair (Ek.int .i64) (Ek.pair (Ek.int .i64) (Ek.pair Ek.f64 (Ek.pair (Ek.int .i64) (Ek.pair Ek.bool (Ek.pair Ek.bool Ek.c128)))))))) (Sub.comp (Sub.snd (E := (Ek.int .i64)) (F := (Ek.pair (Ek.int .i64) (Ek.pair Ek.f64 (Ek.pair (Ek.int .i64) (Ek.pair Ek.bool (Ek.pair Ek.bool Ek.c128))))))) (Sub.fst (E := (Ek.int .i64)) (F := (Ek.pair Ek.f64 (Ek.pair (Ek.int .i64) (Ek.pair Ek.bool (Ek.pair Ek.bool Ek.c128)))))))))) (hp.sl (i := 0) rfl) (hsetN hq130 (hsetN hq94 (hsetN hq91 kl0))).1 (hsetN hq130 (hsetN hq94 (hsetN hq91 kl0))).2) ?_
  clear hf; intro a ha hf; clear ha
  refine st_iadd hf (by decide) rfl rfl rfl ?_
  clear hf; intro a ha hf; clear ha
  refine st_irem hf (by decide) rfl rfl rfl (by decide) ?_
  clear hf; intro a ha hf; clear ha
  refine st_nilE hf (by decide) rfl rfl (Sl.ptr (hp.sl (i := 0) rfl) (hsetN hq130 (hsetN hq94 (hsetN hq91 kl0))).1 (hsetN hq130 (hsetN hq94 (hsetN hq91 kl0))).2) ?_
  clear hf; intro a ha hf; clear ha
  refine st_faP (off := 130) (sz := 1) hf (by decide) (by kernel_rfl) (by decide) rfl rfl (Sl.isP (hp.sl (i := 0) rfl) (hsetN hq130 (hsetN hq94 (hsetN hq91 kl0))).1 (hsetN hq130 (hsetN hq94 (hsetN hq91 kl0))).2) ?_
  clear hf; intro a ha hf; clear ha
  refine st_stQ (E := (Ek.pair (Ek.int .i64) (Ek.pair (Ek.arr 64 Ek.c128) (Ek.pair (Ek.arr 64 Ek.c128) (Ek.pair (Ek.int .i64) (Ek.pair (Ek.int .i64) (Ek.pair Ek.f64 (Ek.pair (Ek.int .i64) (Ek.pair Ek.bool (Ek.pair Ek.bool Ek.c128)))))))))) (F := (Ek.int .i64)) (o := 130) (Sub.comp (Sub.snd (E := (Ek.int .i64)) (F := (Ek.pair (Ek.arr 64 Ek.c128) (Ek.pair (Ek.arr 64 Ek.c128) (Ek.pair (Ek.int .i64) (Ek.pair (Ek.int .i64) (Ek.pair Ek.f64 (Ek.pair (Ek.int .i64) (Ek.pair Ek.bool (Ek.pair Ek.bool Ek.c128)))))))))) (Sub.comp (Sub.snd (E := (Ek.arr 64 Ek.c128)) (F := (Ek.pair (Ek.arr 64 Ek.c128) (Ek.pair (Ek.int .i64) (Ek.pair (Ek.int .i64) (Ek.pair Ek.f64 (Ek.pair (Ek.int .i64) (Ek.pair Ek.bool (Ek.pair Ek.bool Ek.c128))))))))) (Sub.comp (Sub.snd (E := (Ek.arr 64 Ek.c128)) (F := (Ek.pair (Ek.int .i64) (Ek.pair (Ek.int .i64) (Ek.pair Ek.f64 (Ek.pair (Ek.int .i64) (Ek.pair Ek.bool (Ek.pair Ek.bool Ek.c128)))))))) (Sub.comp (Sub.snd (E := (Ek.int .i64)) (F := (Ek.pair (Ek.int .i64) (Ek.pair Ek.f64 (Ek.pair (Ek.int .i64) (Ek.pair Ek.bool (Ek.pair Ek.bool Ek.c128))))))) (Sub.fst (E := (Ek.int .i64)) (F := (Ek.pair Ek.f64 (Ek.pair (Ek.int .i64) (Ek.pair Ek.bool (Ek.pair Ek.bool Ek.c128)))))))))) hf (by kernel_rfl) hp (i := 0) rfl rfl rfl rfl rfl (hsetN hq130 (hsetN hq94 (hsetN hq91 kl0))).1 (hsetN hq130 (hsetN hq94 (hsetN hq91 kl0))).2 ?_
  clear hf; intro a w hf hp0; clear hp; have hp := hp0; clear hp0
  replace hp : Hp _ _ _ (Res.sl (Ek.pair (Ek.int .i64) (Ek.pair (Ek.arr 64 Ek.c128) (Ek.pair (Ek.arr 64 Ek.c128) (Ek.pair (Ek.int .i64) (Ek.pair (Ek.int .i64) (Ek.pair Ek.f64 (Ek.pair (Ek.int .i64) (Ek.pair Ek.bool (Ek.pair Ek.bool Ek.c128))))))))) tbl0 vl0 (q128.set (il0).toNat ((gt q128 il0).1, (gt q128 il0).2.1, (gt q128 il0).2.2.1, (gt q128 il0).2.2.2.1, (((IntKind.i64.wrap ((gt q128 il0).2.2.2.2.1 + (1 : Int)))).tmod (64 : Int)), (gt q128 il0).2.2.2.2.2.1, (gt q128 il0).2.2.2.2.2.2.1, (gt q128 il0).2.2.2.2.2.2.2.1, (gt q128 il0).2.2.2.2.2.2.2.2.1, (gt q128 il0).2.2.2.2.2.2.2.2.2)) :: Res.obj 58 v113 [.int .i64 q107.1.1, .complex .f64 v109 v110, .bool q107.1.2.2] :: Res.obj 58 v4 [.int .i64 (0 : Int), .complex .f64 0 0, .bool false] :: ow) := hp
  obtain ⟨q131, hq132, h⟩ := bnd h
  have hq133 := Option.some.inj hq132
  rw [hq133] at hp
  replace hp : Hp _ _ _ (Res.sl (Ek.pair (Ek.int .i64) (Ek.pair (Ek.arr 64 Ek.c128) (Ek.pair (Ek.arr 64 Ek.c128) (Ek.pair (Ek.int .i64) (Ek.pair (Ek.int .i64) (Ek.pair Ek.f64 (Ek.pair (Ek.int .i64) (Ek.pair Ek.bool (Ek.pair Ek.bool Ek.c128))))))))) tbl0 vl0 q131 :: Res.obj 58 v113 [.int .i64 q107.1.1, .complex .f64 v109 v110, .bool q107.1.2.2] :: Res.obj 58 v4 [.int .i64 (0 : Int), .complex .f64 0 0, .bool false] :: ow) := hp
  refine st_nil hf ?_
  refine th_n ?_
  refine wp_seq ?_
  refine wp_reg ?_
  refine st_ldOA (m := 3) (us := [.int .i64 q107.1.1, .complex .f64 v109 v110, .bool q107.1.2.2]) hf (by decide) (by kernel_rfl) rfl rfl (hp.ob (i := 1) rfl) rfl rfl ?_
  clear hf; intro a ha hf; clear ha
  refine st_move hf rfl rfl (by decide) ?_
  clear hf; intro a ha hf; clear ha
  refine st_stO (us := [.int .i64 q107.1.1, .complex .f64 v109 v110, .bool q107.1.2.2]) hf hp (i := 2) rfl rfl rfl rfl rfl (by rfl) (by kernel_rfl) (Nat.le_of_ble_eq_true rfl) ?_
  clear hf; intro a w hf hp0; clear hp; have hp := hp0; clear hp0
  replace hp : Hp _ _ _ (Res.sl (Ek.pair (Ek.int .i64) (Ek.pair (Ek.arr 64 Ek.c128) (Ek.pair (Ek.arr 64 Ek.c128) (Ek.pair (Ek.int .i64) (Ek.pair (Ek.int .i64) (Ek.pair Ek.f64 (Ek.pair (Ek.int .i64) (Ek.pair Ek.bool (Ek.pair Ek.bool Ek.c128))))))))) tbl0 vl0 q131 :: Res.obj 58 v113 [.int .i64 q107.1.1, .complex .f64 v109 v110, .bool q107.1.2.2] :: Res.obj 58 v4 [.int .i64 q107.1.1, .complex .f64 v109 v110, .bool q107.1.2.2] :: ow) := hp
  refine st_assign hf rfl rfl (by decide) ?_
  clear hf; intro a ha hf; clear ha
  refine st_nil hf ?_
  refine th_n ?_
  refine wp_ret ?_
  obtain rfl := Option.some.inj h
  have hp : Hp _ _ _ (Res.obj 58 v4 [.int .i64 q107.1.1, .complex .f64 v109 v110, .bool q107.1.2.2] :: Res.sl (Ek.pair (Ek.int .i64) (Ek.pair (Ek.arr 64 Ek.c128) (Ek.pair (Ek.arr 64 Ek.c128) (Ek.pair (Ek.int .i64) (Ek.pair (Ek.int .i64) (Ek.pair Ek.f64 (Ek.pair (Ek.int .i64) (Ek.pair Ek.bool (Ek.pair Ek.bool Ek.c128))))))))) tbl0 vl0 q131 :: ow) := Hp.sel (pre := [Res.sl (Ek.pair (Ek.int .i64) (Ek.pair (Ek.arr 64 Ek.c128) (Ek.pair (Ek.arr 64 Ek.c128) (Ek.pair (Ek.int .i64) (Ek.pair (Ek.int .i64) (Ek.pair Ek.f64 (Ek.pair (Ek.int .i64) (Ek.pair Ek.bool (Ek.pair Ek.bool Ek.c128))))))))) tbl0 vl0 q131, Res.obj 58 v113 [.int .i64 q107.1.1, .complex .f64 v109 v110, .bool q107.1.2.2], Res.obj 58 v4 [.int .i64 q107.1.1, .complex .f64 v109 v110, .bool q107.1.2.2]]) (tail := ow) (rs' := [Res.obj 58 v4 [.int .i64 q107.1.1, .complex .f64 v109 v110, .bool q107.1.2.2], Res.sl (Ek.pair (Ek.int .i64) (Ek.pair (Ek.arr 64 Ek.c128) (Ek.pair (Ek.arr 64 Ek.c128) (Ek.pair (Ek.int .i64) (Ek.pair (Ek.int .i64) (Ek.pair Ek.f64 (Ek.pair (Ek.int .i64) (Ek.pair Ek.bool (Ek.pair Ek.bool Ek.c128))))))))) tbl0 vl0 q131]) hp [2, 0] (by decide) (by simp) rfl
  exact ⟨rfl, ⟨_, _, _, hf.sub ⟨rfl, rfl, trivial⟩, y111, y112, hp⟩⟩

noncomputable def f_feedback_run.j1 (out13 : (List (Int × (Fl × Fl) × Bool))) (far14 : (List (Fl × Fl))) (t45 : Int) (q35 : ((Int × (Fl × Fl) × Bool) × Int × (List (Int × (List (Fl × Fl)) × (List (Fl × Fl)) × Int × Int × Fl × Int × Bool × Bool × (Fl × Fl))))) (zx19 : (Fl × Fl)) : Option (((List (Int × (List (Fl × Fl)) × (List (Fl × Fl)) × Int × Int × Fl × Int × Bool × Bool × (Fl × Fl))) × (List (Int × (Fl × Fl) × Bool)) × (List (Fl × Fl)) × Int) ⊕ ((List (Int × (Fl × Fl) × Bool)) × (List (Fl × Fl)))) := (if (out13.length + ([(q35.1.1, q35.1.2.1, q35.1.2.2)]).length) * 32 ≤ 140737488355328 then (if (far14.length + ([zx19]).length) * 16 ≤ 140737488355328 then (some (Sum.inl (q35.2.2, (out13 ++ [(q35.1.1, q35.1.2.1, q35.1.2.2)]), (far14 ++ [zx19]), (IntKind.i64.wrap (t45 + (1 : Int)))))) else none) else none)
noncomputable def f_feedback_run.s1c (row2 : (List ((Fl × Fl) × Bool))) (l9 : (List (Int × (List (Fl × Fl)) × (List (Fl × Fl)) × Int × Int × Fl × Int × Bool × Bool × (Fl × Fl)))) (out13 : (List (Int × (Fl × Fl) × Bool))) (far14 : (List (Fl × Fl))) (t45 : Int) : Option (((List (Int × (List (Fl × Fl)) × (List (Fl × Fl)) × Int × Int × Fl × Int × Bool × Bool × (Fl × Fl))) × (List (Int × (Fl × Fl) × Bool)) × (List (Fl × Fl)) × Int) ⊕ ((List (Int × (Fl × Fl) × Bool)) × (List (Fl × Fl)))) := (if (decide (t45 < (row2.length : Int))) = true then (if 0 ≤ t45 ∧ t45 < (row2.length : Int) then ((f_feedback_Loop_Step l9 (0 : Int) ((gt row2 t45).1) ((gt row2 t45).2)).bind fun q35 => (if (!q35.1.2.2) = true then ((farithS .sub ((gt q35.2.2 (0 : Int)).2.2.2.2.2.2.2.2.2.1) q35.1.2.1.1).bind fun q74 => ((farithS .sub ((gt q35.2.2 (0 : Int)).2.2.2.2.2.2.2.2.2.2) q35.1.2.1.2).bind fun q81 => (f_feedback_run.j1 out13 far14 t45 q35 (q74, q81)))) else (f_feedback_run.j1 out13 far14 t45 q35 (Fl.bits 0, Fl.bits 0)))) else none) else (some (Sum.inr (out13, far14))))
noncomputable def f_feedback_run.s1 (row2 : (List ((Fl × Fl) × Bool))) (s : ((List (Int × (List (Fl × Fl)) × (List (Fl × Fl)) × Int × Int × Fl × Int × Bool × Bool × (Fl × Fl))) × (List (Int × (Fl × Fl) × Bool)) × (List (Fl × Fl)) × Int)) : Option (((List (Int × (List (Fl × Fl)) × (List (Fl × Fl)) × Int × Int × Fl × Int × Bool × Bool × (Fl × Fl))) × (List (Int × (Fl × Fl) × Bool)) × (List (Fl × Fl)) × Int) ⊕ ((List (Int × (Fl × Fl) × Bool)) × (List (Fl × Fl)))) := f_feedback_run.s1c row2 s.1 s.2.1 s.2.2.1 s.2.2.2
noncomputable def f_feedback_run (hx1 : (List (Fl × Fl))) (row2 : (List ((Fl × Fl) × Bool))) : Option ((List (Int × (Fl × Fl) × Bool)) × (List (Fl × Fl)) × Int) := ((f_feedback_New hx1).bind fun q1 => (if (q1.2 != (0 : Int)) = true then (some ([], [], q1.2)) else ((f_grid_Check row2).bind fun q7 => (if (q7.2 != (0 : Int)) = true then (some ([], [], q7.2)) else (if 0 ≤ (0 : Int) ∧ (0 : Int) ≤ (row2.length : Int) ∧ (row2.length : Int) * 32 ≤ 281474976710656 then (if 0 ≤ (0 : Int) ∧ (0 : Int) ≤ (row2.length : Int) ∧ (row2.length : Int) * 16 ≤ 281474976710656 then ((loop (f_feedback_run.s1 row2) ([q1.1], (List.replicate ((0 : Int)).toNat ((0 : Int), (Fl.bits 0, Fl.bits 0), false)), (List.replicate ((0 : Int)).toNat (Fl.bits 0, Fl.bits 0)), (0 : Int))).bind (fun q83 => (some (q83.1, q83.2, (0 : Int))))) else none) else none)))))
theorem f_feedback_run_c {S : Nat → Prop} {w0 w : World} {ow : List Res} (hp : Hp S w0 w ow) (vhx1 : Value) (hx1 : (List (Fl × Fl))) (hhx1 : RdS Ek.c128 S w0 vhx1 hx1) (vrow2 : Value) (row2 : (List ((Fl × Fl) × Bool))) (hrow2 : RdS (Ek.pair Ek.c128 Ek.bool) S w0 vrow2 row2) {r : ((List (Int × (Fl × Fl) × Bool)) × (List (Fl × Fl)) × Int)} (h : f_feedback_run hx1 row2 = some r) :
    Calls Try.prog 18 #[.int .i64 (4 : Int), vhx1, vrow2] w (fun e w' => ∃ (u0 : Value) (u1 : Value), e = .returned (.tuple #[u0, u1, .int .i64 r.2.2]) ∧ Hp S w0 w' (Res.sl (Ek.pair (Ek.int .i64) (Ek.pair Ek.c128 Ek.bool)) 58 u0 r.1 :: Res.sl Ek.c128 39 u1 r.2.1 :: ow)) := by
  unfold f_feedback_run at h
  refine enter (n := 88) (args := [.int .i64 (4 : Int), vhx1, vrow2]) Try.func18 rfl rfl (Nat.le_of_ble_eq_true rfl) fun a hf => ?_
  replace hf : Fr 88 a [(0, .int .i64 (4 : Int)), (1, vhx1), (2, vrow2)] := hf
  refine wp_mono (Q := fun e a w => e = .ret ∧ ∃ (u0 : Value) (u1 : Value), Fr 88 a [(6, u0), (7, u1), (8, .int .i64 r.2.2)] ∧ Hp S w0 w (Res.sl (Ek.pair (Ek.int .i64) (Ek.pair Ek.c128 Ek.bool)) 58 u0 r.1 :: Res.sl Ek.c128 39 u1 r.2.1 :: ow)) ?_ ?_
  rotate_left
  · rintro e a w ⟨rfl, x0, x1, hf, hp⟩
    exact ret3 hf rfl rfl rfl rfl ⟨x0, x1, rfl, hp⟩
  refine wp_seq ?_
  refine wp_reg ?_
  refine st_assign hf rfl rfl (by decide) ?_
  clear hf; intro a ha hf; clear ha
  refine st_assign hf rfl rfl (by decide) ?_
  clear hf; intro a ha hf; clear ha
  refine st_assign hf rfl rfl (by decide) ?_
  clear hf; intro a ha hf; clear ha
  refine st_nil hf ?_
  refine th_n ?_
  refine wp_seq ?_
  refine wp_reg ?_
  refine st_move hf rfl rfl (by decide) ?_
  clear hf; intro a ha hf; clear ha
  refine st_move hf rfl rfl (by decide) ?_
  clear hf; intro a ha hf; clear ha
  obtain ⟨q1, hcall2, h⟩ := bnd h
  refine st_call hf (by decide) Try.func31 rfl rfl rfl rfl rfl (f_feedback_New_c hp _ _ hhx1 hcall2) ?_
  rintro _ w ⟨v3, rfl, hp0⟩
  clear hp; have hp := hp0; clear hp0
  replace hp : Hp _ _ _ (Res.sl (Ek.pair (Ek.int .i64) (Ek.pair (Ek.arr 64 Ek.c128) (Ek.pair (Ek.arr 64 Ek.c128) (Ek.pair (Ek.int .i64) (Ek.pair (Ek.int .i64) (Ek.pair Ek.f64 (Ek.pair (Ek.int .i64) (Ek.pair Ek.bool (Ek.pair Ek.bool Ek.c128))))))))) 89 (aslv v3 1) ([q1.1]) :: ow) := hp
  refine ⟨_, rfl, ?_⟩
  clear hf; intro a hf
  refine st_move hf rfl rfl (by decide) ?_
  clear hf; intro a ha hf; clear ha
  refine st_extract hf (by decide) rfl rfl rfl ?_
  clear hf; intro a ha hf; clear ha
  refine st_extract hf (by decide) rfl rfl rfl ?_
  clear hf; intro a ha hf; clear ha
  refine st_assign hf rfl rfl (by decide) ?_
  clear hf; intro a ha hf; clear ha
  refine st_assign hf rfl rfl (by decide) ?_
  clear hf; intro a ha hf; clear ha
  refine st_nil hf ?_
  refine th_n ?_
  refine wp_seq ?_
  refine wp_seq ?_
  refine wp_reg ?_
  refine st_move hf rfl rfl (by decide) ?_
  clear hf; intro a ha hf; clear ha
  refine st_ineq hf (by decide) rfl rfl rfl ?_
  clear hf; intro a ha hf; clear ha
  refine st_nil hf ?_
  refine th_n ?_
  refine wp_if hf rfl (fun hb => ?_) (fun hb => ?_)
  · replace h := ifT h hb
    refine wp_seq ?_
    refine wp_reg ?_
    refine st_move hf rfl rfl (by decide) ?_
    clear hf; intro a ha hf; clear ha
    refine st_assign hf rfl rfl (by decide) ?_
    clear hf; intro a ha hf; clear ha
    refine st_assign hf rfl rfl (by decide) ?_
    clear hf; intro a ha hf; clear ha
    refine st_assign hf rfl rfl (by decide) ?_
    clear hf; intro a ha hf; clear ha
    refine st_nil hf ?_
    refine th_n ?_
    refine wp_ret ?_
    refine th_r ?_
    obtain rfl := Option.some.inj h
    have hp := hp.nil (Ek.pair (Ek.int .i64) (Ek.pair Ek.c128 Ek.bool)) 58
    have hp := hp.nil Ek.c128 39
    have hp : Hp _ _ _ (Res.sl (Ek.pair (Ek.int .i64) (Ek.pair Ek.c128 Ek.bool)) 58 (.slice none 0 0) ([]) :: Res.sl Ek.c128 39 (.slice none 0 0) ([]) :: ow) := Hp.sel (pre := [Res.sl Ek.c128 39 (.slice none 0 0) ([]), Res.sl (Ek.pair (Ek.int .i64) (Ek.pair Ek.c128 Ek.bool)) 58 (.slice none 0 0) ([]), Res.sl (Ek.pair (Ek.int .i64) (Ek.pair (Ek.arr 64 Ek.c128) (Ek.pair (Ek.arr 64 Ek.c128) (Ek.pair (Ek.int .i64) (Ek.pair (Ek.int .i64) (Ek.pair Ek.f64 (Ek.pair (Ek.int .i64) (Ek.pair Ek.bool (Ek.pair Ek.bool Ek.c128))))))))) 89 (aslv v3 1) ([q1.1])]) (tail := ow) (rs' := [Res.sl (Ek.pair (Ek.int .i64) (Ek.pair Ek.c128 Ek.bool)) 58 (.slice none 0 0) ([]), Res.sl Ek.c128 39 (.slice none 0 0) ([])]) hp [1, 0] (by decide) (by simp) rfl
    exact ⟨rfl, ⟨_, _, hf.sub ⟨rfl, rfl, rfl, trivial⟩, hp⟩⟩
  replace h := ifF h hb
  refine wp_skip ?_
  refine th_n ?_
  refine wp_seq ?_
  refine wp_seq ?_
  refine wp_reg ?_
  refine st_move hf rfl rfl (by decide) ?_
  clear hf; intro a ha hf; clear ha
  obtain ⟨q7, hcall8, h⟩ := bnd h
  refine st_call hf (by decide) Try.func32 rfl rfl rfl rfl rfl (f_grid_Check_c hp _ _ hrow2 hcall8) ?_
  rintro _ w ⟨rfl, hp0⟩
  clear hp; have hp := hp0; clear hp0
  replace hp : Hp _ _ _ (Res.sl (Ek.pair (Ek.int .i64) (Ek.pair (Ek.arr 64 Ek.c128) (Ek.pair (Ek.arr 64 Ek.c128) (Ek.pair (Ek.int .i64) (Ek.pair (Ek.int .i64) (Ek.pair Ek.f64 (Ek.pair (Ek.int .i64) (Ek.pair Ek.bool (Ek.pair Ek.bool Ek.c128))))))))) 89 (aslv v3 1) ([q1.1]) :: ow) := hp
  refine ⟨_, rfl, ?_⟩
  clear hf; intro a hf
  refine st_move hf rfl rfl (by decide) ?_
  clear hf; intro a ha hf; clear ha
  refine st_extract hf (by decide) rfl rfl rfl ?_
  clear hf; intro a ha hf; clear ha
  refine st_extract hf (by decide) rfl rfl rfl ?_
  clear hf; intro a ha hf; clear ha
  refine st_assign hf rfl rfl (by decide) ?_
  clear hf; intro a ha hf; clear ha
  refine st_assign hf rfl rfl (by decide) ?_
  clear hf; intro a ha hf; clear ha
  refine st_nil hf ?_
  refine th_n ?_
  refine wp_seq ?_
  refine wp_reg ?_
  refine st_move hf rfl rfl (by decide) ?_
  clear hf; intro a ha hf; clear ha
  refine st_ineq hf (by decide) rfl rfl rfl ?_
  clear hf; intro a ha hf; clear ha
  refine st_nil hf ?_
  refine th_n ?_
  refine wp_if hf rfl (fun hb => ?_) (fun hb => ?_)
  · replace h := ifT h hb
    refine wp_seq ?_
    refine wp_reg ?_
    refine st_move hf rfl rfl (by decide) ?_
    clear hf; intro a ha hf; clear ha
    refine st_assign hf rfl rfl (by decide) ?_
    clear hf; intro a ha hf; clear ha
    refine st_assign hf rfl rfl (by decide) ?_
    clear hf; intro a ha hf; clear ha
    refine st_assign hf rfl rfl (by decide) ?_
    clear hf; intro a ha hf; clear ha
    refine st_nil hf ?_
    refine th_n ?_
    refine wp_ret ?_
    refine th_r ?_
    obtain rfl := Option.some.inj h
    have hp := hp.nil (Ek.pair (Ek.int .i64) (Ek.pair Ek.c128 Ek.bool)) 58
    have hp := hp.nil Ek.c128 39
    have hp : Hp _ _ _ (Res.sl (Ek.pair (Ek.int .i64) (Ek.pair Ek.c128 Ek.bool)) 58 (.slice none 0 0) ([]) :: Res.sl Ek.c128 39 (.slice none 0 0) ([]) :: ow) := Hp.sel (pre := [Res.sl Ek.c128 39 (.slice none 0 0) ([]), Res.sl (Ek.pair (Ek.int .i64) (Ek.pair Ek.c128 Ek.bool)) 58 (.slice none 0 0) ([]), Res.sl (Ek.pair (Ek.int .i64) (Ek.pair (Ek.arr 64 Ek.c128) (Ek.pair (Ek.arr 64 Ek.c128) (Ek.pair (Ek.int .i64) (Ek.pair (Ek.int .i64) (Ek.pair Ek.f64 (Ek.pair (Ek.int .i64) (Ek.pair Ek.bool (Ek.pair Ek.bool Ek.c128))))))))) 89 (aslv v3 1) ([q1.1])]) (tail := ow) (rs' := [Res.sl (Ek.pair (Ek.int .i64) (Ek.pair Ek.c128 Ek.bool)) 58 (.slice none 0 0) ([]), Res.sl Ek.c128 39 (.slice none 0 0) ([])]) hp [1, 0] (by decide) (by simp) rfl
    exact ⟨rfl, ⟨_, _, hf.sub ⟨rfl, rfl, rfl, trivial⟩, hp⟩⟩
  replace h := ifF h hb
  refine wp_skip ?_
  refine th_n ?_
  refine wp_seq ?_
  obtain ⟨hc11, h⟩ := chk h
  obtain ⟨hc14, h⟩ := chk h
  refine wp_cutN (fun a w => ∃ (v12 : Value) (v15 : Value), Fr 88 a [(2, vrow2), (9, eptr (aslv v3 1) (0 : Int) 136), (13, v12), (14, v15)] ∧ Hp S w0 w (Res.sl Ek.c128 39 v15 (List.replicate ((0 : Int)).toNat (Fl.bits 0, Fl.bits 0)) :: Res.sl (Ek.pair (Ek.int .i64) (Ek.pair Ek.c128 Ek.bool)) 58 v12 (List.replicate ((0 : Int)).toNat ((0 : Int), (Fl.bits 0, Fl.bits 0), false)) :: Res.sl (Ek.pair (Ek.int .i64) (Ek.pair (Ek.arr 64 Ek.c128) (Ek.pair (Ek.arr 64 Ek.c128) (Ek.pair (Ek.int .i64) (Ek.pair (Ek.int .i64) (Ek.pair Ek.f64 (Ek.pair (Ek.int .i64) (Ek.pair Ek.bool (Ek.pair Ek.bool Ek.c128))))))))) 89 (aslv v3 1) ([q1.1]) :: ow)) ?_ ?_
  · have hp := hp.same (Same.drew w)
    refine dr_begin' (fun a w => ∃ (v12 : Value) (v15 : Value), Fr 88 a [(2, vrow2), (9, eptr (aslv v3 1) (0 : Int) 136), (13, v12), (14, v15)] ∧ Hp S w0 w (Res.sl Ek.c128 39 v15 (List.replicate ((0 : Int)).toNat (Fl.bits 0, Fl.bits 0)) :: Res.sl (Ek.pair (Ek.int .i64) (Ek.pair Ek.c128 Ek.bool)) 58 v12 (List.replicate ((0 : Int)).toNat ((0 : Int), (Fl.bits 0, Fl.bits 0), false)) :: Res.sl (Ek.pair (Ek.int .i64) (Ek.pair (Ek.arr 64 Ek.c128) (Ek.pair (Ek.arr 64 Ek.c128) (Ek.pair (Ek.int .i64) (Ek.pair (Ek.int .i64) (Ek.pair Ek.f64 (Ek.pair (Ek.int .i64) (Ek.pair Ek.bool (Ek.pair Ek.bool Ek.c128))))))))) 89 (aslv v3 1) ([q1.1]) :: ow)) (fun w' => ∃ l, Hp S w0 w' l) [] (by kernel_rfl) ?_
    refine dr_take 0 (vrow2) rfl (by kernel_rfl) (by kernel_rfl) (by kernel_rfl) (by kernel_rfl) rfl rfl hf (by decide) rfl (fun w hp => ?_) ⟨_, hp⟩ ?_
    · obtain ⟨_, hp⟩ := hp
      refine st_move hf rfl rfl (by decide) ?_
      clear hf; intro a ha hf
      exact st_nil hf (th_n ⟨ha, rfl⟩)
    clear hf; intro a hf
    refine dr_take 1 (.int .i64 (row2.length : Int)) rfl (by kernel_rfl) (by kernel_rfl) (by kernel_rfl) (by kernel_rfl) rfl rfl hf (by decide) rfl (fun w hp => ?_) ⟨_, hp⟩ ?_
    · obtain ⟨_, hp⟩ := hp
      refine st_len (E := (Ek.pair Ek.c128 Ek.bool)) hf (by decide) Try.underlying52 rfl rfl (hrow2.sl hp) ?_
      clear hf; intro a ha hf
      exact st_nil hf (th_n ⟨ha, rfl⟩)
    clear hf; intro a hf
    refine dr_take 3 (vrow2) rfl (by kernel_rfl) (by kernel_rfl) (by kernel_rfl) (by kernel_rfl) rfl rfl hf (by decide) rfl (fun w hp => ?_) ⟨_, hp⟩ ?_
    · obtain ⟨_, hp⟩ := hp
      refine st_move hf rfl rfl (by decide) ?_
      clear hf; intro a ha hf
      exact st_nil hf (th_n ⟨ha, rfl⟩)
    clear hf; intro a hf
    refine dr_take 4 (.int .i64 (row2.length : Int)) rfl (by kernel_rfl) (by kernel_rfl) (by kernel_rfl) (by kernel_rfl) rfl rfl hf (by decide) rfl (fun w hp => ?_) ⟨_, hp⟩ ?_
    · obtain ⟨_, hp⟩ := hp
      refine st_len (E := (Ek.pair Ek.c128 Ek.bool)) hf (by decide) Try.underlying52 rfl rfl (hrow2.sl hp) ?_
      clear hf; intro a ha hf
      exact st_nil hf (th_n ⟨ha, rfl⟩)
    clear hf; intro a hf
    refine dr_two 2 5 rfl rfl (by kernel_rfl) ?_ ?_
    · skip
      refine st_make (E := (Ek.pair (Ek.int .i64) (Ek.pair Ek.c128 Ek.bool))) hf (by decide) elt58 Try.underlying47 (by decide) hp rfl rfl rfl hc11.1 hc11.2.1 hc11.2.2 ?_
      clear hf; intro a w v12 hf hp0; clear hp; have hp := hp0; clear hp0
      replace hp : Hp _ _ _ (Res.sl (Ek.pair (Ek.int .i64) (Ek.pair Ek.c128 Ek.bool)) 58 v12 (List.replicate ((0 : Int)).toNat ((0 : Int), (Fl.bits 0, Fl.bits 0), false)) :: Res.sl (Ek.pair (Ek.int .i64) (Ek.pair (Ek.arr 64 Ek.c128) (Ek.pair (Ek.arr 64 Ek.c128) (Ek.pair (Ek.int .i64) (Ek.pair (Ek.int .i64) (Ek.pair Ek.f64 (Ek.pair (Ek.int .i64) (Ek.pair Ek.bool (Ek.pair Ek.bool Ek.c128))))))))) 89 (aslv v3 1) ([q1.1]) :: ow) := hp
      refine st_nil hf (th_n ⟨fun _ _ => ⟨_, hp⟩, ?_⟩)
      refine dr_take 6 (v12) rfl (by kernel_rfl) (by kernel_rfl) (by kernel_rfl) (by kernel_rfl) rfl rfl hf (by decide) rfl (fun w hp => ?_) ⟨_, hp⟩ ?_
      · obtain ⟨_, hp⟩ := hp
        refine st_assign hf rfl rfl (by decide) ?_
        clear hf; intro a ha hf
        exact st_nil hf (th_n ⟨ha, rfl⟩)
      clear hf; intro a hf
      refine dr_one 5 rfl (by kernel_rfl) ?_
      refine st_make (E := Ek.c128) hf (by decide) elt39 Try.underlying32 (by decide) hp rfl rfl rfl hc14.1 hc14.2.1 hc14.2.2 ?_
      clear hf; intro a w v15 hf hp0; clear hp; have hp := hp0; clear hp0
      replace hp : Hp _ _ _ (Res.sl Ek.c128 39 v15 (List.replicate ((0 : Int)).toNat (Fl.bits 0, Fl.bits 0)) :: Res.sl (Ek.pair (Ek.int .i64) (Ek.pair Ek.c128 Ek.bool)) 58 v12 (List.replicate ((0 : Int)).toNat ((0 : Int), (Fl.bits 0, Fl.bits 0), false)) :: Res.sl (Ek.pair (Ek.int .i64) (Ek.pair (Ek.arr 64 Ek.c128) (Ek.pair (Ek.arr 64 Ek.c128) (Ek.pair (Ek.int .i64) (Ek.pair (Ek.int .i64) (Ek.pair Ek.f64 (Ek.pair (Ek.int .i64) (Ek.pair Ek.bool (Ek.pair Ek.bool Ek.c128))))))))) 89 (aslv v3 1) ([q1.1]) :: ow) := hp
      refine st_nil hf (th_n ⟨fun _ _ => ⟨_, hp⟩, ?_⟩)
      refine dr_take 7 (v15) rfl (by kernel_rfl) (by kernel_rfl) (by kernel_rfl) (by kernel_rfl) rfl rfl hf (by decide) rfl (fun w hp => ?_) ⟨_, hp⟩ ?_
      · obtain ⟨_, hp⟩ := hp
        refine st_assign hf rfl rfl (by decide) ?_
        clear hf; intro a ha hf
        exact st_nil hf (th_n ⟨ha, rfl⟩)
      clear hf; intro a hf
      refine dr_end (by kernel_rfl) ?_ _
      exact ⟨v12, v15, hf.sub ⟨rfl, rfl, rfl, rfl, trivial⟩, hp⟩
    · skip
      refine st_make (E := Ek.c128) hf (by decide) elt39 Try.underlying32 (by decide) hp rfl rfl rfl hc14.1 hc14.2.1 hc14.2.2 ?_
      clear hf; intro a w v15 hf hp0; clear hp; have hp := hp0; clear hp0
      replace hp : Hp _ _ _ (Res.sl Ek.c128 39 v15 (List.replicate ((0 : Int)).toNat (Fl.bits 0, Fl.bits 0)) :: Res.sl (Ek.pair (Ek.int .i64) (Ek.pair (Ek.arr 64 Ek.c128) (Ek.pair (Ek.arr 64 Ek.c128) (Ek.pair (Ek.int .i64) (Ek.pair (Ek.int .i64) (Ek.pair Ek.f64 (Ek.pair (Ek.int .i64) (Ek.pair Ek.bool (Ek.pair Ek.bool Ek.c128))))))))) 89 (aslv v3 1) ([q1.1]) :: ow) := hp
      refine st_nil hf (th_n ⟨fun _ _ => ⟨_, hp⟩, ?_⟩)
      refine dr_one 2 rfl (by kernel_rfl) ?_
      refine st_make (E := (Ek.pair (Ek.int .i64) (Ek.pair Ek.c128 Ek.bool))) hf (by decide) elt58 Try.underlying47 (by decide) hp rfl rfl rfl hc11.1 hc11.2.1 hc11.2.2 ?_
      clear hf; intro a w v12 hf hp0; clear hp; have hp := hp0; clear hp0
      replace hp : Hp _ _ _ (Res.sl (Ek.pair (Ek.int .i64) (Ek.pair Ek.c128 Ek.bool)) 58 v12 (List.replicate ((0 : Int)).toNat ((0 : Int), (Fl.bits 0, Fl.bits 0), false)) :: Res.sl Ek.c128 39 v15 (List.replicate ((0 : Int)).toNat (Fl.bits 0, Fl.bits 0)) :: Res.sl (Ek.pair (Ek.int .i64) (Ek.pair (Ek.arr 64 Ek.c128) (Ek.pair (Ek.arr 64 Ek.c128) (Ek.pair (Ek.int .i64) (Ek.pair (Ek.int .i64) (Ek.pair Ek.f64 (Ek.pair (Ek.int .i64) (Ek.pair Ek.bool (Ek.pair Ek.bool Ek.c128))))))))) 89 (aslv v3 1) ([q1.1]) :: ow) := hp
      refine st_nil hf (th_n ⟨fun _ _ => ⟨_, hp⟩, ?_⟩)
      refine dr_take 6 (v12) rfl (by kernel_rfl) (by kernel_rfl) (by kernel_rfl) (by kernel_rfl) rfl rfl hf (by decide) rfl (fun w hp => ?_) ⟨_, hp⟩ ?_
      · obtain ⟨_, hp⟩ := hp
        refine st_assign hf rfl rfl (by decide) ?_
        clear hf; intro a ha hf
        exact st_nil hf (th_n ⟨ha, rfl⟩)
      clear hf; intro a hf
      refine dr_take 7 (v15) rfl (by kernel_rfl) (by kernel_rfl) (by kernel_rfl) (by kernel_rfl) rfl rfl hf (by decide) rfl (fun w hp => ?_) ⟨_, hp⟩ ?_
      · obtain ⟨_, hp⟩ := hp
        refine st_assign hf rfl rfl (by decide) ?_
        clear hf; intro a ha hf
        exact st_nil hf (th_n ⟨ha, rfl⟩)
      clear hf; intro a hf
      refine dr_end (by kernel_rfl) ?_ _
      have hp : Hp _ _ _ (Res.sl Ek.c128 39 v15 (List.replicate ((0 : Int)).toNat (Fl.bits 0, Fl.bits 0)) :: Res.sl (Ek.pair (Ek.int .i64) (Ek.pair Ek.c128 Ek.bool)) 58 v12 (List.replicate ((0 : Int)).toNat ((0 : Int), (Fl.bits 0, Fl.bits 0), false)) :: Res.sl (Ek.pair (Ek.int .i64) (Ek.pair (Ek.arr 64 Ek.c128) (Ek.pair (Ek.arr 64 Ek.c128) (Ek.pair (Ek.int .i64) (Ek.pair (Ek.int .i64) (Ek.pair Ek.f64 (Ek.pair (Ek.int .i64) (Ek.pair Ek.bool (Ek.pair Ek.bool Ek.c128))))))))) 89 (aslv v3 1) ([q1.1]) :: ow) := Hp.sel (pre := [Res.sl (Ek.pair (Ek.int .i64) (Ek.pair Ek.c128 Ek.bool)) 58 v12 (List.replicate ((0 : Int)).toNat ((0 : Int), (Fl.bits 0, Fl.bits 0), false)), Res.sl Ek.c128 39 v15 (List.replicate ((0 : Int)).toNat (Fl.bits 0, Fl.bits 0)), Res.sl (Ek.pair (Ek.int .i64) (Ek.pair (Ek.arr 64 Ek.c128) (Ek.pair (Ek.arr 64 Ek.c128) (Ek.pair (Ek.int .i64) (Ek.pair (Ek.int .i64) (Ek.pair Ek.f64 (Ek.pair (Ek.int .i64) (Ek.pair Ek.bool (Ek.pair Ek.bool Ek.c128))))))))) 89 (aslv v3 1) ([q1.1])]) (tail := ow) (rs' := [Res.sl Ek.c128 39 v15 (List.replicate ((0 : Int)).toNat (Fl.bits 0, Fl.bits 0)), Res.sl (Ek.pair (Ek.int .i64) (Ek.pair Ek.c128 Ek.bool)) 58 v12 (List.replicate ((0 : Int)).toNat ((0 : Int), (Fl.bits 0, Fl.bits 0), false)), Res.sl (Ek.pair (Ek.int .i64) (Ek.pair (Ek.arr 64 Ek.c128) (Ek.pair (Ek.arr 64 Ek.c128) (Ek.pair (Ek.int .i64) (Ek.pair (Ek.int .i64) (Ek.pair Ek.f64 (Ek.pair (Ek.int .i64) (Ek.pair Ek.bool (Ek.pair Ek.bool Ek.c128))))))))) 89 (aslv v3 1) ([q1.1])]) hp [1, 0, 2] (by decide) (by simp) rfl
      exact ⟨v12, v15, hf.sub ⟨rfl, rfl, rfl, rfl, trivial⟩, hp⟩
  rintro a w ⟨v12, v15, hf, hp⟩
  refine th_n ?_
  refine wp_seq ?_
  refine wp_seq ?_
  refine wp_reg ?_
  refine st_move hf rfl rfl (by decide) ?_
  clear hf; intro a ha hf; clear ha
  refine st_len (E := (Ek.pair Ek.c128 Ek.bool)) hf (by decide) Try.underlying52 rfl rfl (hrow2.sl hp) ?_
  clear hf; intro a ha hf; clear ha
  refine st_move hf rfl rfl (by decide) ?_
  clear hf; intro a ha hf; clear ha
  refine st_nil hf ?_
  refine th_n ?_
  refine wp_block ?_
  obtain ⟨q83, hl, h⟩ := bnd h
  have hp : Hp _ _ _ (Res.sl (Ek.pair (Ek.int .i64) (Ek.pair (Ek.arr 64 Ek.c128) (Ek.pair (Ek.arr 64 Ek.c128) (Ek.pair (Ek.int .i64) (Ek.pair (Ek.int .i64) (Ek.pair Ek.f64 (Ek.pair (Ek.int .i64) (Ek.pair Ek.bool (Ek.pair Ek.bool Ek.c128))))))))) 89 (aslv v3 1) ([q1.1]) :: Res.sl (Ek.pair (Ek.int .i64) (Ek.pair Ek.c128 Ek.bool)) 58 v12 (List.replicate ((0 : Int)).toNat ((0 : Int), (Fl.bits 0, Fl.bits 0), false)) :: Res.sl Ek.c128 39 v15 (List.replicate ((0 : Int)).toNat (Fl.bits 0, Fl.bits 0)) :: ow) := Hp.sel (pre := [Res.sl Ek.c128 39 v15 (List.replicate ((0 : Int)).toNat (Fl.bits 0, Fl.bits 0)), Res.sl (Ek.pair (Ek.int .i64) (Ek.pair Ek.c128 Ek.bool)) 58 v12 (List.replicate ((0 : Int)).toNat ((0 : Int), (Fl.bits 0, Fl.bits 0), false)), Res.sl (Ek.pair (Ek.int .i64) (Ek.pair (Ek.arr 64 Ek.c128) (Ek.pair (Ek.arr 64 Ek.c128) (Ek.pair (Ek.int .i64) (Ek.pair (Ek.int .i64) (Ek.pair Ek.f64 (Ek.pair (Ek.int .i64) (Ek.pair Ek.bool (Ek.pair Ek.bool Ek.c128))))))))) 89 (aslv v3 1) ([q1.1])]) (tail := ow) (rs' := [Res.sl (Ek.pair (Ek.int .i64) (Ek.pair (Ek.arr 64 Ek.c128) (Ek.pair (Ek.arr 64 Ek.c128) (Ek.pair (Ek.int .i64) (Ek.pair (Ek.int .i64) (Ek.pair Ek.f64 (Ek.pair (Ek.int .i64) (Ek.pair Ek.bool (Ek.pair Ek.bool Ek.c128))))))))) 89 (aslv v3 1) ([q1.1]), Res.sl (Ek.pair (Ek.int .i64) (Ek.pair Ek.c128 Ek.bool)) 58 v12 (List.replicate ((0 : Int)).toNat ((0 : Int), (Fl.bits 0, Fl.bits 0), false)), Res.sl Ek.c128 39 v15 (List.replicate ((0 : Int)).toNat (Fl.bits 0, Fl.bits 0))]) hp [2, 1, 0] (by decide) (by simp) rfl
  refine wp_loop_pure (f := (f_feedback_run.s1 row2)) (s := ([q1.1], (List.replicate ((0 : Int)).toNat ((0 : Int), (Fl.bits 0, Fl.bits 0), false)), (List.replicate ((0 : Int)).toNat (Fl.bits 0, Fl.bits 0)), (0 : Int))) (fun s a w => ∃ (v18 : Value) (v20 : Value), Fr 88 a [(9, eptr (aslv v3 1) (0 : Int) 136), (13, v18), (14, v20), (43, vrow2), (44, .int .i64 (row2.length : Int)), (45, .int .i64 s.2.2.2)] ∧ Hp S w0 w (Res.sl (Ek.pair (Ek.int .i64) (Ek.pair (Ek.arr 64 Ek.c128) (Ek.pair (Ek.arr 64 Ek.c128) (Ek.pair (Ek.int .i64) (Ek.pair (Ek.int .i64) (Ek.pair Ek.f64 (Ek.pair (Ek.int .i64) (Ek.pair Ek.bool (Ek.pair Ek.bool Ek.c128))))))))) 89 (aslv v3 1) s.1 :: Res.sl (Ek.pair (Ek.int .i64) (Ek.pair Ek.c128 Ek.bool)) 58 v18 s.2.1 :: Res.sl Ek.c128 39 v20 s.2.2.1 :: ow)) (fun q e a w => e = .exit 0 ∧ ∃ (v22 : Value) (v24 : Value), Fr 88 a [(13, v22), (14, v24)] ∧ Hp S w0 w (Res.sl (Ek.pair (Ek.int .i64) (Ek.pair Ek.c128 Ek.bool)) 58 v22 q.1 :: Res.sl Ek.c128 39 v24 q.2 :: ow)) ?_ hl ⟨_, _, hf.sub ⟨rfl, rfl, rfl, rfl, rfl, rfl, trivial⟩, hp⟩ ?_
  · clear hl hf hp
    intro s x a w h hI
    obtain ⟨l9, out13, far14, t45⟩ := s
    obtain ⟨v18, v20, hf, hp⟩ : ∃ (v18 : Value) (v20 : Value), Fr 88 a [(9, eptr (aslv v3 1) (0 : Int) 136), (13, v18), (14, v20), (43, vrow2), (44, .int .i64 (row2.length : Int)), (45, .int .i64 t45)] ∧ Hp S w0 w (Res.sl (Ek.pair (Ek.int .i64) (Ek.pair (Ek.arr 64 Ek.c128) (Ek.pair (Ek.arr 64 Ek.c128) (Ek.pair (Ek.int .i64) (Ek.pair (Ek.int .i64) (Ek.pair Ek.f64 (Ek.pair (Ek.int .i64) (Ek.pair Ek.bool (Ek.pair Ek.bool Ek.c128))))))))) 89 (aslv v3 1) l9 :: Res.sl (Ek.pair (Ek.int .i64) (Ek.pair Ek.c128 Ek.bool)) 58 v18 out13 :: Res.sl Ek.c128 39 v20 far14 :: ow) := hI
    replace h : f_feedback_run.s1c row2 l9 out13 far14 t45 = some x := h
    unfold f_feedback_run.s1c at h
    refine wp_seq ?_
    refine wp_reg ?_
    refine st_ilss hf (by decide) rfl rfl rfl ?_
    clear hf; intro a ha hf; clear ha
    refine st_nil hf ?_
    refine th_n ?_
    refine wp_seq ?_
    refine wp_if hf rfl (fun hb => ?_) (fun hb => ?_)
    · replace h := ifT h hb
      refine wp_skip ?_
      refine th_n ?_
      refine wp_seq ?_
      refine wp_block ?_
      refine wp_seq ?_
      refine wp_reg ?_
      obtain ⟨hc26, h⟩ := chk h
      refine st_index (E := (Ek.pair Ek.c128 Ek.bool)) hf (by decide) Try.underlying52 elt51 rfl rfl rfl (hrow2.sl hp) hc26.1 hc26.2 ?_
      clear hf; intro a ha hf; clear ha
      refine st_ldQA (F := (Ek.pair Ek.c128 Ek.bool)) (yv := (gt row2 t45)) (m := 2) hf (by decide) (by kernel_rfl) rfl rfl rfl (Part.whole (hrow2.sl hp) hc26.1 hc26.2) ?_
      clear hf; intro a cs27 hr28 ha hf; clear ha
      obtain ⟨_, _, rfl, ⟨bb29, bb30, rfl, y31, y32⟩, rfl⟩ := hr28
      replace hf : Fr _ _ ((48, .agg #[.complex .f64 bb29 bb30, .bool ((gt row2 t45).2)]) :: _) := hf
      refine st_alloc (cs := [.complex .f64 0 0, .bool false]) (zv := .agg #[.complex .f64 0 0, .bool false]) hf (by decide) (by kernel_rfl) rfl hp rfl ?_
      clear hf; intro a w v33 hf hp0; clear hp; have hp := hp0; clear hp0
      replace hp : Hp _ _ _ (Res.obj 51 v33 [.complex .f64 0 0, .bool false] :: Res.sl (Ek.pair (Ek.int .i64) (Ek.pair (Ek.arr 64 Ek.c128) (Ek.pair (Ek.arr 64 Ek.c128) (Ek.pair (Ek.int .i64) (Ek.pair (Ek.int .i64) (Ek.pair Ek.f64 (Ek.pair (Ek.int .i64) (Ek.pair Ek.bool (Ek.pair Ek.bool Ek.c128))))))))) 89 (aslv v3 1) l9 :: Res.sl (Ek.pair (Ek.int .i64) (Ek.pair Ek.c128 Ek.bool)) 58 v18 out13 :: Res.sl Ek.c128 39 v20 far14 :: ow) := hp
      refine st_stO (us := [.complex .f64 bb29 bb30, .bool ((gt row2 t45).2)]) hf hp (i := 0) rfl rfl rfl rfl rfl (by rfl) (by kernel_rfl) (Nat.le_of_ble_eq_true rfl) ?_
      clear hf; intro a w hf hp0; clear hp; have hp := hp0; clear hp0
      replace hp : Hp _ _ _ (Res.obj 51 v33 [.complex .f64 bb29 bb30, .bool ((gt row2 t45).2)] :: Res.sl (Ek.pair (Ek.int .i64) (Ek.pair (Ek.arr 64 Ek.c128) (Ek.pair (Ek.arr 64 Ek.c128) (Ek.pair (Ek.int .i64) (Ek.pair (Ek.int .i64) (Ek.pair Ek.f64 (Ek.pair (Ek.int .i64) (Ek.pair Ek.bool (Ek.pair Ek.bool Ek.c128))))))))) 89 (aslv v3 1) l9 :: Res.sl (Ek.pair (Ek.int .i64) (Ek.pair Ek.c128 Ek.bool)) 58 v18 out13 :: Res.sl Ek.c128 39 v20 far14 :: ow) := hp
      refine st_nil hf ?_
      refine th_n ?_
      refine wp_seq ?_
      refine wp_reg ?_
      refine st_move hf rfl rfl (by decide) ?_
      clear hf; intro a ha hf; clear ha
      refine st_ldOA (m := 2) (us := [.complex .f64 bb29 bb30, .bool ((gt row2 t45).2)]) hf (by decide) (by kernel_rfl) rfl rfl (hp.ob (i := 0) rfl) rfl rfl ?_
      clear hf; intro a ha hf; clear ha
      obtain ⟨q35, hcall36, h⟩ := bnd h
      have hp37 : Hp _ _ _ (Res.sl (Ek.pair (Ek.int .i64) (Ek.pair (Ek.arr 64 Ek.c128) (Ek.pair (Ek.arr 64 Ek.c128) (Ek.pair (Ek.int .i64) (Ek.pair (Ek.int .i64) (Ek.pair Ek.f64 (Ek.pair (Ek.int .i64) (Ek.pair Ek.bool (Ek.pair Ek.bool Ek.c128))))))))) 89 (aslv v3 1) l9 :: Res.obj 51 v33 [.complex .f64 bb29 bb30, .bool ((gt row2 t45).2)] :: Res.sl (Ek.pair (Ek.int .i64) (Ek.pair Ek.c128 Ek.bool)) 58 v18 out13 :: Res.sl Ek.c128 39 v20 far14 :: ow) := Hp.sel (pre := [Res.obj 51 v33 [.complex .f64 bb29 bb30, .bool ((gt row2 t45).2)], Res.sl (Ek.pair (Ek.int .i64) (Ek.pair (Ek.arr 64 Ek.c128) (Ek.pair (Ek.arr 64 Ek.c128) (Ek.pair (Ek.int .i64) (Ek.pair (Ek.int .i64) (Ek.pair Ek.f64 (Ek.pair (Ek.int .i64) (Ek.pair Ek.bool (Ek.pair Ek.bool Ek.c128))))))))) 89 (aslv v3 1) l9, Res.sl (Ek.pair (Ek.int .i64) (Ek.pair Ek.c128 Ek.bool)) 58 v18 out13, Res.sl Ek.c128 39 v20 far14]) (tail := ow) (rs' := [Res.sl (Ek.pair (Ek.int .i64) (Ek.pair (Ek.arr 64 Ek.c128) (Ek.pair (Ek.arr 64 Ek.c128) (Ek.pair (Ek.int .i64) (Ek.pair (Ek.int .i64) (Ek.pair Ek.f64 (Ek.pair (Ek.int .i64) (Ek.pair Ek.bool (Ek.pair Ek.bool Ek.c128))))))))) 89 (aslv v3 1) l9, Res.obj 51 v33 [.complex .f64 bb29 bb30, .bool ((gt row2 t45).2)], Res.sl (Ek.pair (Ek.int .i64) (Ek.pair Ek.c128 Ek.bool)) 58 v18 out13, Res.sl Ek.c128 39 v20 far14]) hp [1, 0, 2, 3] (by decide) (by simp) rfl
      refine st_call hf (by decide) Try.func33 rfl rfl rfl rfl rfl (f_feedback_Loop_Step_c _ _ _ _ (aslv_ix (hp.sl (i := 1) rfl) (show (0 : Int) ≤ (0 : Int) ∧ (0 : Int) < ((1 : Nat) : Int) from by decide)) _ _ _ (show Fl.rep bb29 ((gt row2 t45).1).1 from y31) (show Fl.rep bb30 ((gt row2 t45).1).2 from y32) _ hp37 hcall36) ?_
      rintro _ w ⟨v38, v39, rfl, y40, y41, hp0⟩
      clear hp; have hp := hp0; clear hp0
      replace hp : Hp _ _ _ (Res.sl (Ek.pair (Ek.int .i64) (Ek.pair (Ek.arr 64 Ek.c128) (Ek.pair (Ek.arr 64 Ek.c128) (Ek.pair (Ek.int .i64) (Ek.pair (Ek.int .i64) (Ek.pair Ek.f64 (Ek.pair (Ek.int .i64) (Ek.pair Ek.bool (Ek.pair Ek.bool Ek.c128))))))))) 89 (aslv v3 1) q35.2.2 :: Res.obj 51 v33 [.complex .f64 bb29 bb30, .bool ((gt row2 t45).2)] :: Res.sl (Ek.pair (Ek.int .i64) (Ek.pair Ek.c128 Ek.bool)) 58 v18 out13 :: Res.sl Ek.c128 39 v20 far14 :: ow) := hp
      refine ⟨_, rfl, ?_⟩
      clear hf; intro a hf
      refine st_move hf rfl rfl (by decide) ?_
      clear hf; intro a ha hf; clear ha
      refine st_extract hf (by decide) rfl rfl rfl ?_
      clear hf; intro a ha hf; clear ha
      refine st_extract hf (by decide) rfl rfl rfl ?_
      clear hf; intro a ha hf; clear ha
      refine st_alloc (cs := [.int .i64 (0 : Int), .complex .f64 0 0, .bool false]) (zv := .agg #[.int .i64 (0 : Int), .complex .f64 0 0, .bool false]) hf (by decide) (by kernel_rfl) rfl hp rfl ?_
      clear hf; intro a w v42 hf hp0; clear hp; have hp := hp0; clear hp0
      replace hp : Hp _ _ _ (Res.obj 58 v42 [.int .i64 (0 : Int), .complex .f64 0 0, .bool false] :: Res.sl (Ek.pair (Ek.int .i64) (Ek.pair (Ek.arr 64 Ek.c128) (Ek.pair (Ek.arr 64 Ek.c128) (Ek.pair (Ek.int .i64) (Ek.pair (Ek.int .i64) (Ek.pair Ek.f64 (Ek.pair (Ek.int .i64) (Ek.pair Ek.bool (Ek.pair Ek.bool Ek.c128))))))))) 89 (aslv v3 1) q35.2.2 :: Res.obj 51 v33 [.complex .f64 bb29 bb30, .bool ((gt row2 t45).2)] :: Res.sl (Ek.pair (Ek.int .i64) (Ek.pair Ek.c128 Ek.bool)) 58 v18 out13 :: Res.sl Ek.c128 39 v20 far14 :: ow) := hp
      refine st_stO (us := [.int .i64 q35.1.1, .complex .f64 v38 v39, .bool q35.1.2.2]) hf hp (i := 0) rfl rfl rfl rfl rfl (by rfl) (by kernel_rfl) (Nat.le_of_ble_eq_true rfl) ?_
      clear hf; intro a w hf hp0; clear hp; have hp := hp0; clear hp0
      replace hp : Hp _ _ _ (Res.obj 58 v42 [.int .i64 q35.1.1, .complex .f64 v38 v39, .bool q35.1.2.2] :: Res.sl (Ek.pair (Ek.int .i64) (Ek.pair (Ek.arr 64 Ek.c128) (Ek.pair (Ek.arr 64 Ek.c128) (Ek.pair (Ek.int .i64) (Ek.pair (Ek.int .i64) (Ek.pair Ek.f64 (Ek.pair (Ek.int .i64) (Ek.pair Ek.bool (Ek.pair Ek.bool Ek.c128))))))))) 89 (aslv v3 1) q35.2.2 :: Res.obj 51 v33 [.complex .f64 bb29 bb30, .bool ((gt row2 t45).2)] :: Res.sl (Ek.pair (Ek.int .i64) (Ek.pair Ek.c128 Ek.bool)) 58 v18 out13 :: Res.sl Ek.c128 39 v20 far14 :: ow) := hp
      refine st_assign hf rfl rfl (by decide) ?_
      clear hf; intro a ha hf; clear ha
      refine st_nil hf ?_
      refine th_n ?_
      refine wp_seq ?_
      refine wp_reg ?_
      refine st_assign hf rfl rfl (by decide) ?_
      clear hf; intro a ha hf; clear ha
      refine st_nil hf ?_
      refine th_n ?_
      refine wp_seq_cut (fun a w => ∃ (zx19 : (Fl × Fl)) (bb44 : Nat) (bb45 : Nat), f_feedback_run.j1 out13 far14 t45 q35 zx19 = some x ∧ Fr 88 a [(9, eptr (aslv v3 1) (0 : Int) 136), (13, v18), (14, v20), (17, optr v42 0), (19, .complex .f64 bb44 bb45), (43, vrow2), (44, .int .i64 (row2.length : Int)), (45, .int .i64 t45)] ∧ Fl.rep bb44 zx19.1 ∧ Fl.rep bb45 zx19.2 ∧ Hp S w0 w (Res.sl (Ek.pair (Ek.int .i64) (Ek.pair (Ek.arr 64 Ek.c128) (Ek.pair (Ek.arr 64 Ek.c128) (Ek.pair (Ek.int .i64) (Ek.pair (Ek.int .i64) (Ek.pair Ek.f64 (Ek.pair (Ek.int .i64) (Ek.pair Ek.bool (Ek.pair Ek.bool Ek.c128))))))))) 89 (aslv v3 1) q35.2.2 :: Res.sl (Ek.pair (Ek.int .i64) (Ek.pair Ek.c128 Ek.bool)) 58 v18 out13 :: Res.sl Ek.c128 39 v20 far14 :: Res.obj 58 v42 [.int .i64 q35.1.1, .complex .f64 v38 v39, .bool q35.1.2.2] :: ow)) ?_ ?_
      · skip
        refine wp_seq ?_
        refine wp_reg ?_
        refine st_fa (o' := 2) hf (by decide) (off := 2) (sz := 1) (by kernel_rfl) (by decide) rfl rfl (hp.ob (i := 0) rfl) rfl ?_
        clear hf; intro a ha hf; clear ha
        refine st_ldO (u := .bool q35.1.2.2) hf (by decide) pl4 rfl rfl (hp.ob (i := 0) rfl) rfl ?_
        clear hf; intro a ha hf; clear ha
        refine st_not hf (by decide) rfl rfl ?_
        clear hf; intro a ha hf; clear ha
        refine st_nil hf ?_
        refine th_n ?_
        refine wp_if hf rfl (fun hb => ?_) (fun hb => ?_)
        · replace h := ifT h hb
          obtain ⟨S56, hp57, rd58, up59, bk60⟩ := Hp.lendS hp (i := 1) rfl
          obtain ⟨S61, hp62, rd63, up64, bk65⟩ := Hp.lendO hp57 (i := 0) rfl
          have rl66 := ((rd58.now hp57).mono up64)
          have rl67 := ((((hrow2.now hp).mono up59).now hp57).mono up64)
          have rl68 := rd63
          obtain ⟨bb70, bb71, y72, y73, hl69⟩ := RdS.pinPC (p := (0 : Int)) (o := 135) (Sub.comp (Sub.snd (E := (Ek.int .i64)) (F := (Ek.pair (Ek.arr 64 Ek.c128) (Ek.pair (Ek.arr 64 Ek.c128) (Ek.pair (Ek.int .i64) (Ek.pair (Ek.int .i64) (Ek.pair Ek.f64 (Ek.pair (Ek.int .i64) (Ek.pair Ek.bool (Ek.pair Ek.bool Ek.c128)))))))))) (Sub.comp (Sub.snd (E := (Ek.arr 64 Ek.c128)) (F := (Ek.pair (Ek.arr 64 Ek.c128) (Ek.pair (Ek.int .i64) (Ek.pair (Ek.int .i64) (Ek.pair Ek.f64 (Ek.pair (Ek.int .i64) (Ek.pair Ek.bool (Ek.pair Ek.bool Ek.c128))))))))) (Sub.comp (Sub.snd (E := (Ek.arr 64 Ek.c128)) (F := (Ek.pair (Ek.int .i64) (Ek.pair (Ek.int .i64) (Ek.pair Ek.f64 (Ek.pair (Ek.int .i64) (Ek.pair Ek.bool (Ek.pair Ek.bool Ek.c128)))))))) (Sub.comp (Sub.snd (E := (Ek.int .i64)) (F := (Ek.pair (Ek.int .i64) (Ek.pair Ek.f64 (Ek.pair (Ek.int .i64) (Ek.pair Ek.bool (Ek.pair Ek.bool Ek.c128))))))) (Sub.comp (Sub.snd (E := (Ek.int .i64)) (F := (Ek.pair Ek.f64 (Ek.pair (Ek.int .i64) (Ek.pair Ek.bool (Ek.pair Ek.bool Ek.c128)))))) (Sub.comp (Sub.snd (E := Ek.f64) (F := (Ek.pair (Ek.int .i64) (Ek.pair Ek.bool (Ek.pair Ek.bool Ek.c128))))) (Sub.comp (Sub.snd (E := (Ek.int .i64)) (F := (Ek.pair Ek.bool (Ek.pair Ek.bool Ek.c128)))) (Sub.comp (Sub.snd (E := Ek.bool) (F := (Ek.pair Ek.bool Ek.c128))) (Sub.snd (E := Ek.bool) (F := Ek.c128)))))))))) rl66 (aslv_ix rl66 (show (0 : Int) ≤ (0 : Int) ∧ (0 : Int) < ((1 : Nat) : Int) from by decide)).1 (aslv_ix rl66 (show (0 : Int) ≤ (0 : Int) ∧ (0 : Int) < ((1 : Nat) : Int) from by decide)).2
          obtain ⟨q74, hq75, h⟩ := bnd h
          obtain ⟨bb77, bb78, y79, y80, hl76⟩ := RdS.pinPC (p := (0 : Int)) (o := 135) (Sub.comp (Sub.snd (E := (Ek.int .i64)) (F := (Ek.pair (Ek.arr 64 Ek.c128) (Ek.pair (Ek.arr 64 Ek.c128) (Ek.pair (Ek.int .i64) (Ek.pair (Ek.int .i64) (Ek.pair Ek.f64 (Ek.pair (Ek.int .i64) (Ek.pair Ek.bool (Ek.pair Ek.bool Ek.c128)))))))))) (Sub.comp (Sub.snd (E := (Ek.arr 64 Ek.c128)) (F := (Ek.pair (Ek.arr 64 Ek.c128) (Ek.pair (Ek.int .i64) (Ek.pair (Ek.int .i64) (Ek.pair Ek.f64 (Ek.pair (Ek.int .i64) (Ek.pair Ek.bool (Ek.pair Ek.bool Ek.c128))))))))) (Sub.comp (Sub.snd (E := (Ek.arr 64 Ek.c128)) (F := (Ek.pair (Ek.int .i64) (Ek.pair (Ek.int .i64) (Ek.pair Ek.f64 (Ek.pair (Ek.int .i64) (Ek.pair Ek.bool (Ek.pair Ek.bool Ek.c128)))))))) (Sub.comp (Sub.snd (E := (Ek.int .i64)) (F := (Ek.pair (Ek.int .i64) (Ek.pair Ek.f64 (Ek.pair (Ek.int .i64) (Ek.pair Ek.bool (Ek.pair Ek.bool Ek.c128))))))) (Sub.comp (Sub.snd (E := (Ek.int .i64)) (F := (Ek.pair Ek.f64 (Ek.pair (Ek.int .i64) (Ek.pair Ek.bool (Ek.pair Ek.bool Ek.c128)))))) (Sub.comp (Sub.snd (E := Ek.f64) (F := (Ek.pair (Ek.int .i64) (Ek.pair Ek.bool (Ek.pair Ek.bool Ek.c128))))) (Sub.comp (Sub.snd (E := (Ek.int .i64)) (F := (Ek.pair Ek.bool (Ek.pair Ek.bool Ek.c128)))) (Sub.comp (Sub.snd (E := Ek.bool) (F := (Ek.pair Ek.bool Ek.c128))) (Sub.snd (E := Ek.bool) (F := Ek.c128)))))))))) rl66 (aslv_ix rl66 (show (0 : Int) ≤ (0 : Int) ∧ (0 : Int) < ((1 : Nat) : Int) from by decide)).1 (aslv_ix rl66 (show (0 : Int) ≤ (0 : Int) ∧ (0 : Int) < ((1 : Nat) : Int) from by decide)).2
          obtain ⟨q81, hq82, h⟩ := bnd h
          refine wp_cutN (fun a w => Fr 88 a [(9, eptr (aslv v3 1) (0 : Int) 136), (13, v18), (14, v20), (17, optr v42 0), (19, .complex .f64 (flb q74) (flb q81)), (43, vrow2), (44, .int .i64 (row2.length : Int)), (45, .int .i64 t45)] ∧ Hp S w0 w (Res.sl (Ek.pair (Ek.int .i64) (Ek.pair (Ek.arr 64 Ek.c128) (Ek.pair (Ek.arr 64 Ek.c128) (Ek.pair (Ek.int .i64) (Ek.pair (Ek.int .i64) (Ek.pair Ek.f64 (Ek.pair (Ek.int .i64) (Ek.pair Ek.bool (Ek.pair Ek.bool Ek.c128))))))))) 89 (aslv v3 1) q35.2.2 :: Res.obj 58 v42 [.int .i64 q35.1.1, .complex .f64 v38 v39, .bool q35.1.2.2] :: Res.obj 51 v33 [.complex .f64 bb29 bb30, .bool ((gt row2 t45).2)] :: Res.sl (Ek.pair (Ek.int .i64) (Ek.pair Ek.c128 Ek.bool)) 58 v18 out13 :: Res.sl Ek.c128 39 v20 far14 :: ow)) ?_ ?_
          · have hp := hp62.same (Same.drew w)
            refine dr_begin' (fun a w => Fr 88 a [(9, eptr (aslv v3 1) (0 : Int) 136), (13, v18), (14, v20), (17, optr v42 0), (19, .complex .f64 (flb q74) (flb q81)), (43, vrow2), (44, .int .i64 (row2.length : Int)), (45, .int .i64 t45)] ∧ Hp S w0 w (Res.sl (Ek.pair (Ek.int .i64) (Ek.pair (Ek.arr 64 Ek.c128) (Ek.pair (Ek.arr 64 Ek.c128) (Ek.pair (Ek.int .i64) (Ek.pair (Ek.int .i64) (Ek.pair Ek.f64 (Ek.pair (Ek.int .i64) (Ek.pair Ek.bool (Ek.pair Ek.bool Ek.c128))))))))) 89 (aslv v3 1) q35.2.2 :: Res.obj 58 v42 [.int .i64 q35.1.1, .complex .f64 v38 v39, .bool q35.1.2.2] :: Res.obj 51 v33 [.complex .f64 bb29 bb30, .bool ((gt row2 t45).2)] :: Res.sl (Ek.pair (Ek.int .i64) (Ek.pair Ek.c128 Ek.bool)) 58 v18 out13 :: Res.sl Ek.c128 39 v20 far14 :: ow)) (fun w' => ∃ l, Hp S61 w w' l) [] (by kernel_rfl) ?_
            refine dr_take 0 (eptr (aslv v3 1) (0 : Int) 136) rfl (by kernel_rfl) (by kernel_rfl) (by kernel_rfl) (by kernel_rfl) rfl rfl hf (by decide) rfl (fun w hp => ?_) ⟨_, hp⟩ ?_
            · obtain ⟨_, hp⟩ := hp
              refine st_move hf rfl rfl (by decide) ?_
              clear hf; intro a ha hf
              exact st_nil hf (th_n ⟨ha, rfl⟩)
            clear hf; intro a hf
            refine dr_nilE 1 rfl (by kernel_rfl) (by kernel_rfl) (by kernel_rfl) hf (by decide) rfl rfl (Sl.ptr (rl66.sl hp) (aslv_ix rl66 (show (0 : Int) ≤ (0 : Int) ∧ (0 : Int) < ((1 : Nat) : Int) from by decide)).1 (aslv_ix rl66 (show (0 : Int) ≤ (0 : Int) ∧ (0 : Int) < ((1 : Nat) : Int) from by decide)).2) ?_
            clear hf; intro a hf
            refine dr_take 2 (optr (eptr (aslv v3 1) (0 : Int) 136) 135) rfl (by kernel_rfl) (by kernel_rfl) (by kernel_rfl) (by kernel_rfl) rfl rfl hf (by decide) rfl (fun w hp => ?_) ⟨_, hp⟩ ?_
            · obtain ⟨_, hp⟩ := hp
              refine st_faP (off := 135) (sz := 1) hf (by decide) (by kernel_rfl) (by decide) rfl rfl (Sl.isP (rl66.sl hp) (aslv_ix rl66 (show (0 : Int) ≤ (0 : Int) ∧ (0 : Int) < ((1 : Nat) : Int) from by decide)).1 (aslv_ix rl66 (show (0 : Int) ≤ (0 : Int) ∧ (0 : Int) < ((1 : Nat) : Int) from by decide)).2) ?_
              clear hf; intro a ha hf
              exact st_nil hf (th_n ⟨ha, rfl⟩)
            clear hf; intro a hf
            refine dr_take 3 (.complex .f64 bb70 bb71) rfl (by kernel_rfl) (by kernel_rfl) (by kernel_rfl) (by kernel_rfl) rfl rfl hf (by decide) rfl (fun w hp => ?_) ⟨_, hp⟩ ?_
            · obtain ⟨_, hp⟩ := hp
              refine st_ldP hf (by decide) pl39 rfl rfl (hl69 _ _ hp) ?_
              clear hf; intro a ha hf
              exact st_nil hf (th_n ⟨ha, rfl⟩)
            clear hf; intro a hf
            refine dr_take 4 (.float .f64 bb70) rfl (by kernel_rfl) (by kernel_rfl) (by kernel_rfl) (by kernel_rfl) rfl rfl hf (by decide) rfl (fun w hp => ?_) ⟨_, hp⟩ ?_
            · obtain ⟨_, hp⟩ := hp
              refine st_real hf (by decide) rfl rfl ?_
              clear hf; intro a ha hf
              exact st_nil hf (th_n ⟨ha, rfl⟩)
            clear hf; intro a hf
            refine dr_take 5 (optr v42 1) rfl (by kernel_rfl) (by kernel_rfl) (by kernel_rfl) (by kernel_rfl) rfl rfl hf (by decide) rfl (fun w hp => ?_) ⟨_, hp⟩ ?_
            · obtain ⟨_, hp⟩ := hp
              refine st_fa (o' := 1) hf (by decide) (off := 1) (sz := 1) (by kernel_rfl) (by decide) rfl rfl (rl68.ob hp) rfl ?_
              clear hf; intro a ha hf
              exact st_nil hf (th_n ⟨ha, rfl⟩)
            clear hf; intro a hf
            refine dr_take 6 (.complex .f64 v38 v39) rfl (by kernel_rfl) (by kernel_rfl) (by kernel_rfl) (by kernel_rfl) rfl rfl hf (by decide) rfl (fun w hp => ?_) ⟨_, hp⟩ ?_
            · obtain ⟨_, hp⟩ := hp
              refine st_ldO (u := .complex .f64 v38 v39) hf (by decide) pl39 rfl rfl (rl68.ob hp) rfl ?_
              clear hf; intro a ha hf
              exact st_nil hf (th_n ⟨ha, rfl⟩)
            clear hf; intro a hf
            refine dr_take 7 (.float .f64 v38) rfl (by kernel_rfl) (by kernel_rfl) (by kernel_rfl) (by kernel_rfl) rfl rfl hf (by decide) rfl (fun w hp => ?_) ⟨_, hp⟩ ?_
            · obtain ⟨_, hp⟩ := hp
              refine st_real hf (by decide) rfl rfl ?_
              clear hf; intro a ha hf
              exact st_nil hf (th_n ⟨ha, rfl⟩)
            clear hf; intro a hf
            refine dr_take 8 (.float .f64 (flb q74)) rfl (by kernel_rfl) (by kernel_rfl) (by kernel_rfl) (by kernel_rfl) rfl rfl hf (by decide) rfl (fun w hp => ?_) ⟨_, hp⟩ ?_
            · obtain ⟨_, hp⟩ := hp
              refine st_fs (op := .sub) rfl hf (by decide) rfl rfl rfl (show Fl.rep bb70 ((gt q35.2.2 (0 : Int)).2.2.2.2.2.2.2.2.2.1) from y72) (show Fl.rep v38 q35.1.2.1.1 from y40) hq75 ?_
              clear hf; intro a ha hf
              exact st_nil hf (th_n ⟨ha, rfl⟩)
            clear hf; intro a hf
            refine dr_take 9 (eptr (aslv v3 1) (0 : Int) 136) rfl (by kernel_rfl) (by kernel_rfl) (by kernel_rfl) (by kernel_rfl) rfl rfl hf (by decide) rfl (fun w hp => ?_) ⟨_, hp⟩ ?_
            · obtain ⟨_, hp⟩ := hp
              refine st_move hf rfl rfl (by decide) ?_
              clear hf; intro a ha hf
              exact st_nil hf (th_n ⟨ha, rfl⟩)
            clear hf; intro a hf
            refine dr_nilE 10 rfl (by kernel_rfl) (by kernel_rfl) (by kernel_rfl) hf (by decide) rfl rfl (Sl.ptr (rl66.sl hp) (aslv_ix rl66 (show (0 : Int) ≤ (0 : Int) ∧ (0 : Int) < ((1 : Nat) : Int) from by decide)).1 (aslv_ix rl66 (show (0 : Int) ≤ (0 : Int) ∧ (0 : Int) < ((1 : Nat) : Int) from by decide)).2) ?_
            clear hf; intro a hf
            refine dr_take 11 (optr (eptr (aslv v3 1) (0 : Int) 136) 135) rfl (by kernel_rfl) (by kernel_rfl) (by kernel_rfl) (by kernel_rfl) rfl rfl hf (by decide) rfl (fun w hp => ?_) ⟨_, hp⟩ ?_
            · obtain ⟨_, hp⟩ := hp
              refine st_faP (off := 135) (sz := 1) hf (by decide) (by kernel_rfl) (by decide) rfl rfl (Sl.isP (rl66.sl hp) (aslv_ix rl66 (show (0 : Int) ≤ (0 : Int) ∧ (0 : Int) < ((1 : Nat) : Int) from by decide)).1 (aslv_ix rl66 (show (0 : Int) ≤ (0 : Int) ∧ (0 : Int) < ((1 : Nat) : Int) from by decide)).2) ?_
              clear hf; intro a ha hf
              exact st_nil hf (th_n ⟨ha, rfl⟩)
            clear hf; intro a hf
            refine dr_take 12 (.complex .f64 bb77 bb78) rfl (by kernel_rfl) (by kernel_rfl) (by kernel_rfl) (by kernel_rfl) rfl rfl hf (by decide) rfl (fun w hp => ?_) ⟨_, hp⟩ ?_
            · obtain ⟨_, hp⟩ := hp
              refine st_ldP hf (by decide) pl39 rfl rfl (hl76 _ _ hp) ?_
              clear hf; intro a ha hf
              exact st_nil hf (th_n ⟨ha, rfl⟩)
            clear hf; intro a hf
            refine dr_take 13 (.float .f64 bb78) rfl (by kernel_rfl) (by kernel_rfl) (by kernel_rfl) (by kernel_rfl) rfl rfl hf (by decide) rfl (fun w hp => ?_) ⟨_, hp⟩ ?_
            · obtain ⟨_, hp⟩ := hp
              refine st_imag hf (by decide) rfl rfl ?_
              clear hf; intro a ha hf
              exact st_nil hf (th_n ⟨ha, rfl⟩)
            clear hf; intro a hf
            refine dr_take 14 (optr v42 1) rfl (by kernel_rfl) (by kernel_rfl) (by kernel_rfl) (by kernel_rfl) rfl rfl hf (by decide) rfl (fun w hp => ?_) ⟨_, hp⟩ ?_
            · obtain ⟨_, hp⟩ := hp
              refine st_fa (o' := 1) hf (by decide) (off := 1) (sz := 1) (by kernel_rfl) (by decide) rfl rfl (rl68.ob hp) rfl ?_
              clear hf; intro a ha hf
              exact st_nil hf (th_n ⟨ha, rfl⟩)
            clear hf; intro a hf
            refine dr_take 15 (.complex .f64 v38 v39) rfl (by kernel_rfl) (by kernel_rfl) (by kernel_rfl) (by kernel_rfl) rfl rfl hf (by decide) rfl (fun w hp => ?_) ⟨_, hp⟩ ?_
            · obtain ⟨_, hp⟩ := hp
              refine st_ldO (u := .complex .f64 v38 v39) hf (by decide) pl39 rfl rfl (rl68.ob hp) rfl ?_
              clear hf; intro a ha hf
              exact st_nil hf (th_n ⟨ha, rfl⟩)
            clear hf; intro a hf
            refine dr_take 16 (.float .f64 v39) rfl (by kernel_rfl) (by kernel_rfl) (by kernel_rfl) (by kernel_rfl) rfl rfl hf (by decide) rfl (fun w hp => ?_) ⟨_, hp⟩ ?_
            · obtain ⟨_, hp⟩ := hp
              refine st_imag hf (by decide) rfl rfl ?_
              clear hf; intro a ha hf
              exact st_nil hf (th_n ⟨ha, rfl⟩)
            clear hf; intro a hf
            refine dr_take 17 (.float .f64 (flb q81)) rfl (by kernel_rfl) (by kernel_rfl) (by kernel_rfl) (by kernel_rfl) rfl rfl hf (by decide) rfl (fun w hp => ?_) ⟨_, hp⟩ ?_
            · obtain ⟨_, hp⟩ := hp
              refine st_fs (op := .sub) rfl hf (by decide) rfl rfl rfl (show Fl.rep bb78 ((gt q35.2.2 (0 : Int)).2.2.2.2.2.2.2.2.2.2) from y80) (show Fl.rep v39 q35.1.2.1.2 from y41) hq82 ?_
              clear hf; intro a ha hf
              exact st_nil hf (th_n ⟨ha, rfl⟩)
            clear hf; intro a hf
            refine dr_take 18 (.complex .f64 (flb q74) (flb q81)) rfl (by kernel_rfl) (by kernel_rfl) (by kernel_rfl) (by kernel_rfl) rfl rfl hf (by decide) rfl (fun w hp => ?_) ⟨_, hp⟩ ?_
            · obtain ⟨_, hp⟩ := hp
              refine st_complex hf (by decide) rfl rfl rfl ?_
              clear hf; intro a ha hf
              exact st_nil hf (th_n ⟨ha, rfl⟩)
            clear hf; intro a hf
            refine dr_take 19 (.complex .f64 (flb q74) (flb q81)) rfl (by kernel_rfl) (by kernel_rfl) (by kernel_rfl) (by kernel_rfl) rfl rfl hf (by decide) rfl (fun w hp => ?_) ⟨_, hp⟩ ?_
            · obtain ⟨_, hp⟩ := hp
              refine st_assign hf rfl rfl (by decide) ?_
              clear hf; intro a ha hf
              exact st_nil hf (th_n ⟨ha, rfl⟩)
            clear hf; intro a hf
            refine dr_end (by kernel_rfl) ?_ _
            have hp := bk65 _ _ hp
            have hp := bk60 _ _ hp
            exact ⟨hf.sub ⟨rfl, rfl, rfl, rfl, rfl, rfl, rfl, rfl, trivial⟩, hp⟩
          rintro a w ⟨hf, hp⟩
          have hp : Hp _ _ _ (Res.sl (Ek.pair (Ek.int .i64) (Ek.pair (Ek.arr 64 Ek.c128) (Ek.pair (Ek.arr 64 Ek.c128) (Ek.pair (Ek.int .i64) (Ek.pair (Ek.int .i64) (Ek.pair Ek.f64 (Ek.pair (Ek.int .i64) (Ek.pair Ek.bool (Ek.pair Ek.bool Ek.c128))))))))) 89 (aslv v3 1) q35.2.2 :: Res.sl (Ek.pair (Ek.int .i64) (Ek.pair Ek.c128 Ek.bool)) 58 v18 out13 :: Res.sl Ek.c128 39 v20 far14 :: Res.obj 58 v42 [.int .i64 q35.1.1, .complex .f64 v38 v39, .bool q35.1.2.2] :: ow) := Hp.sel (pre := [Res.sl (Ek.pair (Ek.int .i64) (Ek.pair (Ek.arr 64 Ek.c128) (Ek.pair (Ek.arr 64 Ek.c128) (Ek.pair (Ek.int .i64) (Ek.pair (Ek.int .i64) (Ek.pair Ek.f64 (Ek.pair (Ek.int .i64) (Ek.pair Ek.bool (Ek.pair Ek.bool Ek.c128))))))))) 89 (aslv v3 1) q35.2.2, Res.obj 58 v42 [.int .i64 q35.1.1, .complex .f64 v38 v39, .bool q35.1.2.2], Res.obj 51 v33 [.complex .f64 bb29 bb30, .bool ((gt row2 t45).2)], Res.sl (Ek.pair (Ek.int .i64) (Ek.pair Ek.c128 Ek.bool)) 58 v18 out13, Res.sl Ek.c128 39 v20 far14]) (tail := ow) (rs' := [Res.sl (Ek.pair (Ek.int .i64) (Ek.pair (Ek.arr 64 Ek.c128) (Ek.pair (Ek.arr 64 Ek.c128) (Ek.pair (Ek.int .i64) (Ek.pair (Ek.int .i64) (Ek.pair Ek.f64 (Ek.pair (Ek.int .i64) (Ek.pair Ek.bool (Ek.pair Ek.bool Ek.c128))))))))) 89 (aslv v3 1) q35.2.2, Res.sl (Ek.pair (Ek.int .i64) (Ek.pair Ek.c128 Ek.bool)) 58 v18 out13, Res.sl Ek.c128 39 v20 far14, Res.obj 58 v42 [.int .i64 q35.1.1, .complex .f64 v38 v39, .bool q35.1.2.2]]) hp [0, 3, 4, 1] (by decide) (by simp) rfl
          refine th_n ?_
          exact ⟨_, _, _, h, hf.sub ⟨rfl, rfl, rfl, rfl, rfl, rfl, rfl, rfl, trivial⟩, (farithS_rep hq75), (farithS_rep hq82), hp⟩
        replace h := ifF h hb
        refine wp_skip ?_
        have hp : Hp _ _ _ (Res.sl (Ek.pair (Ek.int .i64) (Ek.pair (Ek.arr 64 Ek.c128) (Ek.pair (Ek.arr 64 Ek.c128) (Ek.pair (Ek.int .i64) (Ek.pair (Ek.int .i64) (Ek.pair Ek.f64 (Ek.pair (Ek.int .i64) (Ek.pair Ek.bool (Ek.pair Ek.bool Ek.c128))))))))) 89 (aslv v3 1) q35.2.2 :: Res.sl (Ek.pair (Ek.int .i64) (Ek.pair Ek.c128 Ek.bool)) 58 v18 out13 :: Res.sl Ek.c128 39 v20 far14 :: Res.obj 58 v42 [.int .i64 q35.1.1, .complex .f64 v38 v39, .bool q35.1.2.2] :: ow) := Hp.sel (pre := [Res.obj 58 v42 [.int .i64 q35.1.1, .complex .f64 v38 v39, .bool q35.1.2.2], Res.sl (Ek.pair (Ek.int .i64) (Ek.pair (Ek.arr 64 Ek.c128) (Ek.pair (Ek.arr 64 Ek.c128) (Ek.pair (Ek.int .i64) (Ek.pair (Ek.int .i64) (Ek.pair Ek.f64 (Ek.pair (Ek.int .i64) (Ek.pair Ek.bool (Ek.pair Ek.bool Ek.c128))))))))) 89 (aslv v3 1) q35.2.2, Res.obj 51 v33 [.complex .f64 bb29 bb30, .bool ((gt row2 t45).2)], Res.sl (Ek.pair (Ek.int .i64) (Ek.pair Ek.c128 Ek.bool)) 58 v18 out13, Res.sl Ek.c128 39 v20 far14]) (tail := ow) (rs' := [Res.sl (Ek.pair (Ek.int .i64) (Ek.pair (Ek.arr 64 Ek.c128) (Ek.pair (Ek.arr 64 Ek.c128) (Ek.pair (Ek.int .i64) (Ek.pair (Ek.int .i64) (Ek.pair Ek.f64 (Ek.pair (Ek.int .i64) (Ek.pair Ek.bool (Ek.pair Ek.bool Ek.c128))))))))) 89 (aslv v3 1) q35.2.2, Res.sl (Ek.pair (Ek.int .i64) (Ek.pair Ek.c128 Ek.bool)) 58 v18 out13, Res.sl Ek.c128 39 v20 far14, Res.obj 58 v42 [.int .i64 q35.1.1, .complex .f64 v38 v39, .bool q35.1.2.2]]) hp [1, 3, 4, 0] (by decide) (by simp) rfl
        refine th_n ?_
        exact ⟨_, _, _, h, hf.sub ⟨rfl, rfl, rfl, rfl, rfl, rfl, rfl, rfl, trivial⟩, rfl, rfl, hp⟩
      rintro a w ⟨zx19, bb44, bb45, h, hf, y46, y47, hp⟩
      unfold f_feedback_run.j1 at h
      refine wp_reg ?_
      refine st_move hf rfl rfl (by decide) ?_
      clear hf; intro a ha hf; clear ha
      refine st_ldOA (m := 3) (us := [.int .i64 q35.1.1, .complex .f64 v38 v39, .bool q35.1.2.2]) hf (by decide) (by kernel_rfl) rfl rfl (hp.ob (i := 3) rfl) rfl rfl ?_
      clear hf; intro a ha hf; clear ha
      refine st_build (E := (Ek.pair (Ek.int .i64) (Ek.pair Ek.c128 Ek.bool))) (xs := [(q35.1.1, q35.1.2.1, q35.1.2.2)]) hf (by decide) elt58 Try.underlying47 hp (vals := #[(0, .agg #[.int .i64 q35.1.1, .complex .f64 v38 v39, .bool q35.1.2.2])]) (cells := #[.int .i64 q35.1.1, .complex .f64 v38 v39, .bool q35.1.2.2]) rfl (by simp [hf.ev (x := (Operand.tmp 78)) rfl]) (Nat.le_of_ble_eq_true rfl) (Nat.le_of_ble_eq_true rfl) (z := .agg #[.int .i64 0, .complex .f64 0 0, .bool false]) (by kernel_rfl) (by kernel_rfl) rfl (reps_cons (cs := [.int .i64 q35.1.1, .complex .f64 v38 v39, .bool q35.1.2.2]) ⟨[.int .i64 q35.1.1], [.complex .f64 v38 v39, .bool q35.1.2.2], rfl, rfl, ⟨[.complex .f64 v38 v39], [.bool q35.1.2.2], rfl, (show Ek.c128.rep [.complex .f64 v38 v39] q35.1.2.1 from ⟨_, _, rfl, y40, y41⟩), rfl⟩⟩ (reps_nil _)) ?_
      clear hf; intro a w v48 hf hp0; clear hp; have hp := hp0; clear hp0
      replace hp : Hp _ _ _ (Res.sl (Ek.pair (Ek.int .i64) (Ek.pair Ek.c128 Ek.bool)) 58 v48 ([(q35.1.1, q35.1.2.1, q35.1.2.2)]) :: Res.sl (Ek.pair (Ek.int .i64) (Ek.pair (Ek.arr 64 Ek.c128) (Ek.pair (Ek.arr 64 Ek.c128) (Ek.pair (Ek.int .i64) (Ek.pair (Ek.int .i64) (Ek.pair Ek.f64 (Ek.pair (Ek.int .i64) (Ek.pair Ek.bool (Ek.pair Ek.bool Ek.c128))))))))) 89 (aslv v3 1) q35.2.2 :: Res.sl (Ek.pair (Ek.int .i64) (Ek.pair Ek.c128 Ek.bool)) 58 v18 out13 :: Res.sl Ek.c128 39 v20 far14 :: Res.obj 58 v42 [.int .i64 q35.1.1, .complex .f64 v38 v39, .bool q35.1.2.2] :: ow) := hp
      obtain ⟨hc50, h⟩ := chk h
      refine st_append (E := (Ek.pair (Ek.int .i64) (Ek.pair Ek.c128 Ek.bool))) hf (by decide) elt58 Try.underlying47 (by decide) hp (i := 2) rfl rfl rfl rfl (hp.sl (i := 0) rfl) hc50 ?_
      clear hf; intro a w v51 hf hp0; clear hp; have hp := hp0; clear hp0
      replace hp : Hp _ _ _ (Res.sl (Ek.pair (Ek.int .i64) (Ek.pair Ek.c128 Ek.bool)) 58 v48 ([(q35.1.1, q35.1.2.1, q35.1.2.2)]) :: Res.sl (Ek.pair (Ek.int .i64) (Ek.pair (Ek.arr 64 Ek.c128) (Ek.pair (Ek.arr 64 Ek.c128) (Ek.pair (Ek.int .i64) (Ek.pair (Ek.int .i64) (Ek.pair Ek.f64 (Ek.pair (Ek.int .i64) (Ek.pair Ek.bool (Ek.pair Ek.bool Ek.c128))))))))) 89 (aslv v3 1) q35.2.2 :: Res.sl (Ek.pair (Ek.int .i64) (Ek.pair Ek.c128 Ek.bool)) 58 v51 (out13 ++ [(q35.1.1, q35.1.2.1, q35.1.2.2)]) :: Res.sl Ek.c128 39 v20 far14 :: Res.obj 58 v42 [.int .i64 q35.1.1, .complex .f64 v38 v39, .bool q35.1.2.2] :: ow) := hp
      refine st_move hf rfl rfl (by decide) ?_
      clear hf; intro a ha hf; clear ha
      refine st_move hf rfl rfl (by decide) ?_
      clear hf; intro a ha hf; clear ha
      refine st_build (E := Ek.c128) (xs := [zx19]) hf (by decide) elt39 Try.underlying32 hp (vals := #[(0, .complex .f64 bb44 bb45)]) (cells := #[.complex .f64 bb44 bb45]) rfl (by simp [hf.ev (x := (Operand.tmp 82)) rfl]) (Nat.le_of_ble_eq_true rfl) (Nat.le_of_ble_eq_true rfl) (z := .complex .f64 0 0) (by kernel_rfl) (by kernel_rfl) rfl (reps_cons (cs := [.complex .f64 bb44 bb45]) (show Ek.c128.rep [.complex .f64 bb44 bb45] zx19 from ⟨_, _, rfl, y46, y47⟩) (reps_nil _)) ?_
      clear hf; intro a w v52 hf hp0; clear hp; have hp := hp0; clear hp0
      replace hp : Hp _ _ _ (Res.sl Ek.c128 39 v52 ([zx19]) :: Res.sl (Ek.pair (Ek.int .i64) (Ek.pair Ek.c128 Ek.bool)) 58 v48 ([(q35.1.1, q35.1.2.1, q35.1.2.2)]) :: Res.sl (Ek.pair (Ek.int .i64) (Ek.pair (Ek.arr 64 Ek.c128) (Ek.pair (Ek.arr 64 Ek.c128) (Ek.pair (Ek.int .i64) (Ek.pair (Ek.int .i64) (Ek.pair Ek.f64 (Ek.pair (Ek.int .i64) (Ek.pair Ek.bool (Ek.pair Ek.bool Ek.c128))))))))) 89 (aslv v3 1) q35.2.2 :: Res.sl (Ek.pair (Ek.int .i64) (Ek.pair Ek.c128 Ek.bool)) 58 v51 (out13 ++ [(q35.1.1, q35.1.2.1, q35.1.2.2)]) :: Res.sl Ek.c128 39 v20 far14 :: Res.obj 58 v42 [.int .i64 q35.1.1, .complex .f64 v38 v39, .bool q35.1.2.2] :: ow) := hp
      obtain ⟨hc54, h⟩ := chk h
      refine st_append (E := Ek.c128) hf (by decide) elt39 Try.underlying32 (by decide) hp (i := 4) rfl rfl rfl rfl (hp.sl (i := 0) rfl) hc54 ?_
      clear hf; intro a w v55 hf hp0; clear hp; have hp := hp0; clear hp0
      replace hp : Hp _ _ _ (Res.sl Ek.c128 39 v52 ([zx19]) :: Res.sl (Ek.pair (Ek.int .i64) (Ek.pair Ek.c128 Ek.bool)) 58 v48 ([(q35.1.1, q35.1.2.1, q35.1.2.2)]) :: Res.sl (Ek.pair (Ek.int .i64) (Ek.pair (Ek.arr 64 Ek.c128) (Ek.pair (Ek.arr 64 Ek.c128) (Ek.pair (Ek.int .i64) (Ek.pair (Ek.int .i64) (Ek.pair Ek.f64 (Ek.pair (Ek.int .i64) (Ek.pair Ek.bool (Ek.pair Ek.bool Ek.c128))))))))) 89 (aslv v3 1) q35.2.2 :: Res.sl (Ek.pair (Ek.int .i64) (Ek.pair Ek.c128 Ek.bool)) 58 v51 (out13 ++ [(q35.1.1, q35.1.2.1, q35.1.2.2)]) :: Res.sl Ek.c128 39 v55 (far14 ++ [zx19]) :: Res.obj 58 v42 [.int .i64 q35.1.1, .complex .f64 v38 v39, .bool q35.1.2.2] :: ow) := hp
      refine st_assign hf rfl rfl (by decide) ?_
      clear hf; intro a ha hf; clear ha
      refine st_assign hf rfl rfl (by decide) ?_
      clear hf; intro a ha hf; clear ha
      refine st_nil hf ?_
      refine ib_n ?_
      refine th_n ?_
      refine wp_reg ?_
      refine st_iadd hf (by decide) rfl rfl rfl ?_
      clear hf; intro a ha hf; clear ha
      refine st_move hf rfl rfl (by decide) ?_
      clear hf; intro a ha hf; clear ha
      refine st_nil hf ?_
      obtain rfl := Option.some.inj h
      have hp : Hp _ _ _ (Res.sl (Ek.pair (Ek.int .i64) (Ek.pair (Ek.arr 64 Ek.c128) (Ek.pair (Ek.arr 64 Ek.c128) (Ek.pair (Ek.int .i64) (Ek.pair (Ek.int .i64) (Ek.pair Ek.f64 (Ek.pair (Ek.int .i64) (Ek.pair Ek.bool (Ek.pair Ek.bool Ek.c128))))))))) 89 (aslv v3 1) q35.2.2 :: Res.sl (Ek.pair (Ek.int .i64) (Ek.pair Ek.c128 Ek.bool)) 58 v51 (out13 ++ [(q35.1.1, q35.1.2.1, q35.1.2.2)]) :: Res.sl Ek.c128 39 v55 (far14 ++ [zx19]) :: ow) := Hp.sel (pre := [Res.sl Ek.c128 39 v52 ([zx19]), Res.sl (Ek.pair (Ek.int .i64) (Ek.pair Ek.c128 Ek.bool)) 58 v48 ([(q35.1.1, q35.1.2.1, q35.1.2.2)]), Res.sl (Ek.pair (Ek.int .i64) (Ek.pair (Ek.arr 64 Ek.c128) (Ek.pair (Ek.arr 64 Ek.c128) (Ek.pair (Ek.int .i64) (Ek.pair (Ek.int .i64) (Ek.pair Ek.f64 (Ek.pair (Ek.int .i64) (Ek.pair Ek.bool (Ek.pair Ek.bool Ek.c128))))))))) 89 (aslv v3 1) q35.2.2, Res.sl (Ek.pair (Ek.int .i64) (Ek.pair Ek.c128 Ek.bool)) 58 v51 (out13 ++ [(q35.1.1, q35.1.2.1, q35.1.2.2)]), Res.sl Ek.c128 39 v55 (far14 ++ [zx19]), Res.obj 58 v42 [.int .i64 q35.1.1, .complex .f64 v38 v39, .bool q35.1.2.2]]) (tail := ow) (rs' := [Res.sl (Ek.pair (Ek.int .i64) (Ek.pair (Ek.arr 64 Ek.c128) (Ek.pair (Ek.arr 64 Ek.c128) (Ek.pair (Ek.int .i64) (Ek.pair (Ek.int .i64) (Ek.pair Ek.f64 (Ek.pair (Ek.int .i64) (Ek.pair Ek.bool (Ek.pair Ek.bool Ek.c128))))))))) 89 (aslv v3 1) q35.2.2, Res.sl (Ek.pair (Ek.int .i64) (Ek.pair Ek.c128 Ek.bool)) 58 v51 (out13 ++ [(q35.1.1, q35.1.2.1, q35.1.2.2)]), Res.sl Ek.c128 39 v55 (far14 ++ [zx19])]) hp [2, 3, 4] (by decide) (by simp) rfl
      exact rnd_l ⟨_, _, hf.sub ⟨rfl, rfl, rfl, rfl, rfl, rfl, trivial⟩, hp⟩
    replace h := ifF h hb
    refine wp_exit ?_
    refine th_e ?_
    obtain rfl := Option.some.inj h
    have hp : Hp _ _ _ (Res.sl (Ek.pair (Ek.int .i64) (Ek.pair Ek.c128 Ek.bool)) 58 v18 out13 :: Res.sl Ek.c128 39 v20 far14 :: ow) := Hp.sel (pre := [Res.sl (Ek.pair (Ek.int .i64) (Ek.pair (Ek.arr 64 Ek.c128) (Ek.pair (Ek.arr 64 Ek.c128) (Ek.pair (Ek.int .i64) (Ek.pair (Ek.int .i64) (Ek.pair Ek.f64 (Ek.pair (Ek.int .i64) (Ek.pair Ek.bool (Ek.pair Ek.bool Ek.c128))))))))) 89 (aslv v3 1) l9, Res.sl (Ek.pair (Ek.int .i64) (Ek.pair Ek.c128 Ek.bool)) 58 v18 out13, Res.sl Ek.c128 39 v20 far14]) (tail := ow) (rs' := [Res.sl (Ek.pair (Ek.int .i64) (Ek.pair Ek.c128 Ek.bool)) 58 v18 out13, Res.sl Ek.c128 39 v20 far14]) hp [1, 2] (by decide) (by simp) rfl
    exact rnd_r (by simp) ⟨rfl, _, _, hf.sub ⟨rfl, rfl, trivial⟩, hp⟩
  clear hl hf hp
  intro e a w hne hO
  obtain ⟨rfl, v22, v24, hf, hp⟩ := hO
  refine ib_same ?_
  refine th_n ?_
  refine wp_seq ?_
  refine wp_reg ?_
  refine st_move hf rfl rfl (by decide) ?_
  clear hf; intro a ha hf; clear ha
  refine st_move hf rfl rfl (by decide) ?_
  clear hf; intro a ha hf; clear ha
  refine st_assign hf rfl rfl (by decide) ?_
  clear hf; intro a ha hf; clear ha
  refine st_assign hf rfl rfl (by decide) ?_
  clear hf; intro a ha hf; clear ha
  refine st_assign hf rfl rfl (by decide) ?_
  clear hf; intro a ha hf; clear ha
  refine st_nil hf ?_
  refine th_n ?_
  refine wp_ret ?_
  obtain rfl := Option.some.inj h
  exact ⟨rfl, ⟨_, _, hf.sub ⟨rfl, rfl, rfl, trivial⟩, hp⟩⟩

noncomputable def f_feedback_Run (hx1 : (List (Fl × Fl))) (row2 : (List ((Fl × Fl) × Bool))) : Option ((List (Int × (Fl × Fl) × Bool)) × Int) := ((f_feedback_run hx1 row2).bind fun q1 => (some (q1.1, q1.2.2)))
theorem f_feedback_Run_c {S : Nat → Prop} {w0 w : World} {ow : List Res} (hp : Hp S w0 w ow) (vhx1 : Value) (hx1 : (List (Fl × Fl))) (hhx1 : RdS Ek.c128 S w0 vhx1 hx1) (vrow2 : Value) (row2 : (List ((Fl × Fl) × Bool))) (hrow2 : RdS (Ek.pair Ek.c128 Ek.bool) S w0 vrow2 row2) {r : ((List (Int × (Fl × Fl) × Bool)) × Int)} (h : f_feedback_Run hx1 row2 = some r) :
    Calls Try.prog 12 #[.int .i64 (4 : Int), vhx1, vrow2] w (fun e w' => ∃ (u0 : Value), e = .returned (.tuple #[u0, .int .i64 r.2]) ∧ Hp S w0 w' (Res.sl (Ek.pair (Ek.int .i64) (Ek.pair Ek.c128 Ek.bool)) 58 u0 r.1 :: ow)) := by
  unfold f_feedback_Run at h
  refine enter (n := 21) (args := [.int .i64 (4 : Int), vhx1, vrow2]) Try.func12 rfl rfl (Nat.le_of_ble_eq_true rfl) fun a hf => ?_
  replace hf : Fr 21 a [(0, .int .i64 (4 : Int)), (1, vhx1), (2, vrow2)] := hf
  refine wp_mono (Q := fun e a w => e = .ret ∧ ∃ (u0 : Value), Fr 21 a [(6, u0), (7, .int .i64 r.2)] ∧ Hp S w0 w (Res.sl (Ek.pair (Ek.int .i64) (Ek.pair Ek.c128 Ek.bool)) 58 u0 r.1 :: ow)) ?_ ?_
  rotate_left
  · rintro e a w ⟨rfl, x0, hf, hp⟩
    exact ret2 hf rfl rfl rfl ⟨x0, rfl, hp⟩
  refine wp_seq ?_
  refine wp_reg ?_
  refine st_assign hf rfl rfl (by decide) ?_
  clear hf; intro a ha hf; clear ha
  refine st_assign hf rfl rfl (by decide) ?_
  clear hf; intro a ha hf; clear ha
  refine st_nil hf ?_
  refine th_n ?_
  refine wp_seq ?_
  refine wp_reg ?_
  refine st_move hf rfl rfl (by decide) ?_
  clear hf; intro a ha hf; clear ha
  refine st_move hf rfl rfl (by decide) ?_
  clear hf; intro a ha hf; clear ha
  refine st_move hf rfl rfl (by decide) ?_
  clear hf; intro a ha hf; clear ha
  obtain ⟨q1, hcall2, h⟩ := bnd h
  refine st_call hf (by decide) Try.func18 rfl rfl rfl rfl rfl (f_feedback_run_c hp _ _ hhx1 _ _ hrow2 hcall2) ?_
  rintro _ w ⟨v3, v4, rfl, hp0⟩
  clear hp; have hp := hp0; clear hp0
  replace hp : Hp _ _ _ (Res.sl (Ek.pair (Ek.int .i64) (Ek.pair Ek.c128 Ek.bool)) 58 v3 q1.1 :: Res.sl Ek.c128 39 v4 q1.2.1 :: ow) := hp
  refine ⟨_, rfl, ?_⟩
  clear hf; intro a hf
  refine st_move hf rfl rfl (by decide) ?_
  clear hf; intro a ha hf; clear ha
  refine st_extract hf (by decide) rfl rfl rfl ?_
  clear hf; intro a ha hf; clear ha
  refine st_extract hf (by decide) rfl rfl rfl ?_
  clear hf; intro a ha hf; clear ha
  refine st_extract hf (by decide) rfl rfl rfl ?_
  clear hf; intro a ha hf; clear ha
  refine st_assign hf rfl rfl (by decide) ?_
  clear hf; intro a ha hf; clear ha
  refine st_assign hf rfl rfl (by decide) ?_
  clear hf; intro a ha hf; clear ha
  refine st_assign hf rfl rfl (by decide) ?_
  clear hf; intro a ha hf; clear ha
  refine st_nil hf ?_
  refine th_n ?_
  refine wp_seq ?_
  refine wp_reg ?_
  refine st_move hf rfl rfl (by decide) ?_
  clear hf; intro a ha hf; clear ha
  refine st_move hf rfl rfl (by decide) ?_
  clear hf; intro a ha hf; clear ha
  refine st_assign hf rfl rfl (by decide) ?_
  clear hf; intro a ha hf; clear ha
  refine st_assign hf rfl rfl (by decide) ?_
  clear hf; intro a ha hf; clear ha
  refine st_nil hf ?_
  refine th_n ?_
  refine wp_ret ?_
  obtain rfl := Option.some.inj h
  have hp : Hp _ _ _ (Res.sl (Ek.pair (Ek.int .i64) (Ek.pair Ek.c128 Ek.bool)) 58 v3 q1.1 :: ow) := Hp.sel (pre := [Res.sl (Ek.pair (Ek.int .i64) (Ek.pair Ek.c128 Ek.bool)) 58 v3 q1.1, Res.sl Ek.c128 39 v4 q1.2.1]) (tail := ow) (rs' := [Res.sl (Ek.pair (Ek.int .i64) (Ek.pair Ek.c128 Ek.bool)) 58 v3 q1.1]) hp [0] (by decide) (by simp) rfl
  exact ⟨rfl, ⟨_, hf.sub ⟨rfl, rfl, trivial⟩, hp⟩⟩

noncomputable def f_points_At  : Option ((Fl × Fl) × Int) := ((f_points_of).bind fun q1 => (if (((!q1.2) || false) || false) = true then (some ((Fl.bits 0, Fl.bits 0), (1 : Int))) else ((f_points_square_2 (0 : Int) (2 : Int) (1 : Int)).bind fun q15 => (some (q15, (0 : Int))))))
theorem f_points_At_c {S : Nat → Prop} {w0 w : World} {ow : List Res} (hp : Hp S w0 w ow) {r : ((Fl × Fl) × Int)} (h : f_points_At = some r) :
    Calls Try.prog 13 #[.int .i64 (4 : Int), .int .i64 (0 : Int)] w (fun e w' => ∃ (b0 : Nat) (b1 : Nat), e = .returned (.tuple #[.complex .f64 b0 b1, .int .i64 r.2]) ∧ Fl.rep b0 r.1.1 ∧ Fl.rep b1 r.1.2 ∧ Hp S w0 w' (ow)) := by
  unfold f_points_At at h
  refine enter (n := 28) (args := [.int .i64 (4 : Int), .int .i64 (0 : Int)]) Try.func13 rfl rfl (Nat.le_of_ble_eq_true rfl) fun a hf => ?_
  replace hf : Fr 28 a [(0, .int .i64 (4 : Int)), (1, .int .i64 (0 : Int))] := hf
  refine wp_mono (Q := fun e a w => e = .ret ∧ ∃ (b0 : Nat) (b1 : Nat), Fr 28 a [(4, .complex .f64 b0 b1), (5, .int .i64 r.2)] ∧ Fl.rep b0 r.1.1 ∧ Fl.rep b1 r.1.2 ∧ Hp S w0 w (ow)) ?_ ?_
  rotate_left
  · rintro e a w ⟨rfl, x0, x1, hf, y0, y1, hp⟩
    exact ret2 hf rfl rfl rfl ⟨x0, x1, rfl, y0, y1, hp⟩
  refine wp_seq ?_
  refine wp_reg ?_
  refine st_assign hf rfl rfl (by decide) ?_
  clear hf; intro a ha hf; clear ha
  refine st_assign hf rfl rfl (by decide) ?_
  clear hf; intro a ha hf; clear ha
  refine st_nil hf ?_
  refine th_n ?_
  refine wp_seq ?_
  refine wp_reg ?_
  refine st_move hf rfl rfl (by decide) ?_
  clear hf; intro a ha hf; clear ha
  obtain ⟨q1, hcall2, h⟩ := bnd h
  refine st_call hf (by decide) Try.func19 rfl rfl rfl rfl rfl (f_points_of_c hp  hcall2) ?_
  rintro _ w ⟨v3, v4, v5, rfl, hp0⟩
  clear hp; have hp := hp0; clear hp0
  replace hp : Hp _ _ _ (Res.obj 3 v3 [.int .i64 (2 : Int)] :: Res.obj 3 v4 [.int .i64 (1 : Int)] :: Res.obj 108 v5 [.func (.func 51) #[] #[optr v4 0]] :: ow) := hp
  refine ⟨_, rfl, ?_⟩
  clear hf; intro a hf
  refine st_move hf rfl rfl (by decide) ?_
  clear hf; intro a ha hf; clear ha
  refine st_extract hf (by decide) rfl rfl rfl ?_
  clear hf; intro a ha hf; clear ha
  refine st_extract hf (by decide) rfl rfl rfl ?_
  clear hf; intro a ha hf; clear ha
  refine st_alloc (cs := [.int .i64 (0 : Int), .int .i64 (0 : Int), .nilFunc]) (zv := .agg #[.int .i64 (0 : Int), .int .i64 (0 : Int), .nilFunc]) hf (by decide) (by kernel_rfl) rfl hp rfl ?_
  clear hf; intro a w v9 hf hp0; clear hp; have hp := hp0; clear hp0
  replace hp : Hp _ _ _ (Res.obj 71 v9 [.int .i64 (0 : Int), .int .i64 (0 : Int), .nilFunc] :: Res.obj 3 v3 [.int .i64 (2 : Int)] :: Res.obj 3 v4 [.int .i64 (1 : Int)] :: Res.obj 108 v5 [.func (.func 51) #[] #[optr v4 0]] :: ow) := hp
  refine st_stO (us := [.int .i64 (2 : Int), .int .i64 (1 : Int), .func (.func 53) #[] #[optr v3 0, optr v5 0]]) hf hp (i := 0) rfl rfl rfl rfl rfl (by rfl) (by kernel_rfl) (Nat.le_of_ble_eq_true rfl) ?_
  clear hf; intro a w hf hp0; clear hp; have hp := hp0; clear hp0
  replace hp : Hp _ _ _ (Res.obj 71 v9 [.int .i64 (2 : Int), .int .i64 (1 : Int), .func (.func 53) #[] #[optr v3 0, optr v5 0]] :: Res.obj 3 v3 [.int .i64 (2 : Int)] :: Res.obj 3 v4 [.int .i64 (1 : Int)] :: Res.obj 108 v5 [.func (.func 51) #[] #[optr v4 0]] :: ow) := hp
  refine st_assign hf rfl rfl (by decide) ?_
  clear hf; intro a ha hf; clear ha
  refine st_nil hf ?_
  refine th_n ?_
  refine wp_seq ?_
  refine wp_seq ?_
  refine wp_reg ?_
  refine st_move hf rfl rfl (by decide) ?_
  clear hf; intro a ha hf; clear ha
  refine st_not hf (by decide) rfl rfl ?_
  clear hf; intro a ha hf; clear ha
  refine st_move hf rfl rfl (by decide) ?_
  clear hf; intro a ha hf; clear ha
  refine wpList_cut 3 (fun a w => Fr 28 a [(0, .int .i64 (4 : Int)), (1, .int .i64 (0 : Int)), (6, optr v9 0), (18, .bool ((!q1.2) || false))] ∧ Hp S w0 w (Res.obj 71 v9 [.int .i64 (2 : Int), .int .i64 (1 : Int), .func (.func 53) #[] #[optr v3 0, optr v5 0]] :: Res.obj 3 v3 [.int .i64 (2 : Int)] :: Res.obj 3 v4 [.int .i64 (1 : Int)] :: Res.obj 108 v5 [.func (.func 51) #[] #[optr v4 0]] :: ow)) ?_ ?_
  · rcases Bool.eq_false_or_eq_true (!q1.2) with hb12 | hb12
    · skip
      refine st_skip hf (wantN hf rfl rfl hb12) rfl (by decide) ?_ rfl
      clear hf; intro a hf
      refine st_skip hf (wantN hf rfl rfl hb12) rfl (by decide) ?_ rfl
      clear hf; intro a hf
      refine st_pick (v := .bool true) hf rfl rfl (fun hb' => ?_) (fun hb' => ?_) (by decide) ?_
      · rfl
      · exact absurd (hb12.symm.trans hb') (by decide)
      clear hf; intro a ha hf; clear ha
      refine st_nil hf (th_n ?_)
      exact ⟨hf.sub ⟨rfl, rfl, rfl, (by rw [hb12]; rfl), trivial⟩, hp⟩
    refine st_move hf (wantY hf rfl rfl hb12) rfl (by decide) ?_
    clear hf; intro a ha hf; clear ha
    refine st_ilss hf (by decide) (wantY hf rfl rfl hb12) rfl rfl ?_
    clear hf; intro a ha hf; clear ha
    replace hf : Fr _ _ ((17, .bool false) :: _) := hf
    refine st_pick (v := .bool false) hf rfl rfl (fun hb' => ?_) (fun hb' => ?_) (by decide) ?_
    · exact absurd (hb12.symm.trans hb') (by decide)
    · rfl
    clear hf; intro a ha hf; clear ha
    refine st_nil hf (th_n ?_)
    exact ⟨hf.sub ⟨rfl, rfl, rfl, (by rw [hb12]; rfl), trivial⟩, hp⟩
  rintro a w ⟨hf, hp⟩
  refine st_move hf rfl rfl (by decide) ?_
  clear hf; intro a ha hf; clear ha
  refine wpList_cut 4 (fun a w => Fr 28 a [(1, .int .i64 (0 : Int)), (6, optr v9 0), (23, .bool (((!q1.2) || false) || false))] ∧ Hp S w0 w (Res.obj 71 v9 [.int .i64 (2 : Int), .int .i64 (1 : Int), .func (.func 53) #[] #[optr v3 0, optr v5 0]] :: Res.obj 3 v3 [.int .i64 (2 : Int)] :: Res.obj 3 v4 [.int .i64 (1 : Int)] :: Res.obj 108 v5 [.func (.func 51) #[] #[optr v4 0]] :: ow)) ?_ ?_
  · rcases Bool.eq_false_or_eq_true ((!q1.2) || false) with hb14 | hb14
    · skip
      refine st_skip hf (wantN hf rfl rfl hb14) rfl (by decide) ?_ rfl
      clear hf; intro a hf
      refine st_skip hf (wantN hf rfl rfl hb14) rfl (by decide) ?_ rfl
      clear hf; intro a hf
      refine st_skip hf (wantN hf rfl rfl hb14) rfl (by decide) ?_ rfl
      clear hf; intro a hf
      refine st_pick (v := .bool true) hf rfl rfl (fun hb' => ?_) (fun hb' => ?_) (by decide) ?_
      · rfl
      · exact absurd (hb14.symm.trans hb') (by decide)
      clear hf; intro a ha hf; clear ha
      refine st_nil hf (th_n ?_)
      exact ⟨hf.sub ⟨rfl, rfl, (by rw [hb14]; rfl), trivial⟩, hp⟩
    refine st_move hf (wantY hf rfl rfl hb14) rfl (by decide) ?_
    clear hf; intro a ha hf; clear ha
    refine st_move hf (wantY hf rfl rfl hb14) rfl (by decide) ?_
    clear hf; intro a ha hf; clear ha
    refine st_igeq hf (by decide) (wantY hf rfl rfl hb14) rfl rfl ?_
    clear hf; intro a ha hf; clear ha
    replace hf : Fr _ _ ((22, .bool false) :: _) := hf
    refine st_pick (v := .bool false) hf rfl rfl (fun hb' => ?_) (fun hb' => ?_) (by decide) ?_
    · exact absurd (hb14.symm.trans hb') (by decide)
    · rfl
    clear hf; intro a ha hf; clear ha
    refine st_nil hf (th_n ?_)
    exact ⟨hf.sub ⟨rfl, rfl, (by rw [hb14]; rfl), trivial⟩, hp⟩
  rintro a w ⟨hf, hp⟩
  refine st_nil hf ?_
  refine th_n ?_
  refine wp_if hf rfl (fun hb => ?_) (fun hb => ?_)
  · replace h := ifT h hb
    refine wp_seq ?_
    refine wp_reg ?_
    refine st_assign hf rfl rfl (by decide) ?_
    clear hf; intro a ha hf; clear ha
    refine st_assign hf rfl rfl (by decide) ?_
    clear hf; intro a ha hf; clear ha
    refine st_nil hf ?_
    refine th_n ?_
    refine wp_ret ?_
    refine th_r ?_
    obtain rfl := Option.some.inj h
    have hp : Hp _ _ _ (ow) := Hp.sel (pre := [Res.obj 71 v9 [.int .i64 (2 : Int), .int .i64 (1 : Int), .func (.func 53) #[] #[optr v3 0, optr v5 0]], Res.obj 3 v3 [.int .i64 (2 : Int)], Res.obj 3 v4 [.int .i64 (1 : Int)], Res.obj 108 v5 [.func (.func 51) #[] #[optr v4 0]]]) (tail := ow) (rs' := []) hp [] (by decide) (by simp) rfl
    exact ⟨rfl, ⟨_, _, hf.sub ⟨rfl, rfl, trivial⟩, rfl, rfl, hp⟩⟩
  replace h := ifF h hb
  refine wp_skip ?_
  refine th_n ?_
  refine wp_seq ?_
  refine wp_reg ?_
  refine st_fa (o' := 2) hf (by decide) (off := 2) (sz := 1) (by kernel_rfl) (by decide) rfl rfl (hp.ob (i := 0) rfl) rfl ?_
  clear hf; intro a ha hf; clear ha
  refine st_ldO (u := .func (.func 53) #[] #[optr v3 0, optr v5 0]) hf (by decide) pl69 rfl rfl (hp.ob (i := 0) rfl) rfl ?_
  clear hf; intro a ha hf; clear ha
  refine st_move hf rfl rfl (by decide) ?_
  clear hf; intro a ha hf; clear ha
  obtain ⟨q15, hcall16, h⟩ := bnd h
  obtain ⟨S17, hp18, rd19, up20, bk21⟩ := Hp.lendO hp (i := 1) rfl
  obtain ⟨S22, hp23, rd24, up25, bk26⟩ := Hp.lendO hp18 (i := 1) rfl
  obtain ⟨S27, hp28, rd29, up30, bk31⟩ := Hp.lendO hp23 (i := 1) rfl
  refine st_call hf (by decide) Try.func53 rfl rfl rfl rfl rfl (f_points_square_2_c hp28 _ _ _ ((((rd19.now hp18).mono up25).now hp23).mono up30) _ _ ((rd24.now hp23).mono up30) _ rd29 hcall16) ?_
  rintro _ w ⟨v32, v33, rfl, y34, y35, hp0⟩
  have hp0 := bk31 _ _ hp0
  have hp0 := bk26 _ _ hp0
  have hp0 := bk21 _ _ hp0
  clear hp; have hp := hp0; clear hp0
  replace hp : Hp _ _ _ (Res.obj 3 v3 [.int .i64 (2 : Int)] :: Res.obj 3 v4 [.int .i64 (1 : Int)] :: Res.obj 108 v5 [.func (.func 51) #[] #[optr v4 0]] :: Res.obj 71 v9 [.int .i64 (2 : Int), .int .i64 (1 : Int), .func (.func 53) #[] #[optr v3 0, optr v5 0]] :: ow) := hp
  refine ⟨_, rfl, ?_⟩
  clear hf; intro a hf
  refine st_assign hf rfl rfl (by decide) ?_
  clear hf; intro a ha hf; clear ha
  refine st_assign hf rfl rfl (by decide) ?_
  clear hf; intro a ha hf; clear ha
  refine st_nil hf ?_
  refine th_n ?_
  refine wp_ret ?_
  obtain rfl := Option.some.inj h
  have hp : Hp _ _ _ (ow) := Hp.sel (pre := [Res.obj 3 v3 [.int .i64 (2 : Int)], Res.obj 3 v4 [.int .i64 (1 : Int)], Res.obj 108 v5 [.func (.func 51) #[] #[optr v4 0]], Res.obj 71 v9 [.int .i64 (2 : Int), .int .i64 (1 : Int), .func (.func 53) #[] #[optr v3 0, optr v5 0]]]) (tail := ow) (rs' := []) hp [] (by decide) (by simp) rfl
  exact ⟨rfl, ⟨_, _, hf.sub ⟨rfl, rfl, trivial⟩, y34, y35, hp⟩⟩

noncomputable def f_foghorntop_awake  : Option Bool := ((f_feedback_Run ([(Fl.bits 4607182418800017408, Fl.bits 0)]) ([((Fl.bits 4607182418800017408, Fl.bits 4607182418800017408), false), ((Fl.bits 0, Fl.bits 0), true)])).bind fun q5 => ((f_points_At).bind fun q19 => ((f_points_Label q19.1).bind fun q25 => ((if (((((q5.2 == (0 : Int)) && (q19.2 == (0 : Int))) && (q25.2 == (0 : Int))) && (q25.1 == (0 : Int))) && ((q5.1.length : Int) == (2 : Int))) = true then (if 0 ≤ (0 : Int) ∧ (0 : Int) < (q5.1.length : Int) then (some (ceq ((gt q5.1 (0 : Int)).2.1) (Fl.bits 4607182418800017408, Fl.bits 4607182418800017408))) else none) else (some false)).bind fun z37 => ((if z37 = true then (if 0 ≤ (0 : Int) ∧ (0 : Int) < (q5.1.length : Int) then (some (!((gt q5.1 (0 : Int)).2.2))) else none) else (some false)).bind fun z45 => ((if z45 = true then (if 0 ≤ (1 : Int) ∧ (1 : Int) < (q5.1.length : Int) then (some ((gt q5.1 (1 : Int)).2.2)) else none) else (some false)).bind fun z49 => (some z49)))))))
theorem f_foghorntop_awake_c {S : Nat → Prop} {w0 w : World} {ow : List Res} (hp : Hp S w0 w ow) {r : Bool} (h : f_foghorntop_awake = some r) :
    Calls Try.prog 8 #[] w (fun e w' => e = .returned (.bool r) ∧ Hp S w0 w' (ow)) := by
  unfold f_foghorntop_awake at h
  refine enter (n := 63) (args := []) Try.func8 rfl rfl (Nat.le_of_ble_eq_true rfl) fun a hf => ?_
  replace hf : Fr 63 a [] := hf
  refine wp_mono (Q := fun e a w => e = .ret ∧ Fr 63 a [(0, .bool r)] ∧ Hp S w0 w (ow)) ?_ ?_
  rotate_left
  · rintro e a w ⟨rfl, hf, hp⟩
    exact ret1 hf rfl rfl ⟨rfl, hp⟩
  refine wp_seq ?_
  refine wp_reg ?_
  refine st_assign hf rfl rfl (by decide) ?_
  clear hf; intro a ha hf; clear ha
  refine st_nil hf ?_
  refine th_n ?_
  refine wp_seq ?_
  refine wp_reg ?_
  refine st_build (E := Ek.c128) (xs := [(Fl.bits 4607182418800017408, Fl.bits 0)]) hf (by decide) elt39 Try.underlying32 hp (vals := #[(0, .complex .f64 4607182418800017408 0)]) (cells := #[.complex .f64 4607182418800017408 0]) rfl (by simp [hf.ev (x := (Operand.const (.complex .f64 4607182418800017408 0))) rfl]) (Nat.le_of_ble_eq_true rfl) (Nat.le_of_ble_eq_true rfl) (z := .complex .f64 0 0) (by kernel_rfl) (by kernel_rfl) rfl (reps_cons (cs := [.complex .f64 4607182418800017408 0]) (show Ek.c128.rep [.complex .f64 4607182418800017408 0] (Fl.bits 4607182418800017408, Fl.bits 0) from ⟨_, _, rfl, rfl, rfl⟩) (reps_nil _)) ?_
  clear hf; intro a w v1 hf hp0; clear hp; have hp := hp0; clear hp0
  replace hp : Hp _ _ _ (Res.sl Ek.c128 39 v1 ([(Fl.bits 4607182418800017408, Fl.bits 0)]) :: ow) := hp
  refine st_buildA (vals := [(0, .complex .f64 4607182418800017408 4607182418800017408)]) (cells := [.complex .f64 4607182418800017408 4607182418800017408, .bool false]) hf (by decide) rfl (by simp [hf.ev (x := (Operand.const (.complex .f64 4607182418800017408 4607182418800017408))) rfl]) (fun w => by kernel_rfl) ?_
  clear hf; intro a ha hf; clear ha
  refine st_buildA (vals := [(1, .bool true)]) (cells := [.complex .f64 0 0, .bool true]) hf (by decide) rfl (by simp [hf.ev (x := (Operand.const (.bool true))) rfl]) (fun w => by kernel_rfl) ?_
  clear hf; intro a ha hf; clear ha
  refine st_build (E := (Ek.pair Ek.c128 Ek.bool)) (xs := [((Fl.bits 4607182418800017408, Fl.bits 4607182418800017408), false), ((Fl.bits 0, Fl.bits 0), true)]) hf (by decide) elt51 Try.underlying52 hp (vals := #[(0, .agg #[.complex .f64 4607182418800017408 4607182418800017408, .bool false]), (1, .agg #[.complex .f64 0 0, .bool true])]) (cells := #[.complex .f64 4607182418800017408 4607182418800017408, .bool false, .complex .f64 0 0, .bool true]) rfl (by simp [hf.ev (x := (Operand.tmp 9)) rfl, hf.ev (x := (Operand.tmp 10)) rfl]) (Nat.le_of_ble_eq_true rfl) (Nat.le_of_ble_eq_true rfl) (z := .agg #[.complex .f64 0 0, .bool false]) (by kernel_rfl) (by kernel_rfl) rfl (reps_cons (cs := [.complex .f64 4607182418800017408 4607182418800017408, .bool false]) ⟨[.complex .f64 4607182418800017408 4607182418800017408], [.bool false], rfl, (show Ek.c128.rep [.complex .f64 4607182418800017408 4607182418800017408] (Fl.bits 4607182418800017408, Fl.bits 4607182418800017408) from ⟨_, _, rfl, rfl, rfl⟩), rfl⟩ (reps_cons (cs := [.complex .f64 0 0, .bool true]) ⟨[.complex .f64 0 0], [.bool true], rfl, (show Ek.c128.rep [.complex .f64 0 0] (Fl.bits 0, Fl.bits 0) from ⟨_, _, rfl, rfl, rfl⟩), rfl⟩ (reps_nil _))) ?_
  clear hf; intro a w v3 hf hp0; clear hp; have hp := hp0; clear hp0
  replace hp : Hp _ _ _ (Res.sl (Ek.pair Ek.c128 Ek.bool) 51 v3 ([((Fl.bits 4607182418800017408, Fl.bits 4607182418800017408), false), ((Fl.bits 0, Fl.bits 0), true)]) :: Res.sl Ek.c128 39 v1 ([(Fl.bits 4607182418800017408, Fl.bits 0)]) :: ow) := hp
  obtain ⟨q5, hcall6, h⟩ := bnd h
  obtain ⟨S7, hp8, rd9, up10, bk11⟩ := Hp.lendS hp (i := 1) rfl
  obtain ⟨S12, hp13, rd14, up15, bk16⟩ := Hp.lendS hp8 (i := 0) rfl
  refine st_call hf (by decide) Try.func12 rfl rfl rfl rfl rfl (f_feedback_Run_c hp13 _ _ ((rd9.now hp8).mono up15) _ _ rd14 hcall6) ?_
  rintro _ w ⟨v17, rfl, hp0⟩
  have hp0 := bk16 _ _ hp0
  have hp0 := bk11 _ _ hp0
  clear hp; have hp := hp0; clear hp0
  replace hp : Hp _ _ _ (Res.sl Ek.c128 39 v1 ([(Fl.bits 4607182418800017408, Fl.bits 0)]) :: Res.sl (Ek.pair Ek.c128 Ek.bool) 51 v3 ([((Fl.bits 4607182418800017408, Fl.bits 4607182418800017408), false), ((Fl.bits 0, Fl.bits 0), true)]) :: Res.sl (Ek.pair (Ek.int .i64) (Ek.pair Ek.c128 Ek.bool)) 58 v17 q5.1 :: ow) := hp
  refine ⟨_, rfl, ?_⟩
  clear hf; intro a hf
  refine st_move hf rfl rfl (by decide) ?_
  clear hf; intro a ha hf; clear ha
  refine st_extract hf (by decide) rfl rfl rfl ?_
  clear hf; intro a ha hf; clear ha
  refine st_extract hf (by decide) rfl rfl rfl ?_
  clear hf; intro a ha hf; clear ha
  refine st_assign hf rfl rfl (by decide) ?_
  clear hf; intro a ha hf; clear ha
  refine st_assign hf rfl rfl (by decide) ?_
  clear hf; intro a ha hf; clear ha
  refine st_nil hf ?_
  refine th_n ?_
  refine wp_seq ?_
  refine wp_reg ?_
  obtain ⟨q19, hcall20, h⟩ := bnd h
  refine st_call hf (by decide) Try.func13 rfl rfl rfl rfl rfl (f_points_At_c hp  hcall20) ?_
  rintro _ w ⟨v21, v22, rfl, y23, y24, hp0⟩
  clear hp; have hp := hp0; clear hp0
  replace hp : Hp _ _ _ (Res.sl Ek.c128 39 v1 ([(Fl.bits 4607182418800017408, Fl.bits 0)]) :: Res.sl (Ek.pair Ek.c128 Ek.bool) 51 v3 ([((Fl.bits 4607182418800017408, Fl.bits 4607182418800017408), false), ((Fl.bits 0, Fl.bits 0), true)]) :: Res.sl (Ek.pair (Ek.int .i64) (Ek.pair Ek.c128 Ek.bool)) 58 v17 q5.1 :: ow) := hp
  refine ⟨_, rfl, ?_⟩
  clear hf; intro a hf
  refine st_move hf rfl rfl (by decide) ?_
  clear hf; intro a ha hf; clear ha
  refine st_extract hf (by decide) rfl rfl rfl ?_
  clear hf; intro a ha hf; clear ha
  refine st_extract hf (by decide) rfl rfl rfl ?_
  clear hf; intro a ha hf; clear ha
  refine st_assign hf rfl rfl (by decide) ?_
  clear hf; intro a ha hf; clear ha
  refine st_assign hf rfl rfl (by decide) ?_
  clear hf; intro a ha hf; clear ha
  refine st_nil hf ?_
  refine th_n ?_
  refine wp_seq ?_
  refine wp_reg ?_
  refine st_move hf rfl rfl (by decide) ?_
  clear hf; intro a ha hf; clear ha
  obtain ⟨q25, hcall26, h⟩ := bnd h
  refine st_call hf (by decide) Try.func14 rfl rfl rfl rfl rfl (f_points_Label_c hp _ _ _ (show Fl.rep v21 (q19.1).1 from y23) (show Fl.rep v22 (q19.1).2 from y24) hcall26) ?_
  rintro _ w ⟨rfl, hp0⟩
  clear hp; have hp := hp0; clear hp0
  replace hp : Hp _ _ _ (Res.sl Ek.c128 39 v1 ([(Fl.bits 4607182418800017408, Fl.bits 0)]) :: Res.sl (Ek.pair Ek.c128 Ek.bool) 51 v3 ([((Fl.bits 4607182418800017408, Fl.bits 4607182418800017408), false), ((Fl.bits 0, Fl.bits 0), true)]) :: Res.sl (Ek.pair (Ek.int .i64) (Ek.pair Ek.c128 Ek.bool)) 58 v17 q5.1 :: ow) := hp
  refine ⟨_, rfl, ?_⟩
  clear hf; intro a hf
  refine st_move hf rfl rfl (by decide) ?_
  clear hf; intro a ha hf; clear ha
  refine st_extract hf (by decide) rfl rfl rfl ?_
  clear hf; intro a ha hf; clear ha
  refine st_extract hf (by decide) rfl rfl rfl ?_
  clear hf; intro a ha hf; clear ha
  refine st_assign hf rfl rfl (by decide) ?_
  clear hf; intro a ha hf; clear ha
  refine st_assign hf rfl rfl (by decide) ?_
  clear hf; intro a ha hf; clear ha
  refine st_nil hf ?_
  refine th_n ?_
  refine wp_seq ?_
  refine wp_reg ?_
  refine st_move hf rfl rfl (by decide) ?_
  clear hf; intro a ha hf; clear ha
  refine st_ieql hf (by decide) rfl rfl rfl ?_
  clear hf; intro a ha hf; clear ha
  refine st_move hf rfl rfl (by decide) ?_
  clear hf; intro a ha hf; clear ha
  refine wpList_cut 3 (fun a w => Fr 63 a [(1, v17), (5, .int .i64 q25.1), (6, .int .i64 q25.2), (29, .bool ((q5.2 == (0 : Int)) && (q19.2 == (0 : Int))))] ∧ Hp S w0 w (Res.sl Ek.c128 39 v1 ([(Fl.bits 4607182418800017408, Fl.bits 0)]) :: Res.sl (Ek.pair Ek.c128 Ek.bool) 51 v3 ([((Fl.bits 4607182418800017408, Fl.bits 4607182418800017408), false), ((Fl.bits 0, Fl.bits 0), true)]) :: Res.sl (Ek.pair (Ek.int .i64) (Ek.pair Ek.c128 Ek.bool)) 58 v17 q5.1 :: ow)) ?_ ?_
  · rcases Bool.eq_false_or_eq_true (q5.2 == (0 : Int)) with hb28 | hb28
    · skip
      refine st_move hf (wantY hf rfl rfl hb28) rfl (by decide) ?_
      clear hf; intro a ha hf; clear ha
      refine st_ieql hf (by decide) (wantY hf rfl rfl hb28) rfl rfl ?_
      clear hf; intro a ha hf; clear ha
      refine st_pick (v := .bool (q19.2 == (0 : Int))) hf rfl rfl (fun hb' => ?_) (fun hb' => ?_) (by decide) ?_
      · rfl
      · exact absurd (hb28.symm.trans hb') (by decide)
      clear hf; intro a ha hf; clear ha
      refine st_nil hf (th_n ?_)
      exact ⟨hf.sub ⟨rfl, rfl, rfl, (by rw [hb28]; rfl), trivial⟩, hp⟩
    refine st_skip hf (wantN hf rfl rfl hb28) rfl (by decide) ?_ rfl
    clear hf; intro a hf
    refine st_skip hf (wantN hf rfl rfl hb28) rfl (by decide) ?_ rfl
    clear hf; intro a hf
    refine st_pick (v := .bool false) hf rfl rfl (fun hb' => ?_) (fun hb' => ?_) (by decide) ?_
    · exact absurd (hb28.symm.trans hb') (by decide)
    · rfl
    clear hf; intro a ha hf; clear ha
    refine st_nil hf (th_n ?_)
    exact ⟨hf.sub ⟨rfl, rfl, rfl, (by rw [hb28]; rfl), trivial⟩, hp⟩
  rintro a w ⟨hf, hp⟩
  refine st_move hf rfl rfl (by decide) ?_
  clear hf; intro a ha hf; clear ha
  refine wpList_cut 3 (fun a w => Fr 63 a [(1, v17), (5, .int .i64 q25.1), (33, .bool (((q5.2 == (0 : Int)) && (q19.2 == (0 : Int))) && (q25.2 == (0 : Int))))] ∧ Hp S w0 w (Res.sl Ek.c128 39 v1 ([(Fl.bits 4607182418800017408, Fl.bits 0)]) :: Res.sl (Ek.pair Ek.c128 Ek.bool) 51 v3 ([((Fl.bits 4607182418800017408, Fl.bits 4607182418800017408), false), ((Fl.bits 0, Fl.bits 0), true)]) :: Res.sl (Ek.pair (Ek.int .i64) (Ek.pair Ek.c128 Ek.bool)) 58 v17 q5.1 :: ow)) ?_ ?_
  · rcases Bool.eq_false_or_eq_true ((q5.2 == (0 : Int)) && (q19.2 == (0 : Int))) with hb30 | hb30
    · skip
      refine st_move hf (wantY hf rfl rfl hb30) rfl (by decide) ?_
      clear hf; intro a ha hf; clear ha
      refine st_ieql hf (by decide) (wantY hf rfl rfl hb30) rfl rfl ?_
      clear hf; intro a ha hf; clear ha
      refine st_pick (v := .bool (q25.2 == (0 : Int))) hf rfl rfl (fun hb' => ?_) (fun hb' => ?_) (by decide) ?_
      · rfl
      · exact absurd (hb30.symm.trans hb') (by decide)
      clear hf; intro a ha hf; clear ha
      refine st_nil hf (th_n ?_)
      exact ⟨hf.sub ⟨rfl, rfl, (by rw [hb30]; rfl), trivial⟩, hp⟩
    refine st_skip hf (wantN hf rfl rfl hb30) rfl (by decide) ?_ rfl
    clear hf; intro a hf
    refine st_skip hf (wantN hf rfl rfl hb30) rfl (by decide) ?_ rfl
    clear hf; intro a hf
    refine st_pick (v := .bool false) hf rfl rfl (fun hb' => ?_) (fun hb' => ?_) (by decide) ?_
    · exact absurd (hb30.symm.trans hb') (by decide)
    · rfl
    clear hf; intro a ha hf; clear ha
    refine st_nil hf (th_n ?_)
    exact ⟨hf.sub ⟨rfl, rfl, (by rw [hb30]; rfl), trivial⟩, hp⟩
  rintro a w ⟨hf, hp⟩
  refine st_move hf rfl rfl (by decide) ?_
  clear hf; intro a ha hf; clear ha
  refine wpList_cut 3 (fun a w => Fr 63 a [(1, v17), (37, .bool ((((q5.2 == (0 : Int)) && (q19.2 == (0 : Int))) && (q25.2 == (0 : Int))) && (q25.1 == (0 : Int))))] ∧ Hp S w0 w (Res.sl Ek.c128 39 v1 ([(Fl.bits 4607182418800017408, Fl.bits 0)]) :: Res.sl (Ek.pair Ek.c128 Ek.bool) 51 v3 ([((Fl.bits 4607182418800017408, Fl.bits 4607182418800017408), false), ((Fl.bits 0, Fl.bits 0), true)]) :: Res.sl (Ek.pair (Ek.int .i64) (Ek.pair Ek.c128 Ek.bool)) 58 v17 q5.1 :: ow)) ?_ ?_
  · rcases Bool.eq_false_or_eq_true (((q5.2 == (0 : Int)) && (q19.2 == (0 : Int))) && (q25.2 == (0 : Int))) with hb32 | hb32
    · skip
      refine st_move hf (wantY hf rfl rfl hb32) rfl (by decide) ?_
      clear hf; intro a ha hf; clear ha
      refine st_ieql hf (by decide) (wantY hf rfl rfl hb32) rfl rfl ?_
      clear hf; intro a ha hf; clear ha
      refine st_pick (v := .bool (q25.1 == (0 : Int))) hf rfl rfl (fun hb' => ?_) (fun hb' => ?_) (by decide) ?_
      · rfl
      · exact absurd (hb32.symm.trans hb') (by decide)
      clear hf; intro a ha hf; clear ha
      refine st_nil hf (th_n ?_)
      exact ⟨hf.sub ⟨rfl, (by rw [hb32]; rfl), trivial⟩, hp⟩
    refine st_skip hf (wantN hf rfl rfl hb32) rfl (by decide) ?_ rfl
    clear hf; intro a hf
    refine st_skip hf (wantN hf rfl rfl hb32) rfl (by decide) ?_ rfl
    clear hf; intro a hf
    refine st_pick (v := .bool false) hf rfl rfl (fun hb' => ?_) (fun hb' => ?_) (by decide) ?_
    · exact absurd (hb32.symm.trans hb') (by decide)
    · rfl
    clear hf; intro a ha hf; clear ha
    refine st_nil hf (th_n ?_)
    exact ⟨hf.sub ⟨rfl, (by rw [hb32]; rfl), trivial⟩, hp⟩
  rintro a w ⟨hf, hp⟩
  refine st_move hf rfl rfl (by decide) ?_
  clear hf; intro a ha hf; clear ha
  refine wpList_cut 4 (fun a w => Fr 63 a [(1, v17), (42, .bool (((((q5.2 == (0 : Int)) && (q19.2 == (0 : Int))) && (q25.2 == (0 : Int))) && (q25.1 == (0 : Int))) && ((q5.1.length : Int) == (2 : Int))))] ∧ Hp S w0 w (Res.sl Ek.c128 39 v1 ([(Fl.bits 4607182418800017408, Fl.bits 0)]) :: Res.sl (Ek.pair Ek.c128 Ek.bool) 51 v3 ([((Fl.bits 4607182418800017408, Fl.bits 4607182418800017408), false), ((Fl.bits 0, Fl.bits 0), true)]) :: Res.sl (Ek.pair (Ek.int .i64) (Ek.pair Ek.c128 Ek.bool)) 58 v17 q5.1 :: ow)) ?_ ?_
  · rcases Bool.eq_false_or_eq_true ((((q5.2 == (0 : Int)) && (q19.2 == (0 : Int))) && (q25.2 == (0 : Int))) && (q25.1 == (0 : Int))) with hb34 | hb34
    · skip
      refine st_move hf (wantY hf rfl rfl hb34) rfl (by decide) ?_
      clear hf; intro a ha hf; clear ha
      refine st_len (E := (Ek.pair (Ek.int .i64) (Ek.pair Ek.c128 Ek.bool))) hf (by decide) Try.underlying47 (wantY hf rfl rfl hb34) rfl (hp.sl (i := 2) rfl) ?_
      clear hf; intro a ha hf; clear ha
      refine st_ieql hf (by decide) (wantY hf rfl rfl hb34) rfl rfl ?_
      clear hf; intro a ha hf; clear ha
      refine st_pick (v := .bool ((q5.1.length : Int) == (2 : Int))) hf rfl rfl (fun hb' => ?_) (fun hb' => ?_) (by decide) ?_
      · rfl
      · exact absurd (hb34.symm.trans hb') (by decide)
      clear hf; intro a ha hf; clear ha
      refine st_nil hf (th_n ?_)
      exact ⟨hf.sub ⟨rfl, (by rw [hb34]; rfl), trivial⟩, hp⟩
    refine st_skip hf (wantN hf rfl rfl hb34) rfl (by decide) ?_ rfl
    clear hf; intro a hf
    refine st_skip hf (wantN hf rfl rfl hb34) rfl (by decide) ?_ rfl
    clear hf; intro a hf
    refine st_skip hf (wantN hf rfl rfl hb34) rfl (by decide) ?_ rfl
    clear hf; intro a hf
    refine st_pick (v := .bool false) hf rfl rfl (fun hb' => ?_) (fun hb' => ?_) (by decide) ?_
    · exact absurd (hb34.symm.trans hb') (by decide)
    · rfl
    clear hf; intro a ha hf; clear ha
    refine st_nil hf (th_n ?_)
    exact ⟨hf.sub ⟨rfl, (by rw [hb34]; rfl), trivial⟩, hp⟩
  rintro a w ⟨hf, hp⟩
  refine st_move hf rfl rfl (by decide) ?_
  clear hf; intro a ha hf; clear ha
  obtain ⟨z37, hz35, h⟩ := bnd h
  refine wpList_cut 6 (fun a w => Fr 63 a [(1, v17), (49, .bool z37)] ∧ Hp S w0 w (Res.sl Ek.c128 39 v1 ([(Fl.bits 4607182418800017408, Fl.bits 0)]) :: Res.sl (Ek.pair Ek.c128 Ek.bool) 51 v3 ([((Fl.bits 4607182418800017408, Fl.bits 4607182418800017408), false), ((Fl.bits 0, Fl.bits 0), true)]) :: Res.sl (Ek.pair (Ek.int .i64) (Ek.pair Ek.c128 Ek.bool)) 58 v17 q5.1 :: ow)) ?_ ?_
  · rcases Bool.eq_false_or_eq_true (((((q5.2 == (0 : Int)) && (q19.2 == (0 : Int))) && (q25.2 == (0 : Int))) && (q25.1 == (0 : Int))) && ((q5.1.length : Int) == (2 : Int))) with hb36 | hb36
    · skip
      replace hz35 := ifT hz35 hb36
      refine st_move hf (wantY hf rfl rfl hb36) rfl (by decide) ?_
      clear hf; intro a ha hf; clear ha
      obtain ⟨hc38, hz35⟩ := chk hz35
      refine st_index (E := (Ek.pair (Ek.int .i64) (Ek.pair Ek.c128 Ek.bool))) hf (by decide) Try.underlying47 elt58 (wantY hf rfl rfl hb36) rfl rfl (hp.sl (i := 2) rfl) hc38.1 hc38.2 ?_
      clear hf; intro a ha hf; clear ha
      refine st_faP (off := 1) (sz := 1) hf (by decide) (by kernel_rfl) (by decide) (wantY hf rfl rfl hb36) rfl (Sl.isP (hp.sl (i := 2) rfl) hc38.1 hc38.2) ?_
      clear hf; intro a ha hf; clear ha
      refine st_ldQC (yv := (gt q5.1 (0 : Int)).2.1) hf (by decide) pl39 (wantY hf rfl rfl hb36) rfl (Sl.part (E := (Ek.pair (Ek.int .i64) (Ek.pair Ek.c128 Ek.bool))) (F := Ek.c128) (o := 1) (Sub.comp (Sub.snd (E := (Ek.int .i64)) (F := (Ek.pair Ek.c128 Ek.bool))) (Sub.fst (E := Ek.c128) (F := Ek.bool))) (hp.sl (i := 2) rfl) hc38.1 hc38.2) ?_
      clear hf; intro a bb39 bb40 y41 y42 ha hf; clear ha
      refine st_ccmp (r_ceq (x := (gt q5.1 (0 : Int)).2.1) (y := (Fl.bits 4607182418800017408, Fl.bits 4607182418800017408)) y41 y42 rfl rfl) hf (by decide) (wantY hf rfl rfl hb36) rfl rfl ?_
      clear hf; intro a ha hf; clear ha
      obtain rfl := Option.some.inj hz35
      refine st_pick (v := .bool (ceq ((gt q5.1 (0 : Int)).2.1) (Fl.bits 4607182418800017408, Fl.bits 4607182418800017408))) hf rfl rfl (fun hb' => ?_) (fun hb' => ?_) (by decide) ?_
      · rfl
      · exact absurd (hb36.symm.trans hb') (by decide)
      clear hf; intro a ha hf; clear ha
      refine st_nil hf (th_n ?_)
      exact ⟨hf.sub ⟨rfl, rfl, trivial⟩, hp⟩
    replace hz35 := ifF hz35 hb36
    refine st_skip hf (wantN hf rfl rfl hb36) rfl (by decide) ?_ rfl
    clear hf; intro a hf
    refine st_skip hf (wantN hf rfl rfl hb36) rfl (by decide) ?_ rfl
    clear hf; intro a hf
    refine st_skip hf (wantN hf rfl rfl hb36) rfl (by decide) ?_ rfl
    clear hf; intro a hf
    refine st_skip hf (wantN hf rfl rfl hb36) rfl (by decide) ?_ rfl
    clear hf; intro a hf
    refine st_skip hf (wantN hf rfl rfl hb36) rfl (by decide) ?_ rfl
    clear hf; intro a hf
    obtain rfl := Option.some.inj hz35
    refine st_pick (v := .bool false) hf rfl rfl (fun hb' => ?_) (fun hb' => ?_) (by decide) ?_
    · exact absurd (hb36.symm.trans hb') (by decide)
    · rfl
    clear hf; intro a ha hf; clear ha
    refine st_nil hf (th_n ?_)
    exact ⟨hf.sub ⟨rfl, rfl, trivial⟩, hp⟩
  rintro a w ⟨hf, hp⟩
  refine st_move hf rfl rfl (by decide) ?_
  clear hf; intro a ha hf; clear ha
  obtain ⟨z45, hz43, h⟩ := bnd h
  refine wpList_cut 6 (fun a w => Fr 63 a [(1, v17), (56, .bool z45)] ∧ Hp S w0 w (Res.sl Ek.c128 39 v1 ([(Fl.bits 4607182418800017408, Fl.bits 0)]) :: Res.sl (Ek.pair Ek.c128 Ek.bool) 51 v3 ([((Fl.bits 4607182418800017408, Fl.bits 4607182418800017408), false), ((Fl.bits 0, Fl.bits 0), true)]) :: Res.sl (Ek.pair (Ek.int .i64) (Ek.pair Ek.c128 Ek.bool)) 58 v17 q5.1 :: ow)) ?_ ?_
  · rcases Bool.eq_false_or_eq_true z37 with hb44 | hb44
    · skip
      replace hz43 := ifT hz43 hb44
      refine st_move hf (wantY hf rfl rfl hb44) rfl (by decide) ?_
      clear hf; intro a ha hf; clear ha
      obtain ⟨hc46, hz43⟩ := chk hz43
      refine st_index (E := (Ek.pair (Ek.int .i64) (Ek.pair Ek.c128 Ek.bool))) hf (by decide) Try.underlying47 elt58 (wantY hf rfl rfl hb44) rfl rfl (hp.sl (i := 2) rfl) hc46.1 hc46.2 ?_
      clear hf; intro a ha hf; clear ha
      refine st_faP (off := 2) (sz := 1) hf (by decide) (by kernel_rfl) (by decide) (wantY hf rfl rfl hb44) rfl (Sl.isP (hp.sl (i := 2) rfl) hc46.1 hc46.2) ?_
      clear hf; intro a ha hf; clear ha
      refine st_ldQ (F := Ek.bool) (yv := (gt q5.1 (0 : Int)).2.2) hf (by decide) pl4 (fun x => .bool x) (fun _ _ h => h) (wantY hf rfl rfl hb44) rfl (Sl.part (E := (Ek.pair (Ek.int .i64) (Ek.pair Ek.c128 Ek.bool))) (F := Ek.bool) (o := 2) (Sub.comp (Sub.snd (E := (Ek.int .i64)) (F := (Ek.pair Ek.c128 Ek.bool))) (Sub.snd (E := Ek.c128) (F := Ek.bool))) (hp.sl (i := 2) rfl) hc46.1 hc46.2) ?_
      clear hf; intro a ha hf; clear ha
      refine st_not hf (by decide) (wantY hf rfl rfl hb44) rfl ?_
      clear hf; intro a ha hf; clear ha
      obtain rfl := Option.some.inj hz43
      refine st_pick (v := .bool (!((gt q5.1 (0 : Int)).2.2))) hf rfl rfl (fun hb' => ?_) (fun hb' => ?_) (by decide) ?_
      · rfl
      · exact absurd (hb44.symm.trans hb') (by decide)
      clear hf; intro a ha hf; clear ha
      refine st_nil hf (th_n ?_)
      exact ⟨hf.sub ⟨rfl, rfl, trivial⟩, hp⟩
    replace hz43 := ifF hz43 hb44
    refine st_skip hf (wantN hf rfl rfl hb44) rfl (by decide) ?_ rfl
    clear hf; intro a hf
    refine st_skip hf (wantN hf rfl rfl hb44) rfl (by decide) ?_ rfl
    clear hf; intro a hf
    refine st_skip hf (wantN hf rfl rfl hb44) rfl (by decide) ?_ rfl
    clear hf; intro a hf
    refine st_skip hf (wantN hf rfl rfl hb44) rfl (by decide) ?_ rfl
    clear hf; intro a hf
    refine st_skip hf (wantN hf rfl rfl hb44) rfl (by decide) ?_ rfl
    clear hf; intro a hf
    obtain rfl := Option.some.inj hz43
    refine st_pick (v := .bool false) hf rfl rfl (fun hb' => ?_) (fun hb' => ?_) (by decide) ?_
    · exact absurd (hb44.symm.trans hb') (by decide)
    · rfl
    clear hf; intro a ha hf; clear ha
    refine st_nil hf (th_n ?_)
    exact ⟨hf.sub ⟨rfl, rfl, trivial⟩, hp⟩
  rintro a w ⟨hf, hp⟩
  refine st_move hf rfl rfl (by decide) ?_
  clear hf; intro a ha hf; clear ha
  obtain ⟨z49, hz47, h⟩ := bnd h
  refine wpList_cut 5 (fun a w => Fr 63 a [(62, .bool z49)] ∧ Hp S w0 w (Res.sl Ek.c128 39 v1 ([(Fl.bits 4607182418800017408, Fl.bits 0)]) :: Res.sl (Ek.pair Ek.c128 Ek.bool) 51 v3 ([((Fl.bits 4607182418800017408, Fl.bits 4607182418800017408), false), ((Fl.bits 0, Fl.bits 0), true)]) :: Res.sl (Ek.pair (Ek.int .i64) (Ek.pair Ek.c128 Ek.bool)) 58 v17 q5.1 :: ow)) ?_ ?_
  · rcases Bool.eq_false_or_eq_true z45 with hb48 | hb48
    · skip
      replace hz47 := ifT hz47 hb48
      refine st_move hf (wantY hf rfl rfl hb48) rfl (by decide) ?_
      clear hf; intro a ha hf; clear ha
      obtain ⟨hc50, hz47⟩ := chk hz47
      refine st_index (E := (Ek.pair (Ek.int .i64) (Ek.pair Ek.c128 Ek.bool))) hf (by decide) Try.underlying47 elt58 (wantY hf rfl rfl hb48) rfl rfl (hp.sl (i := 2) rfl) hc50.1 hc50.2 ?_
      clear hf; intro a ha hf; clear ha
      refine st_faP (off := 2) (sz := 1) hf (by decide) (by kernel_rfl) (by decide) (wantY hf rfl rfl hb48) rfl (Sl.isP (hp.sl (i := 2) rfl) hc50.1 hc50.2) ?_
      clear hf; intro a ha hf; clear ha
      refine st_ldQ (F := Ek.bool) (yv := (gt q5.1 (1 : Int)).2.2) hf (by decide) pl4 (fun x => .bool x) (fun _ _ h => h) (wantY hf rfl rfl hb48) rfl (Sl.part (E := (Ek.pair (Ek.int .i64) (Ek.pair Ek.c128 Ek.bool))) (F := Ek.bool) (o := 2) (Sub.comp (Sub.snd (E := (Ek.int .i64)) (F := (Ek.pair Ek.c128 Ek.bool))) (Sub.snd (E := Ek.c128) (F := Ek.bool))) (hp.sl (i := 2) rfl) hc50.1 hc50.2) ?_
      clear hf; intro a ha hf; clear ha
      obtain rfl := Option.some.inj hz47
      refine st_pick (v := .bool ((gt q5.1 (1 : Int)).2.2)) hf rfl rfl (fun hb' => ?_) (fun hb' => ?_) (by decide) ?_
      · rfl
      · exact absurd (hb48.symm.trans hb') (by decide)
      clear hf; intro a ha hf; clear ha
      refine st_nil hf (th_n ?_)
      exact ⟨hf.sub ⟨rfl, trivial⟩, hp⟩
    replace hz47 := ifF hz47 hb48
    refine st_skip hf (wantN hf rfl rfl hb48) rfl (by decide) ?_ rfl
    clear hf; intro a hf
    refine st_skip hf (wantN hf rfl rfl hb48) rfl (by decide) ?_ rfl
    clear hf; intro a hf
    refine st_skip hf (wantN hf rfl rfl hb48) rfl (by decide) ?_ rfl
    clear hf; intro a hf
    refine st_skip hf (wantN hf rfl rfl hb48) rfl (by decide) ?_ rfl
    clear hf; intro a hf
    obtain rfl := Option.some.inj hz47
    refine st_pick (v := .bool false) hf rfl rfl (fun hb' => ?_) (fun hb' => ?_) (by decide) ?_
    · exact absurd (hb48.symm.trans hb') (by decide)
    · rfl
    clear hf; intro a ha hf; clear ha
    refine st_nil hf (th_n ?_)
    exact ⟨hf.sub ⟨rfl, trivial⟩, hp⟩
  rintro a w ⟨hf, hp⟩
  refine st_assign hf rfl rfl (by decide) ?_
  clear hf; intro a ha hf; clear ha
  refine st_nil hf ?_
  refine th_n ?_
  refine wp_ret ?_
  obtain rfl := Option.some.inj h
  have hp : Hp _ _ _ (ow) := Hp.sel (pre := [Res.sl Ek.c128 39 v1 ([(Fl.bits 4607182418800017408, Fl.bits 0)]), Res.sl (Ek.pair Ek.c128 Ek.bool) 51 v3 ([((Fl.bits 4607182418800017408, Fl.bits 4607182418800017408), false), ((Fl.bits 0, Fl.bits 0), true)]), Res.sl (Ek.pair (Ek.int .i64) (Ek.pair Ek.c128 Ek.bool)) 58 v17 q5.1]) (tail := ow) (rs' := []) hp [] (by decide) (by simp) rfl
  exact ⟨rfl, ⟨hf.sub ⟨rfl, trivial⟩, hp⟩⟩

noncomputable def f_math_Trunc (xx0 : Fl) : Option Fl := (some (fint Ieee.Toward.zero xx0))
theorem f_math_Trunc_c {S : Nat → Prop} {w0 w : World} {ow : List Res} (hp : Hp S w0 w ow) (bxx0 : Nat) (xx0 : Fl) (hxx0 : xx0.rep bxx0) {r : Fl} (h : f_math_Trunc xx0 = some r) :
    Calls Try.prog 38 #[.float .f64 bxx0] w (fun e w' => ∃ (b0 : Nat), e = .returned (.float .f64 b0) ∧ Fl.rep b0 r ∧ Hp S w0 w' (ow)) := by
  unfold f_math_Trunc at h
  refine enter (n := 7) (args := [.float .f64 bxx0]) Try.func38 rfl rfl (Nat.le_of_ble_eq_true rfl) fun a hf => ?_
  replace hf : Fr 7 a [(0, .float .f64 bxx0)] := hf
  refine wp_mono (Q := fun e a w => e = .ret ∧ ∃ (b0 : Nat), Fr 7 a [(2, .float .f64 b0)] ∧ Fl.rep b0 r ∧ Hp S w0 w (ow)) ?_ ?_
  rotate_left
  · rintro e a w ⟨rfl, x0, hf, y0, hp⟩
    exact ret1 hf rfl rfl ⟨x0, rfl, y0, hp⟩
  refine wp_seq ?_
  refine wp_reg ?_
  refine st_assign hf rfl rfl (by decide) ?_
  clear hf; intro a ha hf; clear ha
  refine st_nil hf ?_
  refine th_n ?_
  refine wp_seq ?_
  refine wp_if hf rfl (fun hb => ?_) (fun hb => ?_)
  rotate_left
  · exact absurd hb (by decide)
  refine wp_seq ?_
  refine wp_reg ?_
  refine st_move hf rfl rfl (by decide) ?_
  clear hf; intro a ha hf; clear ha
  refine st_fint (fx := xx0) (nm := "math.archTrunc") (way := Ieee.Toward.zero) (f := 57) hf (by decide) hp Try.func57 rfl rfl (by kernel_rfl) (by kernel_rfl) rfl rfl rfl hxx0 ?_
  clear hf; intro a w bb1 y2 hf hp0; clear hp; have hp := hp0; clear hp0
  replace hp : Hp _ _ _ (ow) := hp
  refine st_assign hf rfl rfl (by decide) ?_
  clear hf; intro a ha hf; clear ha
  refine st_nil hf ?_
  refine th_n ?_
  refine wp_ret ?_
  refine th_r ?_
  obtain rfl := Option.some.inj h
  exact ⟨rfl, ⟨_, hf.sub ⟨rfl, trivial⟩, y2, hp⟩⟩

noncomputable def f_pulse_plain (xx0 : Fl) (most1 : Fl) : Option Bool := ((f_math_Abs xx0).bind fun q1 => ((if (fle q1 most1) = true then ((f_math_Trunc (fmul xx0 (Fl.bits 4634204016564240384))).bind fun q10 => (some (feq q10 (fmul xx0 (Fl.bits 4634204016564240384))))) else (some false)).bind fun z7 => (some z7)))
theorem f_pulse_plain_c {S : Nat → Prop} {w0 w : World} {ow : List Res} (hp : Hp S w0 w ow) (bxx0 : Nat) (xx0 : Fl) (hxx0 : xx0.rep bxx0) (bmost1 : Nat) (most1 : Fl) (hmost1 : most1.rep bmost1) {r : Bool} (h : f_pulse_plain xx0 most1 = some r) :
    Calls Try.prog 22 #[.float .f64 bxx0, .float .f64 bmost1] w (fun e w' => e = .returned (.bool r) ∧ Hp S w0 w' (ow)) := by
  unfold f_pulse_plain at h
  refine enter (n := 17) (args := [.float .f64 bxx0, .float .f64 bmost1]) Try.func22 rfl rfl (Nat.le_of_ble_eq_true rfl) fun a hf => ?_
  replace hf : Fr 17 a [(0, .float .f64 bxx0), (1, .float .f64 bmost1)] := hf
  refine wp_mono (Q := fun e a w => e = .ret ∧ Fr 17 a [(4, .bool r)] ∧ Hp S w0 w (ow)) ?_ ?_
  rotate_left
  · rintro e a w ⟨rfl, hf, hp⟩
    exact ret1 hf rfl rfl ⟨rfl, hp⟩
  refine wp_seq ?_
  refine wp_reg ?_
  refine st_assign hf rfl rfl (by decide) ?_
  clear hf; intro a ha hf; clear ha
  refine st_nil hf ?_
  refine th_n ?_
  refine wp_seq ?_
  refine wp_reg ?_
  refine st_move hf rfl rfl (by decide) ?_
  clear hf; intro a ha hf; clear ha
  obtain ⟨q1, hcall2, h⟩ := bnd h
  refine st_call hf (by decide) Try.func37 rfl rfl rfl rfl rfl (f_math_Abs_c hp _ _ (show Fl.rep bxx0 xx0 from hxx0) hcall2) ?_
  rintro _ w ⟨v3, rfl, y4, hp0⟩
  clear hp; have hp := hp0; clear hp0
  replace hp : Hp _ _ _ (ow) := hp
  refine ⟨_, rfl, ?_⟩
  clear hf; intro a hf
  refine st_move hf rfl rfl (by decide) ?_
  clear hf; intro a ha hf; clear ha
  refine st_fcmp (r_fle (fx := q1) (fy := most1) y4 hmost1) hf (by decide) rfl rfl rfl ?_
  clear hf; intro a ha hf; clear ha
  refine st_move hf rfl rfl (by decide) ?_
  clear hf; intro a ha hf; clear ha
  obtain ⟨z7, hz5, h⟩ := bnd h
  refine wpList_cut 7 (fun a w => Fr 17 a [(16, .bool z7)] ∧ Hp S w0 w (ow)) ?_ ?_
  · rcases Bool.eq_false_or_eq_true (fle q1 most1) with hb6 | hb6
    · skip
      replace hz5 := ifT hz5 hb6
      refine st_move hf (wantY hf rfl rfl hb6) rfl (by decide) ?_
      clear hf; intro a ha hf; clear ha
      refine st_farith (op := .mul) rfl hf (by decide) hp (wantY hf rfl rfl hb6) rfl rfl (show Fl.rep bxx0 xx0 from hxx0) (show Fl.rep 4634204016564240384 (Fl.bits 4634204016564240384) from rfl) ?_
      clear hf; intro a w bb8 y9 hf hp0; clear hp; have hp := hp0; clear hp0
      replace hp : Hp _ _ _ (ow) := hp
      obtain ⟨q10, hcall11, hz5⟩ := bnd hz5
      refine st_call hf (by decide) Try.func38 rfl rfl (wantY hf rfl rfl hb6) rfl rfl (f_math_Trunc_c hp _ _ (show Fl.rep bb8 (fmul xx0 (Fl.bits 4634204016564240384)) from y9) hcall11) ?_
      rintro _ w ⟨v12, rfl, y13, hp0⟩
      clear hp; have hp := hp0; clear hp0
      replace hp : Hp _ _ _ (ow) := hp
      refine ⟨_, rfl, ?_⟩
      clear hf; intro a hf
      refine st_move hf (wantY hf rfl rfl hb6) rfl (by decide) ?_
      clear hf; intro a ha hf; clear ha
      refine st_farith (op := .mul) rfl hf (by decide) hp (wantY hf rfl rfl hb6) rfl rfl (show Fl.rep bxx0 xx0 from hxx0) (show Fl.rep 4634204016564240384 (Fl.bits 4634204016564240384) from rfl) ?_
      clear hf; intro a w bb14 y15 hf hp0; clear hp; have hp := hp0; clear hp0
      replace hp : Hp _ _ _ (ow) := hp
      refine st_fcmp (r_feq (fx := q10) (fy := (fmul xx0 (Fl.bits 4634204016564240384))) y13 y15) hf (by decide) (wantY hf rfl rfl hb6) rfl rfl ?_
      clear hf; intro a ha hf; clear ha
      obtain rfl := Option.some.inj hz5
      refine st_pick (v := .bool (feq q10 (fmul xx0 (Fl.bits 4634204016564240384)))) hf rfl rfl (fun hb' => ?_) (fun hb' => ?_) (by decide) ?_
      · rfl
      · exact absurd (hb6.symm.trans hb') (by decide)
      clear hf; intro a ha hf; clear ha
      refine st_nil hf (th_n ?_)
      exact ⟨hf.sub ⟨rfl, trivial⟩, hp⟩
    replace hz5 := ifF hz5 hb6
    refine st_skip hf (wantN hf rfl rfl hb6) rfl (by decide) ?_ rfl
    clear hf; intro a hf
    refine st_skip hf (wantN hf rfl rfl hb6) rfl (by decide) ?_ rfl
    clear hf; intro a hf
    refine st_skip hf (wantN hf rfl rfl hb6) rfl (by decide) ?_ rfl
    clear hf; intro a hf
    refine st_skip hf (wantN hf rfl rfl hb6) rfl (by decide) ?_ rfl
    clear hf; intro a hf
    refine st_skip hf (wantN hf rfl rfl hb6) rfl (by decide) ?_ rfl
    clear hf; intro a hf
    refine st_skip hf (wantN hf rfl rfl hb6) rfl (by decide) ?_ rfl
    clear hf; intro a hf
    obtain rfl := Option.some.inj hz5
    refine st_pick (v := .bool false) hf rfl rfl (fun hb' => ?_) (fun hb' => ?_) (by decide) ?_
    · exact absurd (hb6.symm.trans hb') (by decide)
    · rfl
    clear hf; intro a ha hf; clear ha
    refine st_nil hf (th_n ?_)
    exact ⟨hf.sub ⟨rfl, trivial⟩, hp⟩
  rintro a w ⟨hf, hp⟩
  refine st_assign hf rfl rfl (by decide) ?_
  clear hf; intro a ha hf; clear ha
  refine st_nil hf ?_
  refine th_n ?_
  refine wp_ret ?_
  obtain rfl := Option.some.inj h
  exact ⟨rfl, ⟨hf.sub ⟨rfl, trivial⟩, hp⟩⟩

end Go.Proofs.Ytgdhjjdgghilhaa
