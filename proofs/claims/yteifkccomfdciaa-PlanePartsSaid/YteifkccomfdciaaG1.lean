/- The functions foghorn foghornlaw03.PlaneParts: what each answers, as a plain function, and that its call answers it; printed by gen.py. -/
import Derived.Test.YteifkccomfdciaaProg
import Derived.Test.YteifkccomfdciaaGlY
import Derived.KernelRfl
set_option linter.unusedVariables false
set_option linter.unusedSimpArgs false
set_option maxRecDepth 100000
set_option maxHeartbeats 4000000
namespace Go.Proofs.Yteifkccomfdciaa
open GL
theorem pl2 : Plain Try.prog 2 := ⟨⟨_, Try.underlying2, trivial⟩⟩
theorem pl22 : Plain Try.prog 22 := ⟨⟨_, Try.underlying22, trivial⟩⟩
noncomputable def f_foghornlaw03_number (p0_0 : Fl) (p0_1 : Fl) : Option (Fl × Fl) := (some (p0_0, p0_1))
theorem f_foghornlaw03_number_c {S : Nat → Prop} {w0 w : World} {ow : List Res} (hp : Hp S w0 w ow) (bp0_0 : Nat) (p0_0 : Fl) (hp0_0 : p0_0.rep bp0_0) (bp0_1 : Nat) (p0_1 : Fl) (hp0_1 : p0_1.rep bp0_1) {r : (Fl × Fl)} (h : f_foghornlaw03_number p0_0 p0_1 = some r) :
    Calls Try.prog 11 #[.agg #[.float .f64 bp0_0, .float .f64 bp0_1]] w (fun e w' => ∃ (b0 : Nat) (b1 : Nat), e = .returned (.complex .f64 b0 b1) ∧ Fl.rep b0 r.1 ∧ Fl.rep b1 r.2 ∧ Hp S w0 w' (ow)) := by
  unfold f_foghornlaw03_number at h
  refine enter (n := 8) (args := [.agg #[.float .f64 bp0_0, .float .f64 bp0_1]]) Try.func11 rfl rfl (Nat.le_of_ble_eq_true rfl) fun a hf => ?_
  replace hf : Fr 8 a [(0, .agg #[.float .f64 bp0_0, .float .f64 bp0_1])] := hf
  refine wp_mono (Q := fun e a w => e = .ret ∧ ∃ (b0 : Nat) (b1 : Nat), Fr 8 a [(2, .complex .f64 b0 b1)] ∧ Fl.rep b0 r.1 ∧ Fl.rep b1 r.2 ∧ Hp S w0 w (ow)) ?_ ?_
  rotate_left
  · rintro e a w ⟨rfl, x0, x1, hf, y0, y1, hp⟩
    exact ret1 hf rfl rfl ⟨x0, x1, rfl, y0, y1, hp⟩
  refine wp_seq ?_
  refine wp_reg ?_
  refine st_boxO (cs := [.float .f64 bp0_0, .float .f64 bp0_1]) hf (by decide) hp rfl rfl rfl ?_
  clear hf; intro a w v1 hf hp0; clear hp; have hp := hp0; clear hp0
  replace hp : Hp _ _ _ (Res.obj 23 v1 [.float .f64 bp0_0, .float .f64 bp0_1] :: ow) := hp
  refine st_assign hf rfl rfl (by decide) ?_
  clear hf; intro a ha hf; clear ha
  refine st_nil hf ?_
  refine th_n ?_
  refine wp_seq ?_
  refine wp_reg ?_
  refine st_ia (o' := 0) hf (by decide) Try.underlying23 (sz := 1) (by kernel_rfl) rfl rfl rfl (hp.ob (i := 0) rfl) (by decide) (by decide) rfl ?_
  clear hf; intro a ha hf; clear ha
  refine st_ldO (u := .float .f64 bp0_0) hf (by decide) pl22 rfl rfl (hp.ob (i := 0) rfl) rfl ?_
  clear hf; intro a ha hf; clear ha
  refine st_ia (o' := 1) hf (by decide) Try.underlying23 (sz := 1) (by kernel_rfl) rfl rfl rfl (hp.ob (i := 0) rfl) (by decide) (by decide) rfl ?_
  clear hf; intro a ha hf; clear ha
  refine st_ldO (u := .float .f64 bp0_1) hf (by decide) pl22 rfl rfl (hp.ob (i := 0) rfl) rfl ?_
  clear hf; intro a ha hf; clear ha
  refine st_complex hf (by decide) rfl rfl rfl ?_
  clear hf; intro a ha hf; clear ha
  refine st_assign hf rfl rfl (by decide) ?_
  clear hf; intro a ha hf; clear ha
  refine st_nil hf ?_
  refine th_n ?_
  refine wp_ret ?_
  obtain rfl := Option.some.inj h
  have hp : Hp _ _ _ (ow) := Hp.sel (pre := [Res.obj 23 v1 [.float .f64 bp0_0, .float .f64 bp0_1]]) (tail := ow) (rs' := []) hp [] (by decide) (by simp) rfl
  exact ⟨rfl, ⟨_, _, hf.sub ⟨rfl, trivial⟩, hp0_0, hp0_1, hp⟩⟩

noncomputable def f_plane_Mul (ax0 : (Fl × Fl)) (bx1 : (Fl × Fl)) : Option (Fl × Fl) := (some ((fsub (fmul ax0.1 bx1.1) (fmul ax0.2 bx1.2)), (fadd (fmul ax0.1 bx1.2) (fmul ax0.2 bx1.1))))
theorem f_plane_Mul_c {S : Nat → Prop} {w0 w : World} {ow : List Res} (hp : Hp S w0 w ow) (bax0 cax0 : Nat) (ax0 : Fl × Fl) (hax0 : ax0.1.rep bax0) (kax0 : ax0.2.rep cax0) (bbx1 cbx1 : Nat) (bx1 : Fl × Fl) (hbx1 : bx1.1.rep bbx1) (kbx1 : bx1.2.rep cbx1) {r : (Fl × Fl)} (h : f_plane_Mul ax0 bx1 = some r) :
    Calls Try.prog 13 #[.complex .f64 bax0 cax0, .complex .f64 bbx1 cbx1] w (fun e w' => ∃ (b0 : Nat) (b1 : Nat), e = .returned (.complex .f64 b0 b1) ∧ Fl.rep b0 r.1 ∧ Fl.rep b1 r.2 ∧ Hp S w0 w' (ow)) := by
  unfold f_plane_Mul at h
  refine enter (n := 32) (args := [.complex .f64 bax0 cax0, .complex .f64 bbx1 cbx1]) Try.func13 rfl rfl (Nat.le_of_ble_eq_true rfl) fun a hf => ?_
  replace hf : Fr 32 a [(0, .complex .f64 bax0 cax0), (1, .complex .f64 bbx1 cbx1)] := hf
  refine wp_mono (Q := fun e a w => e = .ret ∧ ∃ (b0 : Nat) (b1 : Nat), Fr 32 a [(4, .complex .f64 b0 b1)] ∧ Fl.rep b0 r.1 ∧ Fl.rep b1 r.2 ∧ Hp S w0 w (ow)) ?_ ?_
  rotate_left
  · rintro e a w ⟨rfl, x0, x1, hf, y0, y1, hp⟩
    exact ret1 hf rfl rfl ⟨x0, x1, rfl, y0, y1, hp⟩
  refine wp_seq ?_
  refine wp_reg ?_
  refine st_assign hf rfl rfl (by decide) ?_
  clear hf; intro a ha hf; clear ha
  refine st_nil hf ?_
  refine th_n ?_
  refine wp_seq ?_
  refine wp_reg ?_
  refine st_move hf rfl rfl (by decide) ?_
  clear hf; intro a ha hf; clear ha
  refine st_real hf (by decide) rfl rfl ?_
  clear hf; intro a ha hf; clear ha
  refine st_move hf rfl rfl (by decide) ?_
  clear hf; intro a ha hf; clear ha
  refine st_real hf (by decide) rfl rfl ?_
  clear hf; intro a ha hf; clear ha
  refine st_farith (op := .mul) rfl hf (by decide) hp rfl rfl rfl (show Fl.rep bax0 ax0.1 from hax0) (show Fl.rep bbx1 bx1.1 from hbx1) ?_
  clear hf; intro a w bb1 y2 hf hp0; clear hp; have hp := hp0; clear hp0
  replace hp : Hp _ _ _ (ow) := hp
  refine st_move hf rfl rfl (by decide) ?_
  clear hf; intro a ha hf; clear ha
  refine st_imag hf (by decide) rfl rfl ?_
  clear hf; intro a ha hf; clear ha
  refine st_move hf rfl rfl (by decide) ?_
  clear hf; intro a ha hf; clear ha
  refine st_imag hf (by decide) rfl rfl ?_
  clear hf; intro a ha hf; clear ha
  refine st_farith (op := .mul) rfl hf (by decide) hp rfl rfl rfl (show Fl.rep cax0 ax0.2 from kax0) (show Fl.rep cbx1 bx1.2 from kbx1) ?_
  clear hf; intro a w bb3 y4 hf hp0; clear hp; have hp := hp0; clear hp0
  replace hp : Hp _ _ _ (ow) := hp
  refine st_farith (op := .sub) rfl hf (by decide) hp rfl rfl rfl (show Fl.rep bb1 (fmul ax0.1 bx1.1) from y2) (show Fl.rep bb3 (fmul ax0.2 bx1.2) from y4) ?_
  clear hf; intro a w bb5 y6 hf hp0; clear hp; have hp := hp0; clear hp0
  replace hp : Hp _ _ _ (ow) := hp
  refine st_assign hf rfl rfl (by decide) ?_
  clear hf; intro a ha hf; clear ha
  refine st_nil hf ?_
  refine th_n ?_
  refine wp_seq ?_
  refine wp_reg ?_
  refine st_move hf rfl rfl (by decide) ?_
  clear hf; intro a ha hf; clear ha
  refine st_real hf (by decide) rfl rfl ?_
  clear hf; intro a ha hf; clear ha
  refine st_move hf rfl rfl (by decide) ?_
  clear hf; intro a ha hf; clear ha
  refine st_imag hf (by decide) rfl rfl ?_
  clear hf; intro a ha hf; clear ha
  refine st_farith (op := .mul) rfl hf (by decide) hp rfl rfl rfl (show Fl.rep bax0 ax0.1 from hax0) (show Fl.rep cbx1 bx1.2 from kbx1) ?_
  clear hf; intro a w bb7 y8 hf hp0; clear hp; have hp := hp0; clear hp0
  replace hp : Hp _ _ _ (ow) := hp
  refine st_move hf rfl rfl (by decide) ?_
  clear hf; intro a ha hf; clear ha
  refine st_imag hf (by decide) rfl rfl ?_
  clear hf; intro a ha hf; clear ha
  refine st_move hf rfl rfl (by decide) ?_
  clear hf; intro a ha hf; clear ha
  refine st_real hf (by decide) rfl rfl ?_
  clear hf; intro a ha hf; clear ha
  refine st_farith (op := .mul) rfl hf (by decide) hp rfl rfl rfl (show Fl.rep cax0 ax0.2 from kax0) (show Fl.rep bbx1 bx1.1 from hbx1) ?_
  clear hf; intro a w bb9 y10 hf hp0; clear hp; have hp := hp0; clear hp0
  replace hp : Hp _ _ _ (ow) := hp
  refine st_farith (op := .add) rfl hf (by decide) hp rfl rfl rfl (show Fl.rep bb7 (fmul ax0.1 bx1.2) from y8) (show Fl.rep bb9 (fmul ax0.2 bx1.1) from y10) ?_
  clear hf; intro a w bb11 y12 hf hp0; clear hp; have hp := hp0; clear hp0
  replace hp : Hp _ _ _ (ow) := hp
  refine st_assign hf rfl rfl (by decide) ?_
  clear hf; intro a ha hf; clear ha
  refine st_nil hf ?_
  refine th_n ?_
  refine wp_seq ?_
  refine wp_reg ?_
  refine st_move hf rfl rfl (by decide) ?_
  clear hf; intro a ha hf; clear ha
  refine st_move hf rfl rfl (by decide) ?_
  clear hf; intro a ha hf; clear ha
  refine st_complex hf (by decide) rfl rfl rfl ?_
  clear hf; intro a ha hf; clear ha
  refine st_assign hf rfl rfl (by decide) ?_
  clear hf; intro a ha hf; clear ha
  refine st_nil hf ?_
  refine th_n ?_
  refine wp_ret ?_
  obtain rfl := Option.some.inj h
  exact ⟨rfl, ⟨_, _, hf.sub ⟨rfl, trivial⟩, y6, y12, hp⟩⟩

noncomputable def f_foghornref03_Mul (ax0 : (Fl × Fl)) (bx1 : (Fl × Fl)) : Option (Fl × Fl) := (some ((fsub (fmul ax0.1 bx1.1) (fmul ax0.2 bx1.2)), (fadd (fmul ax0.1 bx1.2) (fmul ax0.2 bx1.1))))
theorem f_foghornref03_Mul_c {S : Nat → Prop} {w0 w : World} {ow : List Res} (hp : Hp S w0 w ow) (bax0 cax0 : Nat) (ax0 : Fl × Fl) (hax0 : ax0.1.rep bax0) (kax0 : ax0.2.rep cax0) (bbx1 cbx1 : Nat) (bx1 : Fl × Fl) (hbx1 : bx1.1.rep bbx1) (kbx1 : bx1.2.rep cbx1) {r : (Fl × Fl)} (h : f_foghornref03_Mul ax0 bx1 = some r) :
    Calls Try.prog 14 #[.complex .f64 bax0 cax0, .complex .f64 bbx1 cbx1] w (fun e w' => ∃ (b0 : Nat) (b1 : Nat), e = .returned (.complex .f64 b0 b1) ∧ Fl.rep b0 r.1 ∧ Fl.rep b1 r.2 ∧ Hp S w0 w' (ow)) := by
  unfold f_foghornref03_Mul at h
  refine enter (n := 36) (args := [.complex .f64 bax0 cax0, .complex .f64 bbx1 cbx1]) Try.func14 rfl rfl (Nat.le_of_ble_eq_true rfl) fun a hf => ?_
  replace hf : Fr 36 a [(0, .complex .f64 bax0 cax0), (1, .complex .f64 bbx1 cbx1)] := hf
  refine wp_mono (Q := fun e a w => e = .ret ∧ ∃ (b0 : Nat) (b1 : Nat), Fr 36 a [(4, .complex .f64 b0 b1)] ∧ Fl.rep b0 r.1 ∧ Fl.rep b1 r.2 ∧ Hp S w0 w (ow)) ?_ ?_
  rotate_left
  · rintro e a w ⟨rfl, x0, x1, hf, y0, y1, hp⟩
    exact ret1 hf rfl rfl ⟨x0, x1, rfl, y0, y1, hp⟩
  refine wp_seq ?_
  refine wp_reg ?_
  refine st_assign hf rfl rfl (by decide) ?_
  clear hf; intro a ha hf; clear ha
  refine st_nil hf ?_
  refine th_n ?_
  refine wp_seq ?_
  refine wp_reg ?_
  refine st_move hf rfl rfl (by decide) ?_
  clear hf; intro a ha hf; clear ha
  refine st_real hf (by decide) rfl rfl ?_
  clear hf; intro a ha hf; clear ha
  refine st_move hf rfl rfl (by decide) ?_
  clear hf; intro a ha hf; clear ha
  refine st_real hf (by decide) rfl rfl ?_
  clear hf; intro a ha hf; clear ha
  refine st_farith (op := .mul) rfl hf (by decide) hp rfl rfl rfl (show Fl.rep bax0 ax0.1 from hax0) (show Fl.rep bbx1 bx1.1 from hbx1) ?_
  clear hf; intro a w bb1 y2 hf hp0; clear hp; have hp := hp0; clear hp0
  replace hp : Hp _ _ _ (ow) := hp
  refine st_assign hf rfl rfl (by decide) ?_
  clear hf; intro a ha hf; clear ha
  refine st_nil hf ?_
  refine th_n ?_
  refine wp_seq ?_
  refine wp_reg ?_
  refine st_move hf rfl rfl (by decide) ?_
  clear hf; intro a ha hf; clear ha
  refine st_imag hf (by decide) rfl rfl ?_
  clear hf; intro a ha hf; clear ha
  refine st_move hf rfl rfl (by decide) ?_
  clear hf; intro a ha hf; clear ha
  refine st_imag hf (by decide) rfl rfl ?_
  clear hf; intro a ha hf; clear ha
  refine st_farith (op := .mul) rfl hf (by decide) hp rfl rfl rfl (show Fl.rep cax0 ax0.2 from kax0) (show Fl.rep cbx1 bx1.2 from kbx1) ?_
  clear hf; intro a w bb3 y4 hf hp0; clear hp; have hp := hp0; clear hp0
  replace hp : Hp _ _ _ (ow) := hp
  refine st_assign hf rfl rfl (by decide) ?_
  clear hf; intro a ha hf; clear ha
  refine st_nil hf ?_
  refine th_n ?_
  refine wp_seq ?_
  refine wp_reg ?_
  refine st_move hf rfl rfl (by decide) ?_
  clear hf; intro a ha hf; clear ha
  refine st_real hf (by decide) rfl rfl ?_
  clear hf; intro a ha hf; clear ha
  refine st_move hf rfl rfl (by decide) ?_
  clear hf; intro a ha hf; clear ha
  refine st_imag hf (by decide) rfl rfl ?_
  clear hf; intro a ha hf; clear ha
  refine st_farith (op := .mul) rfl hf (by decide) hp rfl rfl rfl (show Fl.rep bax0 ax0.1 from hax0) (show Fl.rep cbx1 bx1.2 from kbx1) ?_
  clear hf; intro a w bb5 y6 hf hp0; clear hp; have hp := hp0; clear hp0
  replace hp : Hp _ _ _ (ow) := hp
  refine st_assign hf rfl rfl (by decide) ?_
  clear hf; intro a ha hf; clear ha
  refine st_nil hf ?_
  refine th_n ?_
  refine wp_seq ?_
  refine wp_reg ?_
  refine st_move hf rfl rfl (by decide) ?_
  clear hf; intro a ha hf; clear ha
  refine st_imag hf (by decide) rfl rfl ?_
  clear hf; intro a ha hf; clear ha
  refine st_move hf rfl rfl (by decide) ?_
  clear hf; intro a ha hf; clear ha
  refine st_real hf (by decide) rfl rfl ?_
  clear hf; intro a ha hf; clear ha
  refine st_farith (op := .mul) rfl hf (by decide) hp rfl rfl rfl (show Fl.rep cax0 ax0.2 from kax0) (show Fl.rep bbx1 bx1.1 from hbx1) ?_
  clear hf; intro a w bb7 y8 hf hp0; clear hp; have hp := hp0; clear hp0
  replace hp : Hp _ _ _ (ow) := hp
  refine st_assign hf rfl rfl (by decide) ?_
  clear hf; intro a ha hf; clear ha
  refine st_nil hf ?_
  refine th_n ?_
  refine wp_seq ?_
  refine wp_reg ?_
  refine st_move hf rfl rfl (by decide) ?_
  clear hf; intro a ha hf; clear ha
  refine st_move hf rfl rfl (by decide) ?_
  clear hf; intro a ha hf; clear ha
  refine st_farith (op := .sub) rfl hf (by decide) hp rfl rfl rfl (show Fl.rep bb1 (fmul ax0.1 bx1.1) from y2) (show Fl.rep bb3 (fmul ax0.2 bx1.2) from y4) ?_
  clear hf; intro a w bb9 y10 hf hp0; clear hp; have hp := hp0; clear hp0
  replace hp : Hp _ _ _ (ow) := hp
  refine st_move hf rfl rfl (by decide) ?_
  clear hf; intro a ha hf; clear ha
  refine st_move hf rfl rfl (by decide) ?_
  clear hf; intro a ha hf; clear ha
  refine st_farith (op := .add) rfl hf (by decide) hp rfl rfl rfl (show Fl.rep bb5 (fmul ax0.1 bx1.2) from y6) (show Fl.rep bb7 (fmul ax0.2 bx1.1) from y8) ?_
  clear hf; intro a w bb11 y12 hf hp0; clear hp; have hp := hp0; clear hp0
  replace hp : Hp _ _ _ (ow) := hp
  refine st_complex hf (by decide) rfl rfl rfl ?_
  clear hf; intro a ha hf; clear ha
  refine st_assign hf rfl rfl (by decide) ?_
  clear hf; intro a ha hf; clear ha
  refine st_nil hf ?_
  refine th_n ?_
  refine wp_ret ?_
  obtain rfl := Option.some.inj h
  exact ⟨rfl, ⟨_, _, hf.sub ⟨rfl, trivial⟩, y10, y12, hp⟩⟩

noncomputable def f_math_Signbit (xx0 : Fl) : Option Bool := ((fbits xx0).bind fun q1 => (some (decide ((IntKind.i64.wrap q1) < (0 : Int)))))
theorem f_math_Signbit_c {S : Nat → Prop} {w0 w : World} {ow : List Res} (hp : Hp S w0 w ow) (bxx0 : Nat) (xx0 : Fl) (hxx0 : xx0.rep bxx0) {r : Bool} (h : f_math_Signbit xx0 = some r) :
    Calls Try.prog 69 #[.float .f64 bxx0] w (fun e w' => e = .returned (.bool r) ∧ Hp S w0 w' (ow)) := by
  unfold f_math_Signbit at h
  refine enter (n := 7) (args := [.float .f64 bxx0]) Try.func69 rfl rfl (Nat.le_of_ble_eq_true rfl) fun a hf => ?_
  replace hf : Fr 7 a [(0, .float .f64 bxx0)] := hf
  refine wp_mono (Q := fun e a w => e = .ret ∧ Fr 7 a [(2, .bool r)] ∧ Hp S w0 w (ow)) ?_ ?_
  rotate_left
  · rintro e a w ⟨rfl, hf, hp⟩
    exact ret1 hf rfl rfl ⟨rfl, hp⟩
  refine wp_seq ?_
  refine wp_reg ?_
  refine st_assign hf rfl rfl (by decide) ?_
  clear hf; intro a ha hf; clear ha
  refine st_nil hf ?_
  refine th_n ?_
  refine wp_seq ?_
  refine wp_reg ?_
  refine st_move hf rfl rfl (by decide) ?_
  clear hf; intro a ha hf; clear ha
  obtain ⟨q1, hq2, h⟩ := bnd h
  refine st_extern (ex := Extern.MathFloatBits.float64bits) (r := .int .u64 (bxx0 : Int)) (f := 73) (vs := [.float .f64 bxx0]) hf (by decide) Try.func73 rfl rfl (by kernel_rfl) (by kernel_rfl) rfl rfl rfl rfl ?_
  clear hf; intro a ha hf; clear ha
  have he3 := fbits_rep hxx0 hq2; rw [← he3] at hf
  refine st_conv_ii hf (by decide) (by rw [Try.underlying113]; rfl) Try.underlying2 rfl rfl ?_
  clear hf; intro a ha hf; clear ha
  refine st_ilss hf (by decide) rfl rfl rfl ?_
  clear hf; intro a ha hf; clear ha
  refine st_assign hf rfl rfl (by decide) ?_
  clear hf; intro a ha hf; clear ha
  refine st_nil hf ?_
  refine th_n ?_
  refine wp_ret ?_
  obtain rfl := Option.some.inj h
  exact ⟨rfl, ⟨hf.sub ⟨rfl, trivial⟩, hp⟩⟩

noncomputable def f_foghornref03_part (ax0 : Fl) (bx1 : Fl) (signs2 : Bool) : Option Bool := (if ((fne ax0 ax0) || (fne bx1 bx1)) = true then (some ((fne ax0 ax0) && (fne bx1 bx1))) else ((if (feq ax0 bx1) = true then ((if (!signs2) = true then (some true) else ((f_math_Signbit ax0).bind fun q11 => ((f_math_Signbit bx1).bind fun q13 => (some (q11 == q13))))).bind fun z10 => (some z10)) else (some false)).bind fun z7 => (some z7)))
theorem f_foghornref03_part_c {S : Nat → Prop} {w0 w : World} {ow : List Res} (hp : Hp S w0 w ow) (bax0 : Nat) (ax0 : Fl) (hax0 : ax0.rep bax0) (bbx1 : Nat) (bx1 : Fl) (hbx1 : bx1.rep bbx1) (signs2 : Bool) {r : Bool} (h : f_foghornref03_part ax0 bx1 signs2 = some r) :
    Calls Try.prog 51 #[.float .f64 bax0, .float .f64 bbx1, .bool signs2] w (fun e w' => e = .returned (.bool r) ∧ Hp S w0 w' (ow)) := by
  unfold f_foghornref03_part at h
  refine enter (n := 37) (args := [.float .f64 bax0, .float .f64 bbx1, .bool signs2]) Try.func51 rfl rfl (Nat.le_of_ble_eq_true rfl) fun a hf => ?_
  replace hf : Fr 37 a [(0, .float .f64 bax0), (1, .float .f64 bbx1), (2, .bool signs2)] := hf
  refine wp_mono (Q := fun e a w => e = .ret ∧ Fr 37 a [(6, .bool r)] ∧ Hp S w0 w (ow)) ?_ ?_
  rotate_left
  · rintro e a w ⟨rfl, hf, hp⟩
    exact ret1 hf rfl rfl ⟨rfl, hp⟩
  refine wp_seq ?_
  refine wp_reg ?_
  refine st_assign hf rfl rfl (by decide) ?_
  clear hf; intro a ha hf; clear ha
  refine st_nil hf ?_
  refine th_n ?_
  refine wp_seq ?_
  refine wp_seq ?_
  refine wp_reg ?_
  refine st_move hf rfl rfl (by decide) ?_
  clear hf; intro a ha hf; clear ha
  refine st_move hf rfl rfl (by decide) ?_
  clear hf; intro a ha hf; clear ha
  refine st_fcmp (r_fne (fx := ax0) (fy := ax0) hax0 hax0) hf (by decide) rfl rfl rfl ?_
  clear hf; intro a ha hf; clear ha
  refine st_move hf rfl rfl (by decide) ?_
  clear hf; intro a ha hf; clear ha
  refine wpList_cut 4 (fun a w => Fr 37 a [(0, .float .f64 bax0), (1, .float .f64 bbx1), (2, .bool signs2), (14, .bool ((fne ax0 ax0) || (fne bx1 bx1)))] ∧ Hp S w0 w (ow)) ?_ ?_
  · rcases Bool.eq_false_or_eq_true (fne ax0 ax0) with hb2 | hb2
    · skip
      refine st_skip hf (wantN hf rfl rfl hb2) rfl (by decide) ?_ rfl
      clear hf; intro a hf
      refine st_skip hf (wantN hf rfl rfl hb2) rfl (by decide) ?_ rfl
      clear hf; intro a hf
      refine st_skip hf (wantN hf rfl rfl hb2) rfl (by decide) ?_ rfl
      clear hf; intro a hf
      refine st_pick (v := .bool true) hf rfl rfl (fun hb' => ?_) (fun hb' => ?_) (by decide) ?_
      · rfl
      · exact absurd (hb2.symm.trans hb') (by decide)
      clear hf; intro a ha hf; clear ha
      refine st_nil hf (th_n ?_)
      exact ⟨hf.sub ⟨rfl, rfl, rfl, (by rw [hb2]; rfl), trivial⟩, hp⟩
    refine st_move hf (wantY hf rfl rfl hb2) rfl (by decide) ?_
    clear hf; intro a ha hf; clear ha
    refine st_move hf (wantY hf rfl rfl hb2) rfl (by decide) ?_
    clear hf; intro a ha hf; clear ha
    refine st_fcmp (r_fne (fx := bx1) (fy := bx1) hbx1 hbx1) hf (by decide) (wantY hf rfl rfl hb2) rfl rfl ?_
    clear hf; intro a ha hf; clear ha
    refine st_pick (v := .bool (fne bx1 bx1)) hf rfl rfl (fun hb' => ?_) (fun hb' => ?_) (by decide) ?_
    · exact absurd (hb2.symm.trans hb') (by decide)
    · rfl
    clear hf; intro a ha hf; clear ha
    refine st_nil hf (th_n ?_)
    exact ⟨hf.sub ⟨rfl, rfl, rfl, (by rw [hb2]; rfl), trivial⟩, hp⟩
  rintro a w ⟨hf, hp⟩
  refine st_nil hf ?_
  refine th_n ?_
  refine wp_if hf rfl (fun hb => ?_) (fun hb => ?_)
  · replace h := ifT h hb
    refine wp_seq ?_
    refine wp_reg ?_
    refine st_move hf rfl rfl (by decide) ?_
    clear hf; intro a ha hf; clear ha
    refine st_move hf rfl rfl (by decide) ?_
    clear hf; intro a ha hf; clear ha
    refine st_fcmp (r_fne (fx := ax0) (fy := ax0) hax0 hax0) hf (by decide) rfl rfl rfl ?_
    clear hf; intro a ha hf; clear ha
    refine st_move hf rfl rfl (by decide) ?_
    clear hf; intro a ha hf; clear ha
    refine wpList_cut 4 (fun a w => Fr 37 a [(22, .bool ((fne ax0 ax0) && (fne bx1 bx1)))] ∧ Hp S w0 w (ow)) ?_ ?_
    · rcases Bool.eq_false_or_eq_true (fne ax0 ax0) with hb4 | hb4
      · skip
        refine st_move hf (wantY hf rfl rfl hb4) rfl (by decide) ?_
        clear hf; intro a ha hf; clear ha
        refine st_move hf (wantY hf rfl rfl hb4) rfl (by decide) ?_
        clear hf; intro a ha hf; clear ha
        refine st_fcmp (r_fne (fx := bx1) (fy := bx1) hbx1 hbx1) hf (by decide) (wantY hf rfl rfl hb4) rfl rfl ?_
        clear hf; intro a ha hf; clear ha
        refine st_pick (v := .bool (fne bx1 bx1)) hf rfl rfl (fun hb' => ?_) (fun hb' => ?_) (by decide) ?_
        · rfl
        · exact absurd (hb4.symm.trans hb') (by decide)
        clear hf; intro a ha hf; clear ha
        refine st_nil hf (th_n ?_)
        exact ⟨hf.sub ⟨(by rw [hb4]; rfl), trivial⟩, hp⟩
      refine st_skip hf (wantN hf rfl rfl hb4) rfl (by decide) ?_ rfl
      clear hf; intro a hf
      refine st_skip hf (wantN hf rfl rfl hb4) rfl (by decide) ?_ rfl
      clear hf; intro a hf
      refine st_skip hf (wantN hf rfl rfl hb4) rfl (by decide) ?_ rfl
      clear hf; intro a hf
      refine st_pick (v := .bool false) hf rfl rfl (fun hb' => ?_) (fun hb' => ?_) (by decide) ?_
      · exact absurd (hb4.symm.trans hb') (by decide)
      · rfl
      clear hf; intro a ha hf; clear ha
      refine st_nil hf (th_n ?_)
      exact ⟨hf.sub ⟨(by rw [hb4]; rfl), trivial⟩, hp⟩
    rintro a w ⟨hf, hp⟩
    refine st_assign hf rfl rfl (by decide) ?_
    clear hf; intro a ha hf; clear ha
    refine st_nil hf ?_
    refine th_n ?_
    refine wp_ret ?_
    refine th_r ?_
    obtain rfl := Option.some.inj h
    exact ⟨rfl, ⟨hf.sub ⟨rfl, trivial⟩, hp⟩⟩
  replace h := ifF h hb
  refine wp_skip ?_
  refine th_n ?_
  refine wp_seq ?_
  refine wp_reg ?_
  refine st_move hf rfl rfl (by decide) ?_
  clear hf; intro a ha hf; clear ha
  refine st_move hf rfl rfl (by decide) ?_
  clear hf; intro a ha hf; clear ha
  refine st_fcmp (r_feq (fx := ax0) (fy := bx1) hax0 hbx1) hf (by decide) rfl rfl rfl ?_
  clear hf; intro a ha hf; clear ha
  refine st_move hf rfl rfl (by decide) ?_
  clear hf; intro a ha hf; clear ha
  obtain ⟨z7, hz5, h⟩ := bnd h
  refine wpList_cut 10 (fun a w => Fr 37 a [(36, .bool z7)] ∧ Hp S w0 w (ow)) ?_ ?_
  · rcases Bool.eq_false_or_eq_true (feq ax0 bx1) with hb6 | hb6
    · skip
      replace hz5 := ifT hz5 hb6
      refine st_move hf (wantY hf rfl rfl hb6) rfl (by decide) ?_
      clear hf; intro a ha hf; clear ha
      refine st_not hf (by decide) (wantY hf rfl rfl hb6) rfl ?_
      clear hf; intro a ha hf; clear ha
      refine st_move hf (wantY hf rfl rfl hb6) rfl (by decide) ?_
      clear hf; intro a ha hf; clear ha
      obtain ⟨z10, hz8, hz5⟩ := bnd hz5
      refine wpList_cut 6 (fun a w => Fr 37 a [(26, .bool (feq ax0 bx1)), (35, .bool z10)] ∧ Hp S w0 w (ow)) ?_ ?_
      · rcases Bool.eq_false_or_eq_true (!signs2) with hb9 | hb9
        · skip
          replace hz8 := ifT hz8 hb9
          refine st_skip hf (wantN hf rfl rfl hb9) rfl (by decide) ?_ rfl
          clear hf; intro a hf
          refine st_skip hf (wantN hf rfl rfl hb9) rfl (by decide) ?_ rfl
          clear hf; intro a hf
          refine st_skip hf (wantN hf rfl rfl hb9) rfl (by decide) ?_ rfl
          clear hf; intro a hf
          refine st_skip hf (wantN hf rfl rfl hb9) rfl (by decide) ?_ rfl
          clear hf; intro a hf
          refine st_skip hf (wantN hf rfl rfl hb9) rfl (by decide) ?_ rfl
          clear hf; intro a hf
          obtain rfl := Option.some.inj hz8
          refine st_pick (v := .bool true) hf (wantY hf rfl rfl hb6) rfl (fun hb' => ?_) (fun hb' => ?_) (by decide) ?_
          · rfl
          · exact absurd (hb9.symm.trans hb') (by decide)
          clear hf; intro a ha hf; clear ha
          refine st_nil hf (th_n ?_)
          exact ⟨hf.sub ⟨rfl, rfl, trivial⟩, hp⟩
        replace hz8 := ifF hz8 hb9
        refine st_move hf (wantY hf rfl rfl hb9) rfl (by decide) ?_
        clear hf; intro a ha hf; clear ha
        obtain ⟨q11, hcall12, hz8⟩ := bnd hz8
        refine st_call hf (by decide) Try.func69 rfl rfl (wantY hf rfl rfl hb9) rfl rfl (f_math_Signbit_c hp _ _ (show Fl.rep bax0 ax0 from hax0) hcall12) ?_
        rintro _ w ⟨rfl, hp0⟩
        clear hp; have hp := hp0; clear hp0
        replace hp : Hp _ _ _ (ow) := hp
        refine ⟨_, rfl, ?_⟩
        clear hf; intro a hf
        refine st_move hf (wantY hf rfl rfl hb9) rfl (by decide) ?_
        clear hf; intro a ha hf; clear ha
        obtain ⟨q13, hcall14, hz8⟩ := bnd hz8
        refine st_call hf (by decide) Try.func69 rfl rfl (wantY hf rfl rfl hb9) rfl rfl (f_math_Signbit_c hp _ _ (show Fl.rep bbx1 bx1 from hbx1) hcall14) ?_
        rintro _ w ⟨rfl, hp0⟩
        clear hp; have hp := hp0; clear hp0
        replace hp : Hp _ _ _ (ow) := hp
        refine ⟨_, rfl, ?_⟩
        clear hf; intro a hf
        refine st_beql hf (by decide) Try.underlying4 (wantY hf rfl rfl hb9) rfl rfl ?_
        clear hf; intro a ha hf; clear ha
        obtain rfl := Option.some.inj hz8
        refine st_pick (v := .bool (q11 == q13)) hf (wantY hf rfl rfl hb6) rfl (fun hb' => ?_) (fun hb' => ?_) (by decide) ?_
        · exact absurd (hb9.symm.trans hb') (by decide)
        · rfl
        clear hf; intro a ha hf; clear ha
        refine st_nil hf (th_n ?_)
        exact ⟨hf.sub ⟨rfl, rfl, trivial⟩, hp⟩
      rintro a w ⟨hf, hp⟩
      obtain rfl := Option.some.inj hz5
      refine st_pick (v := .bool z10) hf rfl rfl (fun hb' => ?_) (fun hb' => ?_) (by decide) ?_
      · rfl
      · exact absurd (hb6.symm.trans hb') (by decide)
      clear hf; intro a ha hf; clear ha
      refine st_nil hf (th_n ?_)
      exact ⟨hf.sub ⟨rfl, trivial⟩, hp⟩
    replace hz5 := ifF hz5 hb6
    refine st_skip hf (wantN hf rfl rfl hb6) rfl (by decide) ?_ rfl
    clear hf; intro a hf
    refine st_skip hf (wantN hf rfl rfl hb6) rfl (by decide) ?_ rfl
    clear hf; intro a hf
    refine st_skipU hf (wantN hf rfl rfl hb6) rfl (by decide) ?_
    clear hf; intro a hf
    refine st_skip hf (wantU hf rfl rfl) rfl (by decide) ?_ rfl
    clear hf; intro a hf
    refine st_skip hf (wantU hf rfl rfl) rfl (by decide) ?_ rfl
    clear hf; intro a hf
    refine st_skip hf (wantU hf rfl rfl) rfl (by decide) ?_ rfl
    clear hf; intro a hf
    refine st_skip hf (wantU hf rfl rfl) rfl (by decide) ?_ rfl
    clear hf; intro a hf
    refine st_skip hf (wantU hf rfl rfl) rfl (by decide) ?_ rfl
    clear hf; intro a hf
    refine st_skip hf (wantN hf rfl rfl hb6) rfl (by decide) ?_ rfl
    clear hf; intro a hf
    obtain rfl := Option.some.inj hz5
    refine st_pick (v := .bool false) hf rfl rfl (fun hb' => ?_) (fun hb' => ?_) (by decide) ?_
    · exact absurd (hb6.symm.trans hb') (by decide)
    · rfl
    clear hf; intro a ha hf; clear ha
    refine st_nil hf (th_n ?_)
    exact ⟨hf.sub ⟨rfl, trivial⟩, hp⟩
  rintro a w ⟨hf, hp⟩
  refine st_assign hf rfl rfl (by decide) ?_
  clear hf; intro a ha hf; clear ha
  refine st_nil hf ?_
  refine th_n ?_
  refine wp_ret ?_
  obtain rfl := Option.some.inj h
  exact ⟨rfl, ⟨hf.sub ⟨rfl, trivial⟩, hp⟩⟩

noncomputable def f_foghornref03_Same (ax0 : (Fl × Fl)) (bx1 : (Fl × Fl)) (signs2 : Bool) : Option Bool := ((f_foghornref03_part ax0.1 bx1.1 signs2).bind fun q1 => ((if q1 = true then ((f_foghornref03_part ax0.2 bx1.2 signs2).bind fun q6 => (some q6)) else (some false)).bind fun z5 => (some z5)))
theorem f_foghornref03_Same_c {S : Nat → Prop} {w0 w : World} {ow : List Res} (hp : Hp S w0 w ow) (bax0 cax0 : Nat) (ax0 : Fl × Fl) (hax0 : ax0.1.rep bax0) (kax0 : ax0.2.rep cax0) (bbx1 cbx1 : Nat) (bx1 : Fl × Fl) (hbx1 : bx1.1.rep bbx1) (kbx1 : bx1.2.rep cbx1) (signs2 : Bool) {r : Bool} (h : f_foghornref03_Same ax0 bx1 signs2 = some r) :
    Calls Try.prog 12 #[.complex .f64 bax0 cax0, .complex .f64 bbx1 cbx1, .bool signs2] w (fun e w' => e = .returned (.bool r) ∧ Hp S w0 w' (ow)) := by
  unfold f_foghornref03_Same at h
  refine enter (n := 21) (args := [.complex .f64 bax0 cax0, .complex .f64 bbx1 cbx1, .bool signs2]) Try.func12 rfl rfl (Nat.le_of_ble_eq_true rfl) fun a hf => ?_
  replace hf : Fr 21 a [(0, .complex .f64 bax0 cax0), (1, .complex .f64 bbx1 cbx1), (2, .bool signs2)] := hf
  refine wp_mono (Q := fun e a w => e = .ret ∧ Fr 21 a [(6, .bool r)] ∧ Hp S w0 w (ow)) ?_ ?_
  rotate_left
  · rintro e a w ⟨rfl, hf, hp⟩
    exact ret1 hf rfl rfl ⟨rfl, hp⟩
  refine wp_seq ?_
  refine wp_reg ?_
  refine st_assign hf rfl rfl (by decide) ?_
  clear hf; intro a ha hf; clear ha
  refine st_nil hf ?_
  refine th_n ?_
  refine wp_seq ?_
  refine wp_reg ?_
  refine st_move hf rfl rfl (by decide) ?_
  clear hf; intro a ha hf; clear ha
  refine st_real hf (by decide) rfl rfl ?_
  clear hf; intro a ha hf; clear ha
  refine st_move hf rfl rfl (by decide) ?_
  clear hf; intro a ha hf; clear ha
  refine st_real hf (by decide) rfl rfl ?_
  clear hf; intro a ha hf; clear ha
  refine st_move hf rfl rfl (by decide) ?_
  clear hf; intro a ha hf; clear ha
  obtain ⟨q1, hcall2, h⟩ := bnd h
  refine st_call hf (by decide) Try.func51 rfl rfl rfl rfl rfl (f_foghornref03_part_c hp _ _ (show Fl.rep bax0 ax0.1 from hax0) _ _ (show Fl.rep bbx1 bx1.1 from hbx1) _ hcall2) ?_
  rintro _ w ⟨rfl, hp0⟩
  clear hp; have hp := hp0; clear hp0
  replace hp : Hp _ _ _ (ow) := hp
  refine ⟨_, rfl, ?_⟩
  clear hf; intro a hf
  refine st_move hf rfl rfl (by decide) ?_
  clear hf; intro a ha hf; clear ha
  obtain ⟨z5, hz3, h⟩ := bnd h
  refine wpList_cut 7 (fun a w => Fr 21 a [(20, .bool z5)] ∧ Hp S w0 w (ow)) ?_ ?_
  · rcases Bool.eq_false_or_eq_true q1 with hb4 | hb4
    · skip
      replace hz3 := ifT hz3 hb4
      refine st_move hf (wantY hf rfl rfl hb4) rfl (by decide) ?_
      clear hf; intro a ha hf; clear ha
      refine st_imag hf (by decide) (wantY hf rfl rfl hb4) rfl ?_
      clear hf; intro a ha hf; clear ha
      refine st_move hf (wantY hf rfl rfl hb4) rfl (by decide) ?_
      clear hf; intro a ha hf; clear ha
      refine st_imag hf (by decide) (wantY hf rfl rfl hb4) rfl ?_
      clear hf; intro a ha hf; clear ha
      refine st_move hf (wantY hf rfl rfl hb4) rfl (by decide) ?_
      clear hf; intro a ha hf; clear ha
      obtain ⟨q6, hcall7, hz3⟩ := bnd hz3
      refine st_call hf (by decide) Try.func51 rfl rfl (wantY hf rfl rfl hb4) rfl rfl (f_foghornref03_part_c hp _ _ (show Fl.rep cax0 ax0.2 from kax0) _ _ (show Fl.rep cbx1 bx1.2 from kbx1) _ hcall7) ?_
      rintro _ w ⟨rfl, hp0⟩
      clear hp; have hp := hp0; clear hp0
      replace hp : Hp _ _ _ (ow) := hp
      refine ⟨_, rfl, ?_⟩
      clear hf; intro a hf
      obtain rfl := Option.some.inj hz3
      refine st_pick (v := .bool q6) hf rfl rfl (fun hb' => ?_) (fun hb' => ?_) (by decide) ?_
      · rfl
      · exact absurd (hb4.symm.trans hb') (by decide)
      clear hf; intro a ha hf; clear ha
      refine st_nil hf (th_n ?_)
      exact ⟨hf.sub ⟨rfl, trivial⟩, hp⟩
    replace hz3 := ifF hz3 hb4
    refine st_skip hf (wantN hf rfl rfl hb4) rfl (by decide) ?_ rfl
    clear hf; intro a hf
    refine st_skip hf (wantN hf rfl rfl hb4) rfl (by decide) ?_ rfl
    clear hf; intro a hf
    refine st_skip hf (wantN hf rfl rfl hb4) rfl (by decide) ?_ rfl
    clear hf; intro a hf
    refine st_skip hf (wantN hf rfl rfl hb4) rfl (by decide) ?_ rfl
    clear hf; intro a hf
    refine st_skip hf (wantN hf rfl rfl hb4) rfl (by decide) ?_ rfl
    clear hf; intro a hf
    refine st_skip hf (wantN hf rfl rfl hb4) rfl (by decide) ?_ rfl
    clear hf; intro a hf
    obtain rfl := Option.some.inj hz3
    refine st_pick (v := .bool false) hf rfl rfl (fun hb' => ?_) (fun hb' => ?_) (by decide) ?_
    · exact absurd (hb4.symm.trans hb') (by decide)
    · rfl
    clear hf; intro a ha hf; clear ha
    refine st_nil hf (th_n ?_)
    exact ⟨hf.sub ⟨rfl, trivial⟩, hp⟩
  rintro a w ⟨hf, hp⟩
  refine st_assign hf rfl rfl (by decide) ?_
  clear hf; intro a ha hf; clear ha
  refine st_nil hf ?_
  refine th_n ?_
  refine wp_ret ?_
  obtain rfl := Option.some.inj h
  exact ⟨rfl, ⟨hf.sub ⟨rfl, trivial⟩, hp⟩⟩

noncomputable def f_plane_Turn (zx0 : (Fl × Fl)) (quarters1 : Int) : Option (Fl × Fl) := (if ((iand .i64 quarters1 (3 : Int)) == (1 : Int)) = true then (some ((fneg zx0.2), zx0.1)) else (if ((iand .i64 quarters1 (3 : Int)) == (2 : Int)) = true then (some ((fneg zx0.1), (fneg zx0.2))) else (if ((iand .i64 quarters1 (3 : Int)) == (3 : Int)) = true then (some (zx0.2, (fneg zx0.1))) else (some zx0))))
theorem f_plane_Turn_c {S : Nat → Prop} {w0 w : World} {ow : List Res} (hp : Hp S w0 w ow) (bzx0 czx0 : Nat) (zx0 : Fl × Fl) (hzx0 : zx0.1.rep bzx0) (kzx0 : zx0.2.rep czx0) (quarters1 : Int) {r : (Fl × Fl)} (h : f_plane_Turn zx0 quarters1 = some r) :
    Calls Try.prog 15 #[.complex .f64 bzx0 czx0, .int .i64 quarters1] w (fun e w' => ∃ (b0 : Nat) (b1 : Nat), e = .returned (.complex .f64 b0 b1) ∧ Fl.rep b0 r.1 ∧ Fl.rep b1 r.2 ∧ Hp S w0 w' (ow)) := by
  unfold f_plane_Turn at h
  refine enter (n := 33) (args := [.complex .f64 bzx0 czx0, .int .i64 quarters1]) Try.func15 rfl rfl (Nat.le_of_ble_eq_true rfl) fun a hf => ?_
  replace hf : Fr 33 a [(0, .complex .f64 bzx0 czx0), (1, .int .i64 quarters1)] := hf
  refine wp_mono (Q := fun e a w => e = .ret ∧ ∃ (b0 : Nat) (b1 : Nat), Fr 33 a [(4, .complex .f64 b0 b1)] ∧ Fl.rep b0 r.1 ∧ Fl.rep b1 r.2 ∧ Hp S w0 w (ow)) ?_ ?_
  rotate_left
  · rintro e a w ⟨rfl, x0, x1, hf, y0, y1, hp⟩
    exact ret1 hf rfl rfl ⟨x0, x1, rfl, y0, y1, hp⟩
  refine wp_seq ?_
  refine wp_reg ?_
  refine st_assign hf rfl rfl (by decide) ?_
  clear hf; intro a ha hf; clear ha
  refine st_nil hf ?_
  refine th_n ?_
  refine wp_seq ?_
  refine wp_seq ?_
  refine wp_reg ?_
  refine st_move hf rfl rfl (by decide) ?_
  clear hf; intro a ha hf; clear ha
  refine st_iand hf (by decide) rfl rfl rfl ?_
  clear hf; intro a ha hf; clear ha
  refine st_nil hf ?_
  refine th_n ?_
  refine wp_block ?_
  refine wp_seq ?_
  refine wp_reg ?_
  refine st_ieql hf (by decide) rfl rfl rfl ?_
  clear hf; intro a ha hf; clear ha
  refine st_assign hf rfl rfl (by decide) ?_
  clear hf; intro a ha hf; clear ha
  refine st_nil hf ?_
  refine th_n ?_
  refine wp_if hf rfl (fun hb => ?_) (fun hb => ?_)
  · replace h := ifT h hb
    refine wp_seq ?_
    refine wp_reg ?_
    refine st_move hf rfl rfl (by decide) ?_
    clear hf; intro a ha hf; clear ha
    refine st_imag hf (by decide) rfl rfl ?_
    clear hf; intro a ha hf; clear ha
    refine st_fneg hf (by decide) rfl rfl ?_
    clear hf; intro a ha hf; clear ha
    refine st_move hf rfl rfl (by decide) ?_
    clear hf; intro a ha hf; clear ha
    refine st_real hf (by decide) rfl rfl ?_
    clear hf; intro a ha hf; clear ha
    refine st_complex hf (by decide) rfl rfl rfl ?_
    clear hf; intro a ha hf; clear ha
    refine st_assign hf rfl rfl (by decide) ?_
    clear hf; intro a ha hf; clear ha
    refine st_nil hf ?_
    refine th_n ?_
    refine wp_ret ?_
    refine ib_r ?_
    refine th_r ?_
    obtain rfl := Option.some.inj h
    exact ⟨rfl, ⟨_, _, hf.sub ⟨rfl, trivial⟩, (fneg_rep kzx0), hzx0, hp⟩⟩
  replace h := ifF h hb
  refine wp_seq ?_
  refine wp_reg ?_
  refine st_ieql hf (by decide) rfl rfl rfl ?_
  clear hf; intro a ha hf; clear ha
  refine st_assign hf rfl rfl (by decide) ?_
  clear hf; intro a ha hf; clear ha
  refine st_nil hf ?_
  refine th_n ?_
  refine wp_if hf rfl (fun hb => ?_) (fun hb => ?_)
  · replace h := ifT h hb
    refine wp_seq ?_
    refine wp_reg ?_
    refine st_move hf rfl rfl (by decide) ?_
    clear hf; intro a ha hf; clear ha
    refine st_real hf (by decide) rfl rfl ?_
    clear hf; intro a ha hf; clear ha
    refine st_fneg hf (by decide) rfl rfl ?_
    clear hf; intro a ha hf; clear ha
    refine st_move hf rfl rfl (by decide) ?_
    clear hf; intro a ha hf; clear ha
    refine st_imag hf (by decide) rfl rfl ?_
    clear hf; intro a ha hf; clear ha
    refine st_fneg hf (by decide) rfl rfl ?_
    clear hf; intro a ha hf; clear ha
    refine st_complex hf (by decide) rfl rfl rfl ?_
    clear hf; intro a ha hf; clear ha
    refine st_assign hf rfl rfl (by decide) ?_
    clear hf; intro a ha hf; clear ha
    refine st_nil hf ?_
    refine th_n ?_
    refine wp_ret ?_
    refine ib_r ?_
    refine th_r ?_
    obtain rfl := Option.some.inj h
    exact ⟨rfl, ⟨_, _, hf.sub ⟨rfl, trivial⟩, (fneg_rep hzx0), (fneg_rep kzx0), hp⟩⟩
  replace h := ifF h hb
  refine wp_seq ?_
  refine wp_reg ?_
  refine st_ieql hf (by decide) rfl rfl rfl ?_
  clear hf; intro a ha hf; clear ha
  refine st_assign hf rfl rfl (by decide) ?_
  clear hf; intro a ha hf; clear ha
  refine st_nil hf ?_
  refine th_n ?_
  refine wp_if hf rfl (fun hb => ?_) (fun hb => ?_)
  · replace h := ifT h hb
    refine wp_seq ?_
    refine wp_reg ?_
    refine st_move hf rfl rfl (by decide) ?_
    clear hf; intro a ha hf; clear ha
    refine st_imag hf (by decide) rfl rfl ?_
    clear hf; intro a ha hf; clear ha
    refine st_move hf rfl rfl (by decide) ?_
    clear hf; intro a ha hf; clear ha
    refine st_real hf (by decide) rfl rfl ?_
    clear hf; intro a ha hf; clear ha
    refine st_fneg hf (by decide) rfl rfl ?_
    clear hf; intro a ha hf; clear ha
    refine st_complex hf (by decide) rfl rfl rfl ?_
    clear hf; intro a ha hf; clear ha
    refine st_assign hf rfl rfl (by decide) ?_
    clear hf; intro a ha hf; clear ha
    refine st_nil hf ?_
    refine th_n ?_
    refine wp_ret ?_
    refine ib_r ?_
    refine th_r ?_
    obtain rfl := Option.some.inj h
    exact ⟨rfl, ⟨_, _, hf.sub ⟨rfl, trivial⟩, kzx0, (fneg_rep hzx0), hp⟩⟩
  replace h := ifF h hb
  refine wp_skip ?_
  refine ib_n ?_
  refine th_n ?_
  refine wp_seq ?_
  refine wp_reg ?_
  refine st_move hf rfl rfl (by decide) ?_
  clear hf; intro a ha hf; clear ha
  refine st_assign hf rfl rfl (by decide) ?_
  clear hf; intro a ha hf; clear ha
  refine st_nil hf ?_
  refine th_n ?_
  refine wp_ret ?_
  obtain rfl := Option.some.inj h
  exact ⟨rfl, ⟨_, _, hf.sub ⟨rfl, trivial⟩, hzx0, kzx0, hp⟩⟩

noncomputable def f_foghornref03_Turn.s1c (n1 : Int) (zx0 : (Fl × Fl)) (i5 : Int) : Option (((Fl × Fl) × Int) ⊕ (Fl × Fl)) := (if (decide (i5 < n1)) = true then (some (Sum.inl (((fneg zx0.2), zx0.1), (IntKind.i64.wrap (i5 + (1 : Int)))))) else (some (Sum.inr zx0)))
noncomputable def f_foghornref03_Turn.s1 (n1 : Int) (s : ((Fl × Fl) × Int)) : Option (((Fl × Fl) × Int) ⊕ (Fl × Fl)) := f_foghornref03_Turn.s1c n1 s.1 s.2
noncomputable def f_foghornref03_Turn.j1 (zx0 : (Fl × Fl)) (n1 : Int) : Option (Fl × Fl) := ((loop (f_foghornref03_Turn.s1 n1) (zx0, (0 : Int))).bind (fun q9 => (some q9)))
noncomputable def f_foghornref03_Turn (zx0 : (Fl × Fl)) (n1 : Int) : Option (Fl × Fl) := (if (decide (((n1).tmod (4 : Int)) < (0 : Int))) = true then (f_foghornref03_Turn.j1 zx0 (IntKind.i64.wrap (((n1).tmod (4 : Int)) + (4 : Int)))) else (f_foghornref03_Turn.j1 zx0 ((n1).tmod (4 : Int))))
theorem f_foghornref03_Turn_c {S : Nat → Prop} {w0 w : World} {ow : List Res} (hp : Hp S w0 w ow) (bzx0 czx0 : Nat) (zx0 : Fl × Fl) (hzx0 : zx0.1.rep bzx0) (kzx0 : zx0.2.rep czx0) (n1 : Int) {r : (Fl × Fl)} (h : f_foghornref03_Turn zx0 n1 = some r) :
    Calls Try.prog 16 #[.complex .f64 bzx0 czx0, .int .i64 n1] w (fun e w' => ∃ (b0 : Nat) (b1 : Nat), e = .returned (.complex .f64 b0 b1) ∧ Fl.rep b0 r.1 ∧ Fl.rep b1 r.2 ∧ Hp S w0 w' (ow)) := by
  unfold f_foghornref03_Turn at h
  refine enter (n := 24) (args := [.complex .f64 bzx0 czx0, .int .i64 n1]) Try.func16 rfl rfl (Nat.le_of_ble_eq_true rfl) fun a hf => ?_
  replace hf : Fr 24 a [(0, .complex .f64 bzx0 czx0), (1, .int .i64 n1)] := hf
  refine wp_mono (Q := fun e a w => e = .ret ∧ ∃ (b0 : Nat) (b1 : Nat), Fr 24 a [(4, .complex .f64 b0 b1)] ∧ Fl.rep b0 r.1 ∧ Fl.rep b1 r.2 ∧ Hp S w0 w (ow)) ?_ ?_
  rotate_left
  · rintro e a w ⟨rfl, x0, x1, hf, y0, y1, hp⟩
    exact ret1 hf rfl rfl ⟨x0, x1, rfl, y0, y1, hp⟩
  refine wp_seq ?_
  refine wp_reg ?_
  refine st_assign hf rfl rfl (by decide) ?_
  clear hf; intro a ha hf; clear ha
  refine st_nil hf ?_
  refine th_n ?_
  refine wp_seq ?_
  refine wp_reg ?_
  refine st_move hf rfl rfl (by decide) ?_
  clear hf; intro a ha hf; clear ha
  refine st_irem hf (by decide) rfl rfl rfl (by decide) ?_
  clear hf; intro a ha hf; clear ha
  refine st_assign hf rfl rfl (by decide) ?_
  clear hf; intro a ha hf; clear ha
  refine st_nil hf ?_
  refine th_n ?_
  refine wp_seq_cut (fun a w => ∃ (n1 : Int), f_foghornref03_Turn.j1 zx0 n1 = some r ∧ Fr 24 a [(0, .complex .f64 bzx0 czx0), (1, .int .i64 n1)] ∧ Hp S w0 w (ow)) ?_ ?_
  · skip
    refine wp_seq ?_
    refine wp_reg ?_
    refine st_move hf rfl rfl (by decide) ?_
    clear hf; intro a ha hf; clear ha
    refine st_ilss hf (by decide) rfl rfl rfl ?_
    clear hf; intro a ha hf; clear ha
    refine st_nil hf ?_
    refine th_n ?_
    refine wp_if hf rfl (fun hb => ?_) (fun hb => ?_)
    · replace h := ifT h hb
      refine wp_reg ?_
      refine st_move hf rfl rfl (by decide) ?_
      clear hf; intro a ha hf; clear ha
      refine st_iadd hf (by decide) rfl rfl rfl ?_
      clear hf; intro a ha hf; clear ha
      refine st_assign hf rfl rfl (by decide) ?_
      clear hf; intro a ha hf; clear ha
      refine st_nil hf ?_
      refine th_n ?_
      exact ⟨_, h, hf.sub ⟨rfl, rfl, trivial⟩, hp⟩
    replace h := ifF h hb
    refine wp_skip ?_
    refine th_n ?_
    exact ⟨_, h, hf.sub ⟨rfl, rfl, trivial⟩, hp⟩
  rintro a w ⟨n1, h, hf, hp⟩
  unfold f_foghornref03_Turn.j1 at h
  refine wp_seq ?_
  refine wp_seq ?_
  refine wp_reg ?_
  refine st_assign hf rfl rfl (by decide) ?_
  clear hf; intro a ha hf; clear ha
  refine st_nil hf ?_
  refine th_n ?_
  refine wp_block ?_
  obtain ⟨q9, hl, h⟩ := bnd h
  refine wp_loop_pure (f := (f_foghornref03_Turn.s1 n1)) (s := (zx0, (0 : Int))) (fun s a w => ∃ (bb1 : Nat) (bb2 : Nat), Fr 24 a [(0, .complex .f64 bb1 bb2), (1, .int .i64 n1), (5, .int .i64 s.2)] ∧ Fl.rep bb1 s.1.1 ∧ Fl.rep bb2 s.1.2 ∧ Hp S w0 w (ow)) (fun q e a w => e = .exit 0 ∧ ∃ (bb5 : Nat) (bb6 : Nat), Fr 24 a [(0, .complex .f64 bb5 bb6)] ∧ Fl.rep bb5 q.1 ∧ Fl.rep bb6 q.2 ∧ Hp S w0 w (ow)) ?_ hl ⟨_, _, hf.sub ⟨rfl, rfl, rfl, trivial⟩, hzx0, kzx0, hp⟩ ?_
  · clear hl hf hp
    intro s x a w h hI
    obtain ⟨zx0, i5⟩ := s
    obtain ⟨bb1, bb2, hf, y3, y4, hp⟩ : ∃ (bb1 : Nat) (bb2 : Nat), Fr 24 a [(0, .complex .f64 bb1 bb2), (1, .int .i64 n1), (5, .int .i64 i5)] ∧ Fl.rep bb1 zx0.1 ∧ Fl.rep bb2 zx0.2 ∧ Hp S w0 w (ow) := hI
    replace h : f_foghornref03_Turn.s1c n1 zx0 i5 = some x := h
    unfold f_foghornref03_Turn.s1c at h
    refine wp_seq ?_
    refine wp_seq ?_
    refine wp_reg ?_
    refine st_move hf rfl rfl (by decide) ?_
    clear hf; intro a ha hf; clear ha
    refine st_move hf rfl rfl (by decide) ?_
    clear hf; intro a ha hf; clear ha
    refine st_ilss hf (by decide) rfl rfl rfl ?_
    clear hf; intro a ha hf; clear ha
    refine st_nil hf ?_
    refine th_n ?_
    refine wp_if hf rfl (fun hb => ?_) (fun hb => ?_)
    · replace h := ifT h hb
      refine wp_skip ?_
      refine th_n ?_
      refine wp_seq ?_
      refine wp_block ?_
      refine wp_reg ?_
      refine st_move hf rfl rfl (by decide) ?_
      clear hf; intro a ha hf; clear ha
      refine st_imag hf (by decide) rfl rfl ?_
      clear hf; intro a ha hf; clear ha
      refine st_fneg hf (by decide) rfl rfl ?_
      clear hf; intro a ha hf; clear ha
      refine st_move hf rfl rfl (by decide) ?_
      clear hf; intro a ha hf; clear ha
      refine st_real hf (by decide) rfl rfl ?_
      clear hf; intro a ha hf; clear ha
      refine st_complex hf (by decide) rfl rfl rfl ?_
      clear hf; intro a ha hf; clear ha
      refine st_assign hf rfl rfl (by decide) ?_
      clear hf; intro a ha hf; clear ha
      refine st_nil hf ?_
      refine ib_n ?_
      refine th_n ?_
      refine wp_reg ?_
      refine st_move hf rfl rfl (by decide) ?_
      clear hf; intro a ha hf; clear ha
      refine st_iadd hf (by decide) rfl rfl rfl ?_
      clear hf; intro a ha hf; clear ha
      refine st_assign hf rfl rfl (by decide) ?_
      clear hf; intro a ha hf; clear ha
      refine st_nil hf ?_
      obtain rfl := Option.some.inj h
      exact rnd_l ⟨_, _, hf.sub ⟨rfl, rfl, rfl, trivial⟩, (fneg_rep y4), y3, hp⟩
    replace h := ifF h hb
    refine wp_exit ?_
    refine th_e ?_
    obtain rfl := Option.some.inj h
    exact rnd_r (by simp) ⟨rfl, _, _, hf.sub ⟨rfl, trivial⟩, y3, y4, hp⟩
  clear hl hf hp
  intro e a w hne hO
  obtain ⟨rfl, bb5, bb6, hf, y7, y8, hp⟩ := hO
  refine ib_same ?_
  refine th_n ?_
  refine wp_seq ?_
  refine wp_reg ?_
  refine st_move hf rfl rfl (by decide) ?_
  clear hf; intro a ha hf; clear ha
  refine st_assign hf rfl rfl (by decide) ?_
  clear hf; intro a ha hf; clear ha
  refine st_nil hf ?_
  refine th_n ?_
  refine wp_ret ?_
  obtain rfl := Option.some.inj h
  exact ⟨rfl, ⟨_, _, hf.sub ⟨rfl, trivial⟩, y7, y8, hp⟩⟩

noncomputable def f_plane_Conj (zx0 : (Fl × Fl)) : Option (Fl × Fl) := (some (zx0.1, (fneg zx0.2)))
theorem f_plane_Conj_c {S : Nat → Prop} {w0 w : World} {ow : List Res} (hp : Hp S w0 w ow) (bzx0 czx0 : Nat) (zx0 : Fl × Fl) (hzx0 : zx0.1.rep bzx0) (kzx0 : zx0.2.rep czx0) {r : (Fl × Fl)} (h : f_plane_Conj zx0 = some r) :
    Calls Try.prog 17 #[.complex .f64 bzx0 czx0] w (fun e w' => ∃ (b0 : Nat) (b1 : Nat), e = .returned (.complex .f64 b0 b1) ∧ Fl.rep b0 r.1 ∧ Fl.rep b1 r.2 ∧ Hp S w0 w' (ow)) := by
  unfold f_plane_Conj at h
  refine enter (n := 9) (args := [.complex .f64 bzx0 czx0]) Try.func17 rfl rfl (Nat.le_of_ble_eq_true rfl) fun a hf => ?_
  replace hf : Fr 9 a [(0, .complex .f64 bzx0 czx0)] := hf
  refine wp_mono (Q := fun e a w => e = .ret ∧ ∃ (b0 : Nat) (b1 : Nat), Fr 9 a [(2, .complex .f64 b0 b1)] ∧ Fl.rep b0 r.1 ∧ Fl.rep b1 r.2 ∧ Hp S w0 w (ow)) ?_ ?_
  rotate_left
  · rintro e a w ⟨rfl, x0, x1, hf, y0, y1, hp⟩
    exact ret1 hf rfl rfl ⟨x0, x1, rfl, y0, y1, hp⟩
  refine wp_seq ?_
  refine wp_reg ?_
  refine st_assign hf rfl rfl (by decide) ?_
  clear hf; intro a ha hf; clear ha
  refine st_nil hf ?_
  refine th_n ?_
  refine wp_seq ?_
  refine wp_reg ?_
  refine st_move hf rfl rfl (by decide) ?_
  clear hf; intro a ha hf; clear ha
  refine st_real hf (by decide) rfl rfl ?_
  clear hf; intro a ha hf; clear ha
  refine st_move hf rfl rfl (by decide) ?_
  clear hf; intro a ha hf; clear ha
  refine st_imag hf (by decide) rfl rfl ?_
  clear hf; intro a ha hf; clear ha
  refine st_fneg hf (by decide) rfl rfl ?_
  clear hf; intro a ha hf; clear ha
  refine st_complex hf (by decide) rfl rfl rfl ?_
  clear hf; intro a ha hf; clear ha
  refine st_assign hf rfl rfl (by decide) ?_
  clear hf; intro a ha hf; clear ha
  refine st_nil hf ?_
  refine th_n ?_
  refine wp_ret ?_
  obtain rfl := Option.some.inj h
  exact ⟨rfl, ⟨_, _, hf.sub ⟨rfl, trivial⟩, hzx0, (fneg_rep kzx0), hp⟩⟩

noncomputable def f_foghornref03_Conj (zx0 : (Fl × Fl)) : Option (Fl × Fl) := (some (zx0.1, (fneg zx0.2)))
theorem f_foghornref03_Conj_c {S : Nat → Prop} {w0 w : World} {ow : List Res} (hp : Hp S w0 w ow) (bzx0 czx0 : Nat) (zx0 : Fl × Fl) (hzx0 : zx0.1.rep bzx0) (kzx0 : zx0.2.rep czx0) {r : (Fl × Fl)} (h : f_foghornref03_Conj zx0 = some r) :
    Calls Try.prog 18 #[.complex .f64 bzx0 czx0] w (fun e w' => ∃ (b0 : Nat) (b1 : Nat), e = .returned (.complex .f64 b0 b1) ∧ Fl.rep b0 r.1 ∧ Fl.rep b1 r.2 ∧ Hp S w0 w' (ow)) := by
  unfold f_foghornref03_Conj at h
  refine enter (n := 9) (args := [.complex .f64 bzx0 czx0]) Try.func18 rfl rfl (Nat.le_of_ble_eq_true rfl) fun a hf => ?_
  replace hf : Fr 9 a [(0, .complex .f64 bzx0 czx0)] := hf
  refine wp_mono (Q := fun e a w => e = .ret ∧ ∃ (b0 : Nat) (b1 : Nat), Fr 9 a [(2, .complex .f64 b0 b1)] ∧ Fl.rep b0 r.1 ∧ Fl.rep b1 r.2 ∧ Hp S w0 w (ow)) ?_ ?_
  rotate_left
  · rintro e a w ⟨rfl, x0, x1, hf, y0, y1, hp⟩
    exact ret1 hf rfl rfl ⟨x0, x1, rfl, y0, y1, hp⟩
  refine wp_seq ?_
  refine wp_reg ?_
  refine st_assign hf rfl rfl (by decide) ?_
  clear hf; intro a ha hf; clear ha
  refine st_nil hf ?_
  refine th_n ?_
  refine wp_seq ?_
  refine wp_reg ?_
  refine st_move hf rfl rfl (by decide) ?_
  clear hf; intro a ha hf; clear ha
  refine st_real hf (by decide) rfl rfl ?_
  clear hf; intro a ha hf; clear ha
  refine st_move hf rfl rfl (by decide) ?_
  clear hf; intro a ha hf; clear ha
  refine st_imag hf (by decide) rfl rfl ?_
  clear hf; intro a ha hf; clear ha
  refine st_fneg hf (by decide) rfl rfl ?_
  clear hf; intro a ha hf; clear ha
  refine st_complex hf (by decide) rfl rfl rfl ?_
  clear hf; intro a ha hf; clear ha
  refine st_assign hf rfl rfl (by decide) ?_
  clear hf; intro a ha hf; clear ha
  refine st_nil hf ?_
  refine th_n ?_
  refine wp_ret ?_
  obtain rfl := Option.some.inj h
  exact ⟨rfl, ⟨_, _, hf.sub ⟨rfl, trivial⟩, hzx0, (fneg_rep kzx0), hp⟩⟩

noncomputable def f_plane_Norm (zx0 : (Fl × Fl)) : Option Fl := (some (fadd (fmul zx0.1 zx0.1) (fmul zx0.2 zx0.2)))
theorem f_plane_Norm_c {S : Nat → Prop} {w0 w : World} {ow : List Res} (hp : Hp S w0 w ow) (bzx0 czx0 : Nat) (zx0 : Fl × Fl) (hzx0 : zx0.1.rep bzx0) (kzx0 : zx0.2.rep czx0) {r : Fl} (h : f_plane_Norm zx0 = some r) :
    Calls Try.prog 20 #[.complex .f64 bzx0 czx0] w (fun e w' => ∃ (b0 : Nat), e = .returned (.float .f64 b0) ∧ Fl.rep b0 r ∧ Hp S w0 w' (ow)) := by
  unfold f_plane_Norm at h
  refine enter (n := 14) (args := [.complex .f64 bzx0 czx0]) Try.func20 rfl rfl (Nat.le_of_ble_eq_true rfl) fun a hf => ?_
  replace hf : Fr 14 a [(0, .complex .f64 bzx0 czx0)] := hf
  refine wp_mono (Q := fun e a w => e = .ret ∧ ∃ (b0 : Nat), Fr 14 a [(2, .float .f64 b0)] ∧ Fl.rep b0 r ∧ Hp S w0 w (ow)) ?_ ?_
  rotate_left
  · rintro e a w ⟨rfl, x0, hf, y0, hp⟩
    exact ret1 hf rfl rfl ⟨x0, rfl, y0, hp⟩
  refine wp_seq ?_
  refine wp_reg ?_
  refine st_assign hf rfl rfl (by decide) ?_
  clear hf; intro a ha hf; clear ha
  refine st_nil hf ?_
  refine th_n ?_
  refine wp_seq ?_
  refine wp_reg ?_
  refine st_move hf rfl rfl (by decide) ?_
  clear hf; intro a ha hf; clear ha
  refine st_real hf (by decide) rfl rfl ?_
  clear hf; intro a ha hf; clear ha
  refine st_move hf rfl rfl (by decide) ?_
  clear hf; intro a ha hf; clear ha
  refine st_real hf (by decide) rfl rfl ?_
  clear hf; intro a ha hf; clear ha
  refine st_farith (op := .mul) rfl hf (by decide) hp rfl rfl rfl (show Fl.rep bzx0 zx0.1 from hzx0) (show Fl.rep bzx0 zx0.1 from hzx0) ?_
  clear hf; intro a w bb1 y2 hf hp0; clear hp; have hp := hp0; clear hp0
  replace hp : Hp _ _ _ (ow) := hp
  refine st_move hf rfl rfl (by decide) ?_
  clear hf; intro a ha hf; clear ha
  refine st_imag hf (by decide) rfl rfl ?_
  clear hf; intro a ha hf; clear ha
  refine st_move hf rfl rfl (by decide) ?_
  clear hf; intro a ha hf; clear ha
  refine st_imag hf (by decide) rfl rfl ?_
  clear hf; intro a ha hf; clear ha
  refine st_farith (op := .mul) rfl hf (by decide) hp rfl rfl rfl (show Fl.rep czx0 zx0.2 from kzx0) (show Fl.rep czx0 zx0.2 from kzx0) ?_
  clear hf; intro a w bb3 y4 hf hp0; clear hp; have hp := hp0; clear hp0
  replace hp : Hp _ _ _ (ow) := hp
  refine st_farith (op := .add) rfl hf (by decide) hp rfl rfl rfl (show Fl.rep bb1 (fmul zx0.1 zx0.1) from y2) (show Fl.rep bb3 (fmul zx0.2 zx0.2) from y4) ?_
  clear hf; intro a w bb5 y6 hf hp0; clear hp; have hp := hp0; clear hp0
  replace hp : Hp _ _ _ (ow) := hp
  refine st_assign hf rfl rfl (by decide) ?_
  clear hf; intro a ha hf; clear ha
  refine st_nil hf ?_
  refine th_n ?_
  refine wp_ret ?_
  obtain rfl := Option.some.inj h
  exact ⟨rfl, ⟨_, hf.sub ⟨rfl, trivial⟩, y6, hp⟩⟩

noncomputable def f_foghornref03_Norm (zx0 : (Fl × Fl)) : Option Fl := (some (fadd (fmul zx0.1 zx0.1) (fmul zx0.2 zx0.2)))
theorem f_foghornref03_Norm_c {S : Nat → Prop} {w0 w : World} {ow : List Res} (hp : Hp S w0 w ow) (bzx0 czx0 : Nat) (zx0 : Fl × Fl) (hzx0 : zx0.1.rep bzx0) (kzx0 : zx0.2.rep czx0) {r : Fl} (h : f_foghornref03_Norm zx0 = some r) :
    Calls Try.prog 21 #[.complex .f64 bzx0 czx0] w (fun e w' => ∃ (b0 : Nat), e = .returned (.float .f64 b0) ∧ Fl.rep b0 r ∧ Hp S w0 w' (ow)) := by
  unfold f_foghornref03_Norm at h
  refine enter (n := 18) (args := [.complex .f64 bzx0 czx0]) Try.func21 rfl rfl (Nat.le_of_ble_eq_true rfl) fun a hf => ?_
  replace hf : Fr 18 a [(0, .complex .f64 bzx0 czx0)] := hf
  refine wp_mono (Q := fun e a w => e = .ret ∧ ∃ (b0 : Nat), Fr 18 a [(2, .float .f64 b0)] ∧ Fl.rep b0 r ∧ Hp S w0 w (ow)) ?_ ?_
  rotate_left
  · rintro e a w ⟨rfl, x0, hf, y0, hp⟩
    exact ret1 hf rfl rfl ⟨x0, rfl, y0, hp⟩
  refine wp_seq ?_
  refine wp_reg ?_
  refine st_assign hf rfl rfl (by decide) ?_
  clear hf; intro a ha hf; clear ha
  refine st_nil hf ?_
  refine th_n ?_
  refine wp_seq ?_
  refine wp_reg ?_
  refine st_move hf rfl rfl (by decide) ?_
  clear hf; intro a ha hf; clear ha
  refine st_real hf (by decide) rfl rfl ?_
  clear hf; intro a ha hf; clear ha
  refine st_move hf rfl rfl (by decide) ?_
  clear hf; intro a ha hf; clear ha
  refine st_real hf (by decide) rfl rfl ?_
  clear hf; intro a ha hf; clear ha
  refine st_farith (op := .mul) rfl hf (by decide) hp rfl rfl rfl (show Fl.rep bzx0 zx0.1 from hzx0) (show Fl.rep bzx0 zx0.1 from hzx0) ?_
  clear hf; intro a w bb1 y2 hf hp0; clear hp; have hp := hp0; clear hp0
  replace hp : Hp _ _ _ (ow) := hp
  refine st_assign hf rfl rfl (by decide) ?_
  clear hf; intro a ha hf; clear ha
  refine st_nil hf ?_
  refine th_n ?_
  refine wp_seq ?_
  refine wp_reg ?_
  refine st_move hf rfl rfl (by decide) ?_
  clear hf; intro a ha hf; clear ha
  refine st_imag hf (by decide) rfl rfl ?_
  clear hf; intro a ha hf; clear ha
  refine st_move hf rfl rfl (by decide) ?_
  clear hf; intro a ha hf; clear ha
  refine st_imag hf (by decide) rfl rfl ?_
  clear hf; intro a ha hf; clear ha
  refine st_farith (op := .mul) rfl hf (by decide) hp rfl rfl rfl (show Fl.rep czx0 zx0.2 from kzx0) (show Fl.rep czx0 zx0.2 from kzx0) ?_
  clear hf; intro a w bb3 y4 hf hp0; clear hp; have hp := hp0; clear hp0
  replace hp : Hp _ _ _ (ow) := hp
  refine st_assign hf rfl rfl (by decide) ?_
  clear hf; intro a ha hf; clear ha
  refine st_nil hf ?_
  refine th_n ?_
  refine wp_seq ?_
  refine wp_reg ?_
  refine st_move hf rfl rfl (by decide) ?_
  clear hf; intro a ha hf; clear ha
  refine st_move hf rfl rfl (by decide) ?_
  clear hf; intro a ha hf; clear ha
  refine st_farith (op := .add) rfl hf (by decide) hp rfl rfl rfl (show Fl.rep bb1 (fmul zx0.1 zx0.1) from y2) (show Fl.rep bb3 (fmul zx0.2 zx0.2) from y4) ?_
  clear hf; intro a w bb5 y6 hf hp0; clear hp; have hp := hp0; clear hp0
  replace hp : Hp _ _ _ (ow) := hp
  refine st_assign hf rfl rfl (by decide) ?_
  clear hf; intro a ha hf; clear ha
  refine st_nil hf ?_
  refine th_n ?_
  refine wp_ret ?_
  obtain rfl := Option.some.inj h
  exact ⟨rfl, ⟨_, hf.sub ⟨rfl, trivial⟩, y6, hp⟩⟩

noncomputable def f_foghornlaw03_floats (ax0 : Fl) (bx1 : Fl) : Option Bool := (some ((feq ax0 bx1) || ((fne ax0 ax0) && (fne bx1 bx1))))
theorem f_foghornlaw03_floats_c {S : Nat → Prop} {w0 w : World} {ow : List Res} (hp : Hp S w0 w ow) (bax0 : Nat) (ax0 : Fl) (hax0 : ax0.rep bax0) (bbx1 : Nat) (bx1 : Fl) (hbx1 : bx1.rep bbx1) {r : Bool} (h : f_foghornlaw03_floats ax0 bx1 = some r) :
    Calls Try.prog 19 #[.float .f64 bax0, .float .f64 bbx1] w (fun e w' => e = .returned (.bool r) ∧ Hp S w0 w' (ow)) := by
  unfold f_foghornlaw03_floats at h
  refine enter (n := 18) (args := [.float .f64 bax0, .float .f64 bbx1]) Try.func19 rfl rfl (Nat.le_of_ble_eq_true rfl) fun a hf => ?_
  replace hf : Fr 18 a [(0, .float .f64 bax0), (1, .float .f64 bbx1)] := hf
  refine wp_mono (Q := fun e a w => e = .ret ∧ Fr 18 a [(4, .bool r)] ∧ Hp S w0 w (ow)) ?_ ?_
  rotate_left
  · rintro e a w ⟨rfl, hf, hp⟩
    exact ret1 hf rfl rfl ⟨rfl, hp⟩
  refine wp_seq ?_
  refine wp_reg ?_
  refine st_assign hf rfl rfl (by decide) ?_
  clear hf; intro a ha hf; clear ha
  refine st_nil hf ?_
  refine th_n ?_
  refine wp_seq ?_
  refine wp_reg ?_
  refine st_move hf rfl rfl (by decide) ?_
  clear hf; intro a ha hf; clear ha
  refine st_move hf rfl rfl (by decide) ?_
  clear hf; intro a ha hf; clear ha
  refine st_fcmp (r_feq (fx := ax0) (fy := bx1) hax0 hbx1) hf (by decide) rfl rfl rfl ?_
  clear hf; intro a ha hf; clear ha
  refine st_move hf rfl rfl (by decide) ?_
  clear hf; intro a ha hf; clear ha
  refine wpList_cut 9 (fun a w => Fr 18 a [(17, .bool ((feq ax0 bx1) || ((fne ax0 ax0) && (fne bx1 bx1))))] ∧ Hp S w0 w (ow)) ?_ ?_
  · rcases Bool.eq_false_or_eq_true (feq ax0 bx1) with hb2 | hb2
    · skip
      refine st_skip hf (wantN hf rfl rfl hb2) rfl (by decide) ?_ rfl
      clear hf; intro a hf
      refine st_skip hf (wantN hf rfl rfl hb2) rfl (by decide) ?_ rfl
      clear hf; intro a hf
      refine st_skip hf (wantN hf rfl rfl hb2) rfl (by decide) ?_ rfl
      clear hf; intro a hf
      refine st_skipU hf (wantN hf rfl rfl hb2) rfl (by decide) ?_
      clear hf; intro a hf
      refine st_skip hf (wantU hf rfl rfl) rfl (by decide) ?_ rfl
      clear hf; intro a hf
      refine st_skip hf (wantU hf rfl rfl) rfl (by decide) ?_ rfl
      clear hf; intro a hf
      refine st_skip hf (wantU hf rfl rfl) rfl (by decide) ?_ rfl
      clear hf; intro a hf
      refine st_skip hf (wantN hf rfl rfl hb2) rfl (by decide) ?_ rfl
      clear hf; intro a hf
      refine st_pick (v := .bool true) hf rfl rfl (fun hb' => ?_) (fun hb' => ?_) (by decide) ?_
      · rfl
      · exact absurd (hb2.symm.trans hb') (by decide)
      clear hf; intro a ha hf; clear ha
      refine st_nil hf (th_n ?_)
      exact ⟨hf.sub ⟨(by rw [hb2]; rfl), trivial⟩, hp⟩
    refine st_move hf (wantY hf rfl rfl hb2) rfl (by decide) ?_
    clear hf; intro a ha hf; clear ha
    refine st_move hf (wantY hf rfl rfl hb2) rfl (by decide) ?_
    clear hf; intro a ha hf; clear ha
    refine st_fcmp (r_fne (fx := ax0) (fy := ax0) hax0 hax0) hf (by decide) (wantY hf rfl rfl hb2) rfl rfl ?_
    clear hf; intro a ha hf; clear ha
    refine st_move hf (wantY hf rfl rfl hb2) rfl (by decide) ?_
    clear hf; intro a ha hf; clear ha
    refine wpList_cut 4 (fun a w => Fr 18 a [(8, .bool (feq ax0 bx1)), (16, .bool ((fne ax0 ax0) && (fne bx1 bx1)))] ∧ Hp S w0 w (ow)) ?_ ?_
    · rcases Bool.eq_false_or_eq_true (fne ax0 ax0) with hb4 | hb4
      · skip
        refine st_move hf (wantY hf rfl rfl hb4) rfl (by decide) ?_
        clear hf; intro a ha hf; clear ha
        refine st_move hf (wantY hf rfl rfl hb4) rfl (by decide) ?_
        clear hf; intro a ha hf; clear ha
        refine st_fcmp (r_fne (fx := bx1) (fy := bx1) hbx1 hbx1) hf (by decide) (wantY hf rfl rfl hb4) rfl rfl ?_
        clear hf; intro a ha hf; clear ha
        refine st_pick (v := .bool (fne bx1 bx1)) hf (wantY hf rfl rfl hb2) rfl (fun hb' => ?_) (fun hb' => ?_) (by decide) ?_
        · rfl
        · exact absurd (hb4.symm.trans hb') (by decide)
        clear hf; intro a ha hf; clear ha
        refine st_nil hf (th_n ?_)
        exact ⟨hf.sub ⟨rfl, (by rw [hb4]; rfl), trivial⟩, hp⟩
      refine st_skip hf (wantN hf rfl rfl hb4) rfl (by decide) ?_ rfl
      clear hf; intro a hf
      refine st_skip hf (wantN hf rfl rfl hb4) rfl (by decide) ?_ rfl
      clear hf; intro a hf
      refine st_skip hf (wantN hf rfl rfl hb4) rfl (by decide) ?_ rfl
      clear hf; intro a hf
      refine st_pick (v := .bool false) hf (wantY hf rfl rfl hb2) rfl (fun hb' => ?_) (fun hb' => ?_) (by decide) ?_
      · exact absurd (hb4.symm.trans hb') (by decide)
      · rfl
      clear hf; intro a ha hf; clear ha
      refine st_nil hf (th_n ?_)
      exact ⟨hf.sub ⟨rfl, (by rw [hb4]; rfl), trivial⟩, hp⟩
    rintro a w ⟨hf, hp⟩
    refine st_pick (v := .bool ((fne ax0 ax0) && (fne bx1 bx1))) hf rfl rfl (fun hb' => ?_) (fun hb' => ?_) (by decide) ?_
    · exact absurd (hb2.symm.trans hb') (by decide)
    · rfl
    clear hf; intro a ha hf; clear ha
    refine st_nil hf (th_n ?_)
    exact ⟨hf.sub ⟨(by rw [hb2]; rfl), trivial⟩, hp⟩
  rintro a w ⟨hf, hp⟩
  refine st_assign hf rfl rfl (by decide) ?_
  clear hf; intro a ha hf; clear ha
  refine st_nil hf ?_
  refine th_n ?_
  refine wp_ret ?_
  obtain rfl := Option.some.inj h
  exact ⟨rfl, ⟨hf.sub ⟨rfl, trivial⟩, hp⟩⟩

noncomputable def f_plane_Apart (ax0 : (Fl × Fl)) (bx1 : (Fl × Fl)) : Option Fl := ((f_plane_Norm (csub ax0 bx1)).bind fun q5 => (some q5))
theorem f_plane_Apart_c {S : Nat → Prop} {w0 w : World} {ow : List Res} (hp : Hp S w0 w ow) (bax0 cax0 : Nat) (ax0 : Fl × Fl) (hax0 : ax0.1.rep bax0) (kax0 : ax0.2.rep cax0) (bbx1 cbx1 : Nat) (bx1 : Fl × Fl) (hbx1 : bx1.1.rep bbx1) (kbx1 : bx1.2.rep cbx1) {r : Fl} (h : f_plane_Apart ax0 bx1 = some r) :
    Calls Try.prog 22 #[.complex .f64 bax0 cax0, .complex .f64 bbx1 cbx1] w (fun e w' => ∃ (b0 : Nat), e = .returned (.float .f64 b0) ∧ Fl.rep b0 r ∧ Hp S w0 w' (ow)) := by
  unfold f_plane_Apart at h
  refine enter (n := 9) (args := [.complex .f64 bax0 cax0, .complex .f64 bbx1 cbx1]) Try.func22 rfl rfl (Nat.le_of_ble_eq_true rfl) fun a hf => ?_
  replace hf : Fr 9 a [(0, .complex .f64 bax0 cax0), (1, .complex .f64 bbx1 cbx1)] := hf
  refine wp_mono (Q := fun e a w => e = .ret ∧ ∃ (b0 : Nat), Fr 9 a [(4, .float .f64 b0)] ∧ Fl.rep b0 r ∧ Hp S w0 w (ow)) ?_ ?_
  rotate_left
  · rintro e a w ⟨rfl, x0, hf, y0, hp⟩
    exact ret1 hf rfl rfl ⟨x0, rfl, y0, hp⟩
  refine wp_seq ?_
  refine wp_reg ?_
  refine st_assign hf rfl rfl (by decide) ?_
  clear hf; intro a ha hf; clear ha
  refine st_nil hf ?_
  refine th_n ?_
  refine wp_seq ?_
  refine wp_reg ?_
  refine st_move hf rfl rfl (by decide) ?_
  clear hf; intro a ha hf; clear ha
  refine st_move hf rfl rfl (by decide) ?_
  clear hf; intro a ha hf; clear ha
  refine st_carith (op := .sub) (zx := ax0) (zy := bx1) rfl hf (by decide) hp rfl rfl rfl hax0 kax0 hbx1 kbx1 ?_
  clear hf; intro a w bb1 bb2 y3 y4 hf hp0; clear hp; have hp := hp0; clear hp0
  replace hp : Hp _ _ _ (ow) := hp
  obtain ⟨q5, hcall6, h⟩ := bnd h
  refine st_call hf (by decide) Try.func20 rfl rfl rfl rfl rfl (f_plane_Norm_c hp _ _ _ (show Fl.rep bb1 ((csub ax0 bx1)).1 from y3) (show Fl.rep bb2 ((csub ax0 bx1)).2 from y4) hcall6) ?_
  rintro _ w ⟨v7, rfl, y8, hp0⟩
  clear hp; have hp := hp0; clear hp0
  replace hp : Hp _ _ _ (ow) := hp
  refine ⟨_, rfl, ?_⟩
  clear hf; intro a hf
  refine st_assign hf rfl rfl (by decide) ?_
  clear hf; intro a ha hf; clear ha
  refine st_nil hf ?_
  refine th_n ?_
  refine wp_ret ?_
  obtain rfl := Option.some.inj h
  exact ⟨rfl, ⟨_, hf.sub ⟨rfl, trivial⟩, y8, hp⟩⟩

noncomputable def f_foghornref03_Apart (ax0 : (Fl × Fl)) (bx1 : (Fl × Fl)) : Option Fl := ((f_foghornref03_Norm ((fsub ax0.1 bx1.1), (fsub ax0.2 bx1.2))).bind fun q5 => (some q5))
theorem f_foghornref03_Apart_c {S : Nat → Prop} {w0 w : World} {ow : List Res} (hp : Hp S w0 w ow) (bax0 cax0 : Nat) (ax0 : Fl × Fl) (hax0 : ax0.1.rep bax0) (kax0 : ax0.2.rep cax0) (bbx1 cbx1 : Nat) (bx1 : Fl × Fl) (hbx1 : bx1.1.rep bbx1) (kbx1 : bx1.2.rep cbx1) {r : Fl} (h : f_foghornref03_Apart ax0 bx1 = some r) :
    Calls Try.prog 23 #[.complex .f64 bax0 cax0, .complex .f64 bbx1 cbx1] w (fun e w' => ∃ (b0 : Nat), e = .returned (.float .f64 b0) ∧ Fl.rep b0 r ∧ Hp S w0 w' (ow)) := by
  unfold f_foghornref03_Apart at h
  refine enter (n := 17) (args := [.complex .f64 bax0 cax0, .complex .f64 bbx1 cbx1]) Try.func23 rfl rfl (Nat.le_of_ble_eq_true rfl) fun a hf => ?_
  replace hf : Fr 17 a [(0, .complex .f64 bax0 cax0), (1, .complex .f64 bbx1 cbx1)] := hf
  refine wp_mono (Q := fun e a w => e = .ret ∧ ∃ (b0 : Nat), Fr 17 a [(4, .float .f64 b0)] ∧ Fl.rep b0 r ∧ Hp S w0 w (ow)) ?_ ?_
  rotate_left
  · rintro e a w ⟨rfl, x0, hf, y0, hp⟩
    exact ret1 hf rfl rfl ⟨x0, rfl, y0, hp⟩
  refine wp_seq ?_
  refine wp_reg ?_
  refine st_assign hf rfl rfl (by decide) ?_
  clear hf; intro a ha hf; clear ha
  refine st_nil hf ?_
  refine th_n ?_
  refine wp_seq ?_
  refine wp_reg ?_
  refine st_move hf rfl rfl (by decide) ?_
  clear hf; intro a ha hf; clear ha
  refine st_real hf (by decide) rfl rfl ?_
  clear hf; intro a ha hf; clear ha
  refine st_move hf rfl rfl (by decide) ?_
  clear hf; intro a ha hf; clear ha
  refine st_real hf (by decide) rfl rfl ?_
  clear hf; intro a ha hf; clear ha
  refine st_farith (op := .sub) rfl hf (by decide) hp rfl rfl rfl (show Fl.rep bax0 ax0.1 from hax0) (show Fl.rep bbx1 bx1.1 from hbx1) ?_
  clear hf; intro a w bb1 y2 hf hp0; clear hp; have hp := hp0; clear hp0
  replace hp : Hp _ _ _ (ow) := hp
  refine st_move hf rfl rfl (by decide) ?_
  clear hf; intro a ha hf; clear ha
  refine st_imag hf (by decide) rfl rfl ?_
  clear hf; intro a ha hf; clear ha
  refine st_move hf rfl rfl (by decide) ?_
  clear hf; intro a ha hf; clear ha
  refine st_imag hf (by decide) rfl rfl ?_
  clear hf; intro a ha hf; clear ha
  refine st_farith (op := .sub) rfl hf (by decide) hp rfl rfl rfl (show Fl.rep cax0 ax0.2 from kax0) (show Fl.rep cbx1 bx1.2 from kbx1) ?_
  clear hf; intro a w bb3 y4 hf hp0; clear hp; have hp := hp0; clear hp0
  replace hp : Hp _ _ _ (ow) := hp
  refine st_complex hf (by decide) rfl rfl rfl ?_
  clear hf; intro a ha hf; clear ha
  obtain ⟨q5, hcall6, h⟩ := bnd h
  refine st_call hf (by decide) Try.func21 rfl rfl rfl rfl rfl (f_foghornref03_Norm_c hp _ _ _ (show Fl.rep bb1 (((fsub ax0.1 bx1.1), (fsub ax0.2 bx1.2))).1 from y2) (show Fl.rep bb3 (((fsub ax0.1 bx1.1), (fsub ax0.2 bx1.2))).2 from y4) hcall6) ?_
  rintro _ w ⟨v7, rfl, y8, hp0⟩
  clear hp; have hp := hp0; clear hp0
  replace hp : Hp _ _ _ (ow) := hp
  refine ⟨_, rfl, ?_⟩
  clear hf; intro a hf
  refine st_assign hf rfl rfl (by decide) ?_
  clear hf; intro a ha hf; clear ha
  refine st_nil hf ?_
  refine th_n ?_
  refine wp_ret ?_
  obtain rfl := Option.some.inj h
  exact ⟨rfl, ⟨_, hf.sub ⟨rfl, trivial⟩, y8, hp⟩⟩

noncomputable def f_plane_Gauss_may (g0_Re : Int) (g0_Im : Int) : Option Bool := (some ((((decide ((-1073741824 : Int) ≤ g0_Re)) && (decide (g0_Re ≤ (1073741824 : Int)))) && (decide ((-1073741824 : Int) ≤ g0_Im))) && (decide (g0_Im ≤ (1073741824 : Int)))))
theorem f_plane_Gauss_may_c {S : Nat → Prop} {w0 w : World} {ow : List Res} (hp : Hp S w0 w ow) (g0_Re : Int) (g0_Im : Int) {r : Bool} (h : f_plane_Gauss_may g0_Re g0_Im = some r) :
    Calls Try.prog 55 #[.agg #[.int .i64 g0_Re, .int .i64 g0_Im]] w (fun e w' => e = .returned (.bool r) ∧ Hp S w0 w' (ow)) := by
  unfold f_plane_Gauss_may at h
  refine enter (n := 21) (args := [.agg #[.int .i64 g0_Re, .int .i64 g0_Im]]) Try.func55 rfl rfl (Nat.le_of_ble_eq_true rfl) fun a hf => ?_
  replace hf : Fr 21 a [(0, .agg #[.int .i64 g0_Re, .int .i64 g0_Im])] := hf
  refine wp_mono (Q := fun e a w => e = .ret ∧ Fr 21 a [(2, .bool r)] ∧ Hp S w0 w (ow)) ?_ ?_
  rotate_left
  · rintro e a w ⟨rfl, hf, hp⟩
    exact ret1 hf rfl rfl ⟨rfl, hp⟩
  refine wp_seq ?_
  refine wp_reg ?_
  refine st_boxO (cs := [.int .i64 g0_Re, .int .i64 g0_Im]) hf (by decide) hp rfl rfl rfl ?_
  clear hf; intro a w v1 hf hp0; clear hp; have hp := hp0; clear hp0
  replace hp : Hp _ _ _ (Res.obj 56 v1 [.int .i64 g0_Re, .int .i64 g0_Im] :: ow) := hp
  refine st_assign hf rfl rfl (by decide) ?_
  clear hf; intro a ha hf; clear ha
  refine st_nil hf ?_
  refine th_n ?_
  refine wp_seq ?_
  refine wp_reg ?_
  refine st_fa (o' := 0) hf (by decide) (off := 0) (sz := 1) (by kernel_rfl) (by decide) rfl rfl (hp.ob (i := 0) rfl) rfl ?_
  clear hf; intro a ha hf; clear ha
  refine st_ldO (u := .int .i64 g0_Re) hf (by decide) pl2 rfl rfl (hp.ob (i := 0) rfl) rfl ?_
  clear hf; intro a ha hf; clear ha
  refine st_igeq hf (by decide) rfl rfl rfl ?_
  clear hf; intro a ha hf; clear ha
  refine st_move hf rfl rfl (by decide) ?_
  clear hf; intro a ha hf; clear ha
  refine wpList_cut 4 (fun a w => Fr 21 a [(1, optr v1 0), (10, .bool ((decide ((-1073741824 : Int) ≤ g0_Re)) && (decide (g0_Re ≤ (1073741824 : Int)))))] ∧ Hp S w0 w (Res.obj 56 v1 [.int .i64 g0_Re, .int .i64 g0_Im] :: ow)) ?_ ?_
  · rcases Bool.eq_false_or_eq_true (decide ((-1073741824 : Int) ≤ g0_Re)) with hb4 | hb4
    · skip
      refine st_fa (o' := 0) hf (by decide) (off := 0) (sz := 1) (by kernel_rfl) (by decide) (wantY hf rfl rfl hb4) rfl (hp.ob (i := 0) rfl) rfl ?_
      clear hf; intro a ha hf; clear ha
      refine st_ldO (u := .int .i64 g0_Re) hf (by decide) pl2 (wantY hf rfl rfl hb4) rfl (hp.ob (i := 0) rfl) rfl ?_
      clear hf; intro a ha hf; clear ha
      refine st_ileq hf (by decide) (wantY hf rfl rfl hb4) rfl rfl ?_
      clear hf; intro a ha hf; clear ha
      refine st_pick (v := .bool (decide (g0_Re ≤ (1073741824 : Int)))) hf rfl rfl (fun hb' => ?_) (fun hb' => ?_) (by decide) ?_
      · rfl
      · exact absurd (hb4.symm.trans hb') (by decide)
      clear hf; intro a ha hf; clear ha
      refine st_nil hf (th_n ?_)
      exact ⟨hf.sub ⟨rfl, (by rw [hb4]; rfl), trivial⟩, hp⟩
    refine st_skip hf (wantN hf rfl rfl hb4) rfl (by decide) ?_ rfl
    clear hf; intro a hf
    refine st_skip hf (wantN hf rfl rfl hb4) rfl (by decide) ?_ rfl
    clear hf; intro a hf
    refine st_skip hf (wantN hf rfl rfl hb4) rfl (by decide) ?_ rfl
    clear hf; intro a hf
    refine st_pick (v := .bool false) hf rfl rfl (fun hb' => ?_) (fun hb' => ?_) (by decide) ?_
    · exact absurd (hb4.symm.trans hb') (by decide)
    · rfl
    clear hf; intro a ha hf; clear ha
    refine st_nil hf (th_n ?_)
    exact ⟨hf.sub ⟨rfl, (by rw [hb4]; rfl), trivial⟩, hp⟩
  rintro a w ⟨hf, hp⟩
  refine st_move hf rfl rfl (by decide) ?_
  clear hf; intro a ha hf; clear ha
  refine wpList_cut 4 (fun a w => Fr 21 a [(1, optr v1 0), (15, .bool (((decide ((-1073741824 : Int) ≤ g0_Re)) && (decide (g0_Re ≤ (1073741824 : Int)))) && (decide ((-1073741824 : Int) ≤ g0_Im))))] ∧ Hp S w0 w (Res.obj 56 v1 [.int .i64 g0_Re, .int .i64 g0_Im] :: ow)) ?_ ?_
  · rcases Bool.eq_false_or_eq_true ((decide ((-1073741824 : Int) ≤ g0_Re)) && (decide (g0_Re ≤ (1073741824 : Int)))) with hb6 | hb6
    · skip
      refine st_fa (o' := 1) hf (by decide) (off := 1) (sz := 1) (by kernel_rfl) (by decide) (wantY hf rfl rfl hb6) rfl (hp.ob (i := 0) rfl) rfl ?_
      clear hf; intro a ha hf; clear ha
      refine st_ldO (u := .int .i64 g0_Im) hf (by decide) pl2 (wantY hf rfl rfl hb6) rfl (hp.ob (i := 0) rfl) rfl ?_
      clear hf; intro a ha hf; clear ha
      refine st_igeq hf (by decide) (wantY hf rfl rfl hb6) rfl rfl ?_
      clear hf; intro a ha hf; clear ha
      refine st_pick (v := .bool (decide ((-1073741824 : Int) ≤ g0_Im))) hf rfl rfl (fun hb' => ?_) (fun hb' => ?_) (by decide) ?_
      · rfl
      · exact absurd (hb6.symm.trans hb') (by decide)
      clear hf; intro a ha hf; clear ha
      refine st_nil hf (th_n ?_)
      exact ⟨hf.sub ⟨rfl, (by rw [hb6]; rfl), trivial⟩, hp⟩
    refine st_skip hf (wantN hf rfl rfl hb6) rfl (by decide) ?_ rfl
    clear hf; intro a hf
    refine st_skip hf (wantN hf rfl rfl hb6) rfl (by decide) ?_ rfl
    clear hf; intro a hf
    refine st_skip hf (wantN hf rfl rfl hb6) rfl (by decide) ?_ rfl
    clear hf; intro a hf
    refine st_pick (v := .bool false) hf rfl rfl (fun hb' => ?_) (fun hb' => ?_) (by decide) ?_
    · exact absurd (hb6.symm.trans hb') (by decide)
    · rfl
    clear hf; intro a ha hf; clear ha
    refine st_nil hf (th_n ?_)
    exact ⟨hf.sub ⟨rfl, (by rw [hb6]; rfl), trivial⟩, hp⟩
  rintro a w ⟨hf, hp⟩
  refine st_move hf rfl rfl (by decide) ?_
  clear hf; intro a ha hf; clear ha
  refine wpList_cut 4 (fun a w => Fr 21 a [(20, .bool ((((decide ((-1073741824 : Int) ≤ g0_Re)) && (decide (g0_Re ≤ (1073741824 : Int)))) && (decide ((-1073741824 : Int) ≤ g0_Im))) && (decide (g0_Im ≤ (1073741824 : Int)))))] ∧ Hp S w0 w (Res.obj 56 v1 [.int .i64 g0_Re, .int .i64 g0_Im] :: ow)) ?_ ?_
  · rcases Bool.eq_false_or_eq_true (((decide ((-1073741824 : Int) ≤ g0_Re)) && (decide (g0_Re ≤ (1073741824 : Int)))) && (decide ((-1073741824 : Int) ≤ g0_Im))) with hb8 | hb8
    · skip
      refine st_fa (o' := 1) hf (by decide) (off := 1) (sz := 1) (by kernel_rfl) (by decide) (wantY hf rfl rfl hb8) rfl (hp.ob (i := 0) rfl) rfl ?_
      clear hf; intro a ha hf; clear ha
      refine st_ldO (u := .int .i64 g0_Im) hf (by decide) pl2 (wantY hf rfl rfl hb8) rfl (hp.ob (i := 0) rfl) rfl ?_
      clear hf; intro a ha hf; clear ha
      refine st_ileq hf (by decide) (wantY hf rfl rfl hb8) rfl rfl ?_
      clear hf; intro a ha hf; clear ha
      refine st_pick (v := .bool (decide (g0_Im ≤ (1073741824 : Int)))) hf rfl rfl (fun hb' => ?_) (fun hb' => ?_) (by decide) ?_
      · rfl
      · exact absurd (hb8.symm.trans hb') (by decide)
      clear hf; intro a ha hf; clear ha
      refine st_nil hf (th_n ?_)
      exact ⟨hf.sub ⟨(by rw [hb8]; rfl), trivial⟩, hp⟩
    refine st_skip hf (wantN hf rfl rfl hb8) rfl (by decide) ?_ rfl
    clear hf; intro a hf
    refine st_skip hf (wantN hf rfl rfl hb8) rfl (by decide) ?_ rfl
    clear hf; intro a hf
    refine st_skip hf (wantN hf rfl rfl hb8) rfl (by decide) ?_ rfl
    clear hf; intro a hf
    refine st_pick (v := .bool false) hf rfl rfl (fun hb' => ?_) (fun hb' => ?_) (by decide) ?_
    · exact absurd (hb8.symm.trans hb') (by decide)
    · rfl
    clear hf; intro a ha hf; clear ha
    refine st_nil hf (th_n ?_)
    exact ⟨hf.sub ⟨(by rw [hb8]; rfl), trivial⟩, hp⟩
  rintro a w ⟨hf, hp⟩
  refine st_assign hf rfl rfl (by decide) ?_
  clear hf; intro a ha hf; clear ha
  refine st_nil hf ?_
  refine th_n ?_
  refine wp_ret ?_
  obtain rfl := Option.some.inj h
  have hp : Hp _ _ _ (ow) := Hp.sel (pre := [Res.obj 56 v1 [.int .i64 g0_Re, .int .i64 g0_Im]]) (tail := ow) (rs' := []) hp [] (by decide) (by simp) rfl
  exact ⟨rfl, ⟨hf.sub ⟨rfl, trivial⟩, hp⟩⟩

noncomputable def f_plane_Gauss_half (g0_Re : Int) (g0_Im : Int) : Option ((Int × Int) × Int) := (some (((IntKind.i64.wrap (((IntKind.i64.wrap ((IntKind.i64.wrap (g0_Re - (iand .i64 (IntKind.i64.wrap (g0_Re + g0_Im)) (1 : Int)))) + g0_Im))).tdiv (2 : Int))), (IntKind.i64.wrap (((IntKind.i64.wrap (g0_Im - (IntKind.i64.wrap (g0_Re - (iand .i64 (IntKind.i64.wrap (g0_Re + g0_Im)) (1 : Int))))))).tdiv (2 : Int)))), (IntKind.u32.wrap (iand .i64 (IntKind.i64.wrap (g0_Re + g0_Im)) (1 : Int)))))
theorem f_plane_Gauss_half_c {S : Nat → Prop} {w0 w : World} {ow : List Res} (hp : Hp S w0 w ow) (g0_Re : Int) (g0_Im : Int) {r : ((Int × Int) × Int)} (h : f_plane_Gauss_half g0_Re g0_Im = some r) :
    Calls Try.prog 59 #[.agg #[.int .i64 g0_Re, .int .i64 g0_Im]] w (fun e w' => e = .returned (.tuple #[.agg #[.int .i64 r.1.1, .int .i64 r.1.2], .int .u32 r.2]) ∧ Hp S w0 w' (ow)) := by
  unfold f_plane_Gauss_half at h
  refine enter (n := 31) (args := [.agg #[.int .i64 g0_Re, .int .i64 g0_Im]]) Try.func59 rfl rfl (Nat.le_of_ble_eq_true rfl) fun a hf => ?_
  replace hf : Fr 31 a [(0, .agg #[.int .i64 g0_Re, .int .i64 g0_Im])] := hf
  refine wp_mono (Q := fun e a w => e = .ret ∧ ∃ (c0 : Value), Fr 31 a [(2, optr c0 0), (3, .int .u32 r.2)] ∧ Hp S w0 w (Res.obj 56 c0 [.int .i64 r.1.1, .int .i64 r.1.2] :: ow)) ?_ ?_
  rotate_left
  · rintro e a w ⟨rfl, c0, hf, hp⟩
    exact retG2 hf rfl ⟨_, _, rfl, hp.ob (i := 0) rfl, .inr ⟨by kernel_rfl, rfl⟩⟩ rfl ⟨rfl, hp.drop⟩
  refine wp_seq ?_
  refine wp_reg ?_
  refine st_boxO (cs := [.int .i64 g0_Re, .int .i64 g0_Im]) hf (by decide) hp rfl rfl rfl ?_
  clear hf; intro a w v1 hf hp0; clear hp; have hp := hp0; clear hp0
  replace hp : Hp _ _ _ (Res.obj 56 v1 [.int .i64 g0_Re, .int .i64 g0_Im] :: ow) := hp
  refine st_alloc (cs := [.int .i64 (0 : Int), .int .i64 (0 : Int)]) (zv := .agg #[.int .i64 (0 : Int), .int .i64 (0 : Int)]) hf (by decide) (by kernel_rfl) rfl hp rfl ?_
  clear hf; intro a w v3 hf hp0; clear hp; have hp := hp0; clear hp0
  replace hp : Hp _ _ _ (Res.obj 56 v3 [.int .i64 (0 : Int), .int .i64 (0 : Int)] :: Res.obj 56 v1 [.int .i64 g0_Re, .int .i64 g0_Im] :: ow) := hp
  refine st_assign hf rfl rfl (by decide) ?_
  clear hf; intro a ha hf; clear ha
  refine st_nil hf ?_
  refine th_n ?_
  refine wp_seq ?_
  refine wp_reg ?_
  refine st_fa (o' := 0) hf (by decide) (off := 0) (sz := 1) (by kernel_rfl) (by decide) rfl rfl (hp.ob (i := 1) rfl) rfl ?_
  clear hf; intro a ha hf; clear ha
  refine st_ldO (u := .int .i64 g0_Re) hf (by decide) pl2 rfl rfl (hp.ob (i := 1) rfl) rfl ?_
  clear hf; intro a ha hf; clear ha
  refine st_fa (o' := 1) hf (by decide) (off := 1) (sz := 1) (by kernel_rfl) (by decide) rfl rfl (hp.ob (i := 1) rfl) rfl ?_
  clear hf; intro a ha hf; clear ha
  refine st_ldO (u := .int .i64 g0_Im) hf (by decide) pl2 rfl rfl (hp.ob (i := 1) rfl) rfl ?_
  clear hf; intro a ha hf; clear ha
  refine st_iadd hf (by decide) rfl rfl rfl ?_
  clear hf; intro a ha hf; clear ha
  refine st_iand hf (by decide) rfl rfl rfl ?_
  clear hf; intro a ha hf; clear ha
  refine st_assign hf rfl rfl (by decide) ?_
  clear hf; intro a ha hf; clear ha
  refine st_nil hf ?_
  refine th_n ?_
  refine wp_seq ?_
  refine wp_reg ?_
  refine st_fa (o' := 0) hf (by decide) (off := 0) (sz := 1) (by kernel_rfl) (by decide) rfl rfl (hp.ob (i := 1) rfl) rfl ?_
  clear hf; intro a ha hf; clear ha
  refine st_ldO (u := .int .i64 g0_Re) hf (by decide) pl2 rfl rfl (hp.ob (i := 1) rfl) rfl ?_
  clear hf; intro a ha hf; clear ha
  refine st_move hf rfl rfl (by decide) ?_
  clear hf; intro a ha hf; clear ha
  refine st_isub hf (by decide) rfl rfl rfl ?_
  clear hf; intro a ha hf; clear ha
  refine st_fa (o' := 0) hf (by decide) (off := 0) (sz := 1) (by kernel_rfl) (by decide) rfl rfl (hp.ob (i := 1) rfl) rfl ?_
  clear hf; intro a ha hf; clear ha
  refine st_stO (us := [.int .i64 (IntKind.i64.wrap (g0_Re - (iand .i64 (IntKind.i64.wrap (g0_Re + g0_Im)) (1 : Int))))]) hf hp (i := 1) rfl rfl rfl rfl rfl (by rfl) (by kernel_rfl) (Nat.le_of_ble_eq_true rfl) ?_
  clear hf; intro a w hf hp0; clear hp; have hp := hp0; clear hp0
  replace hp : Hp _ _ _ (Res.obj 56 v3 [.int .i64 (0 : Int), .int .i64 (0 : Int)] :: Res.obj 56 v1 [.int .i64 (IntKind.i64.wrap (g0_Re - (iand .i64 (IntKind.i64.wrap (g0_Re + g0_Im)) (1 : Int)))), .int .i64 g0_Im] :: ow) := hp
  refine st_nil hf ?_
  refine th_n ?_
  refine wp_seq ?_
  refine wp_reg ?_
  refine st_fa (o' := 0) hf (by decide) (off := 0) (sz := 1) (by kernel_rfl) (by decide) rfl rfl (hp.ob (i := 1) rfl) rfl ?_
  clear hf; intro a ha hf; clear ha
  refine st_ldO (u := .int .i64 (IntKind.i64.wrap (g0_Re - (iand .i64 (IntKind.i64.wrap (g0_Re + g0_Im)) (1 : Int))))) hf (by decide) pl2 rfl rfl (hp.ob (i := 1) rfl) rfl ?_
  clear hf; intro a ha hf; clear ha
  refine st_fa (o' := 1) hf (by decide) (off := 1) (sz := 1) (by kernel_rfl) (by decide) rfl rfl (hp.ob (i := 1) rfl) rfl ?_
  clear hf; intro a ha hf; clear ha
  refine st_ldO (u := .int .i64 g0_Im) hf (by decide) pl2 rfl rfl (hp.ob (i := 1) rfl) rfl ?_
  clear hf; intro a ha hf; clear ha
  refine st_iadd hf (by decide) rfl rfl rfl ?_
  clear hf; intro a ha hf; clear ha
  refine st_iquo hf (by decide) rfl rfl rfl (by decide) ?_
  clear hf; intro a ha hf; clear ha
  refine st_fa (o' := 1) hf (by decide) (off := 1) (sz := 1) (by kernel_rfl) (by decide) rfl rfl (hp.ob (i := 1) rfl) rfl ?_
  clear hf; intro a ha hf; clear ha
  refine st_ldO (u := .int .i64 g0_Im) hf (by decide) pl2 rfl rfl (hp.ob (i := 1) rfl) rfl ?_
  clear hf; intro a ha hf; clear ha
  refine st_fa (o' := 0) hf (by decide) (off := 0) (sz := 1) (by kernel_rfl) (by decide) rfl rfl (hp.ob (i := 1) rfl) rfl ?_
  clear hf; intro a ha hf; clear ha
  refine st_ldO (u := .int .i64 (IntKind.i64.wrap (g0_Re - (iand .i64 (IntKind.i64.wrap (g0_Re + g0_Im)) (1 : Int))))) hf (by decide) pl2 rfl rfl (hp.ob (i := 1) rfl) rfl ?_
  clear hf; intro a ha hf; clear ha
  refine st_isub hf (by decide) rfl rfl rfl ?_
  clear hf; intro a ha hf; clear ha
  refine st_iquo hf (by decide) rfl rfl rfl (by decide) ?_
  clear hf; intro a ha hf; clear ha
  refine st_buildA (vals := [(0, .int .i64 (IntKind.i64.wrap (((IntKind.i64.wrap ((IntKind.i64.wrap (g0_Re - (iand .i64 (IntKind.i64.wrap (g0_Re + g0_Im)) (1 : Int)))) + g0_Im))).tdiv (2 : Int)))), (1, .int .i64 (IntKind.i64.wrap (((IntKind.i64.wrap (g0_Im - (IntKind.i64.wrap (g0_Re - (iand .i64 (IntKind.i64.wrap (g0_Re + g0_Im)) (1 : Int))))))).tdiv (2 : Int))))]) (cells := [.int .i64 (IntKind.i64.wrap (((IntKind.i64.wrap ((IntKind.i64.wrap (g0_Re - (iand .i64 (IntKind.i64.wrap (g0_Re + g0_Im)) (1 : Int)))) + g0_Im))).tdiv (2 : Int))), .int .i64 (IntKind.i64.wrap (((IntKind.i64.wrap (g0_Im - (IntKind.i64.wrap (g0_Re - (iand .i64 (IntKind.i64.wrap (g0_Re + g0_Im)) (1 : Int))))))).tdiv (2 : Int)))]) hf (by decide) rfl (by simp [hf.ev (x := (Operand.tmp 21)) rfl, hf.ev (x := (Operand.tmp 27)) rfl]) (fun w => by kernel_rfl) ?_
  clear hf; intro a ha hf; clear ha
  refine st_move hf rfl rfl (by decide) ?_
  clear hf; intro a ha hf; clear ha
  refine st_conv_ii hf (by decide) (by rw [Try.underlying2]; rfl) Try.underlying66 rfl rfl ?_
  clear hf; intro a ha hf; clear ha
  refine st_stO (us := [.int .i64 (IntKind.i64.wrap (((IntKind.i64.wrap ((IntKind.i64.wrap (g0_Re - (iand .i64 (IntKind.i64.wrap (g0_Re + g0_Im)) (1 : Int)))) + g0_Im))).tdiv (2 : Int))), .int .i64 (IntKind.i64.wrap (((IntKind.i64.wrap (g0_Im - (IntKind.i64.wrap (g0_Re - (iand .i64 (IntKind.i64.wrap (g0_Re + g0_Im)) (1 : Int))))))).tdiv (2 : Int)))]) hf hp (i := 0) rfl rfl rfl rfl rfl (by rfl) (by kernel_rfl) (Nat.le_of_ble_eq_true rfl) ?_
  clear hf; intro a w hf hp0; clear hp; have hp := hp0; clear hp0
  replace hp : Hp _ _ _ (Res.obj 56 v3 [.int .i64 (IntKind.i64.wrap (((IntKind.i64.wrap ((IntKind.i64.wrap (g0_Re - (iand .i64 (IntKind.i64.wrap (g0_Re + g0_Im)) (1 : Int)))) + g0_Im))).tdiv (2 : Int))), .int .i64 (IntKind.i64.wrap (((IntKind.i64.wrap (g0_Im - (IntKind.i64.wrap (g0_Re - (iand .i64 (IntKind.i64.wrap (g0_Re + g0_Im)) (1 : Int))))))).tdiv (2 : Int)))] :: Res.obj 56 v1 [.int .i64 (IntKind.i64.wrap (g0_Re - (iand .i64 (IntKind.i64.wrap (g0_Re + g0_Im)) (1 : Int)))), .int .i64 g0_Im] :: ow) := hp
  refine st_assign hf rfl rfl (by decide) ?_
  clear hf; intro a ha hf; clear ha
  refine st_nil hf ?_
  refine th_n ?_
  refine wp_ret ?_
  obtain rfl := Option.some.inj h
  have hp : Hp _ _ _ (Res.obj 56 v3 [.int .i64 (IntKind.i64.wrap (((IntKind.i64.wrap ((IntKind.i64.wrap (g0_Re - (iand .i64 (IntKind.i64.wrap (g0_Re + g0_Im)) (1 : Int)))) + g0_Im))).tdiv (2 : Int))), .int .i64 (IntKind.i64.wrap (((IntKind.i64.wrap (g0_Im - (IntKind.i64.wrap (g0_Re - (iand .i64 (IntKind.i64.wrap (g0_Re + g0_Im)) (1 : Int))))))).tdiv (2 : Int)))] :: ow) := Hp.sel (pre := [Res.obj 56 v3 [.int .i64 (IntKind.i64.wrap (((IntKind.i64.wrap ((IntKind.i64.wrap (g0_Re - (iand .i64 (IntKind.i64.wrap (g0_Re + g0_Im)) (1 : Int)))) + g0_Im))).tdiv (2 : Int))), .int .i64 (IntKind.i64.wrap (((IntKind.i64.wrap (g0_Im - (IntKind.i64.wrap (g0_Re - (iand .i64 (IntKind.i64.wrap (g0_Re + g0_Im)) (1 : Int))))))).tdiv (2 : Int)))], Res.obj 56 v1 [.int .i64 (IntKind.i64.wrap (g0_Re - (iand .i64 (IntKind.i64.wrap (g0_Re + g0_Im)) (1 : Int)))), .int .i64 g0_Im]]) (tail := ow) (rs' := [Res.obj 56 v3 [.int .i64 (IntKind.i64.wrap (((IntKind.i64.wrap ((IntKind.i64.wrap (g0_Re - (iand .i64 (IntKind.i64.wrap (g0_Re + g0_Im)) (1 : Int)))) + g0_Im))).tdiv (2 : Int))), .int .i64 (IntKind.i64.wrap (((IntKind.i64.wrap (g0_Im - (IntKind.i64.wrap (g0_Re - (iand .i64 (IntKind.i64.wrap (g0_Re + g0_Im)) (1 : Int))))))).tdiv (2 : Int)))]]) hp [0] (by decide) (by simp) rfl
  exact ⟨rfl, ⟨_, hf.sub ⟨rfl, rfl, trivial⟩, hp⟩⟩

noncomputable def f_plane_Gauss_Class.s1c (depth1 : Int) (g2c_0 : Int) (g2c_1 : Int) (class6 : Int) (t21 : Int) : Option ((Int × Int × Int × Int) ⊕ Int) := (if (decide (t21 < depth1)) = true then ((f_plane_Gauss_half g2c_0 g2c_1).bind fun q10 => (if 0 ≤ t21 then (some (Sum.inl (q10.1.1, q10.1.2, (ior .u32 class6 (ishl .u32 q10.2 t21)), (IntKind.i64.wrap (t21 + (1 : Int)))))) else none)) else (some (Sum.inr class6)))
noncomputable def f_plane_Gauss_Class.s1 (depth1 : Int) (s : (Int × Int × Int × Int)) : Option ((Int × Int × Int × Int) ⊕ Int) := f_plane_Gauss_Class.s1c depth1 s.1 s.2.1 s.2.2.1 s.2.2.2
noncomputable def f_plane_Gauss_Class (g0_Re : Int) (g0_Im : Int) (depth1 : Int) : Option (Int × Int) := ((f_plane_Gauss_may g0_Re g0_Im).bind fun q3 => (if (((!q3) || (decide (depth1 < (0 : Int)))) || (decide ((30 : Int) < depth1))) = true then (some ((0 : Int), (1 : Int))) else ((loop (f_plane_Gauss_Class.s1 depth1) (g0_Re, g0_Im, (0 : Int), (0 : Int))).bind (fun q13 => (some (q13, (0 : Int)))))))
theorem f_plane_Gauss_Class_c {S : Nat → Prop} {w0 w : World} {ow : List Res} (hp : Hp S w0 w ow) (g0_Re : Int) (g0_Im : Int) (depth1 : Int) {r : (Int × Int)} (h : f_plane_Gauss_Class g0_Re g0_Im depth1 = some r) :
    Calls Try.prog 36 #[.agg #[.int .i64 g0_Re, .int .i64 g0_Im], .int .i64 depth1] w (fun e w' => e = .returned (.tuple #[.int .u32 r.1, .int .i64 r.2]) ∧ Hp S w0 w' (ow)) := by
  unfold f_plane_Gauss_Class at h
  refine enter (n := 36) (args := [.agg #[.int .i64 g0_Re, .int .i64 g0_Im], .int .i64 depth1]) Try.func36 rfl rfl (Nat.le_of_ble_eq_true rfl) fun a hf => ?_
  replace hf : Fr 36 a [(0, .agg #[.int .i64 g0_Re, .int .i64 g0_Im]), (1, .int .i64 depth1)] := hf
  refine wp_mono (Q := fun e a w => e = .ret ∧ Fr 36 a [(4, .int .u32 r.1), (5, .int .i64 r.2)] ∧ Hp S w0 w (ow)) ?_ ?_
  rotate_left
  · rintro e a w ⟨rfl, hf, hp⟩
    exact ret2 hf rfl rfl rfl ⟨rfl, hp⟩
  refine wp_seq ?_
  refine wp_reg ?_
  refine st_boxO (cs := [.int .i64 g0_Re, .int .i64 g0_Im]) hf (by decide) hp rfl rfl rfl ?_
  clear hf; intro a w v1 hf hp0; clear hp; have hp := hp0; clear hp0
  replace hp : Hp _ _ _ (Res.obj 56 v1 [.int .i64 g0_Re, .int .i64 g0_Im] :: ow) := hp
  refine st_assign hf rfl rfl (by decide) ?_
  clear hf; intro a ha hf; clear ha
  refine st_assign hf rfl rfl (by decide) ?_
  clear hf; intro a ha hf; clear ha
  refine st_nil hf ?_
  refine th_n ?_
  refine wp_seq ?_
  refine wp_seq ?_
  refine wp_reg ?_
  refine st_ldOA (m := 2) (us := [.int .i64 g0_Re, .int .i64 g0_Im]) hf (by decide) (by kernel_rfl) rfl rfl (hp.ob (i := 0) rfl) rfl rfl ?_
  clear hf; intro a ha hf; clear ha
  obtain ⟨q3, hcall4, h⟩ := bnd h
  refine st_call hf (by decide) Try.func55 rfl rfl rfl rfl rfl (f_plane_Gauss_may_c hp _ _ hcall4) ?_
  rintro _ w ⟨rfl, hp0⟩
  clear hp; have hp := hp0; clear hp0
  replace hp : Hp _ _ _ (Res.obj 56 v1 [.int .i64 g0_Re, .int .i64 g0_Im] :: ow) := hp
  refine ⟨_, rfl, ?_⟩
  clear hf; intro a hf
  refine st_not hf (by decide) rfl rfl ?_
  clear hf; intro a ha hf; clear ha
  refine st_move hf rfl rfl (by decide) ?_
  clear hf; intro a ha hf; clear ha
  refine wpList_cut 3 (fun a w => Fr 36 a [(1, .int .i64 depth1), (2, optr v1 0), (15, .bool ((!q3) || (decide (depth1 < (0 : Int)))))] ∧ Hp S w0 w (Res.obj 56 v1 [.int .i64 g0_Re, .int .i64 g0_Im] :: ow)) ?_ ?_
  · rcases Bool.eq_false_or_eq_true (!q3) with hb6 | hb6
    · skip
      refine st_skip hf (wantN hf rfl rfl hb6) rfl (by decide) ?_ rfl
      clear hf; intro a hf
      refine st_skip hf (wantN hf rfl rfl hb6) rfl (by decide) ?_ rfl
      clear hf; intro a hf
      refine st_pick (v := .bool true) hf rfl rfl (fun hb' => ?_) (fun hb' => ?_) (by decide) ?_
      · rfl
      · exact absurd (hb6.symm.trans hb') (by decide)
      clear hf; intro a ha hf; clear ha
      refine st_nil hf (th_n ?_)
      exact ⟨hf.sub ⟨rfl, rfl, (by rw [hb6]; rfl), trivial⟩, hp⟩
    refine st_move hf (wantY hf rfl rfl hb6) rfl (by decide) ?_
    clear hf; intro a ha hf; clear ha
    refine st_ilss hf (by decide) (wantY hf rfl rfl hb6) rfl rfl ?_
    clear hf; intro a ha hf; clear ha
    refine st_pick (v := .bool (decide (depth1 < (0 : Int)))) hf rfl rfl (fun hb' => ?_) (fun hb' => ?_) (by decide) ?_
    · exact absurd (hb6.symm.trans hb') (by decide)
    · rfl
    clear hf; intro a ha hf; clear ha
    refine st_nil hf (th_n ?_)
    exact ⟨hf.sub ⟨rfl, rfl, (by rw [hb6]; rfl), trivial⟩, hp⟩
  rintro a w ⟨hf, hp⟩
  refine st_move hf rfl rfl (by decide) ?_
  clear hf; intro a ha hf; clear ha
  refine wpList_cut 3 (fun a w => Fr 36 a [(1, .int .i64 depth1), (2, optr v1 0), (19, .bool (((!q3) || (decide (depth1 < (0 : Int)))) || (decide ((30 : Int) < depth1))))] ∧ Hp S w0 w (Res.obj 56 v1 [.int .i64 g0_Re, .int .i64 g0_Im] :: ow)) ?_ ?_
  · rcases Bool.eq_false_or_eq_true ((!q3) || (decide (depth1 < (0 : Int)))) with hb8 | hb8
    · skip
      refine st_skip hf (wantN hf rfl rfl hb8) rfl (by decide) ?_ rfl
      clear hf; intro a hf
      refine st_skip hf (wantN hf rfl rfl hb8) rfl (by decide) ?_ rfl
      clear hf; intro a hf
      refine st_pick (v := .bool true) hf rfl rfl (fun hb' => ?_) (fun hb' => ?_) (by decide) ?_
      · rfl
      · exact absurd (hb8.symm.trans hb') (by decide)
      clear hf; intro a ha hf; clear ha
      refine st_nil hf (th_n ?_)
      exact ⟨hf.sub ⟨rfl, rfl, (by rw [hb8]; rfl), trivial⟩, hp⟩
    refine st_move hf (wantY hf rfl rfl hb8) rfl (by decide) ?_
    clear hf; intro a ha hf; clear ha
    refine st_igtr hf (by decide) (wantY hf rfl rfl hb8) rfl rfl ?_
    clear hf; intro a ha hf; clear ha
    refine st_pick (v := .bool (decide ((30 : Int) < depth1))) hf rfl rfl (fun hb' => ?_) (fun hb' => ?_) (by decide) ?_
    · exact absurd (hb8.symm.trans hb') (by decide)
    · rfl
    clear hf; intro a ha hf; clear ha
    refine st_nil hf (th_n ?_)
    exact ⟨hf.sub ⟨rfl, rfl, (by rw [hb8]; rfl), trivial⟩, hp⟩
  rintro a w ⟨hf, hp⟩
  refine st_nil hf ?_
  refine th_n ?_
  refine wp_if hf rfl (fun hb => ?_) (fun hb => ?_)
  · replace h := ifT h hb
    refine wp_seq ?_
    refine wp_reg ?_
    refine st_assign hf rfl rfl (by decide) ?_
    clear hf; intro a ha hf; clear ha
    refine st_assign hf rfl rfl (by decide) ?_
    clear hf; intro a ha hf; clear ha
    refine st_nil hf ?_
    refine th_n ?_
    refine wp_ret ?_
    refine th_r ?_
    obtain rfl := Option.some.inj h
    have hp : Hp _ _ _ (ow) := Hp.sel (pre := [Res.obj 56 v1 [.int .i64 g0_Re, .int .i64 g0_Im]]) (tail := ow) (rs' := []) hp [] (by decide) (by simp) rfl
    exact ⟨rfl, ⟨hf.sub ⟨rfl, rfl, trivial⟩, hp⟩⟩
  replace h := ifF h hb
  refine wp_skip ?_
  refine th_n ?_
  refine wp_seq ?_
  refine wp_reg ?_
  refine st_assign hf rfl rfl (by decide) ?_
  clear hf; intro a ha hf; clear ha
  refine st_nil hf ?_
  refine th_n ?_
  refine wp_seq ?_
  refine wp_seq ?_
  refine wp_reg ?_
  refine st_move hf rfl rfl (by decide) ?_
  clear hf; intro a ha hf; clear ha
  refine st_move hf rfl rfl (by decide) ?_
  clear hf; intro a ha hf; clear ha
  refine st_nil hf ?_
  refine th_n ?_
  refine wp_block ?_
  obtain ⟨q13, hl, h⟩ := bnd h
  refine wp_loop_pure (f := (f_plane_Gauss_Class.s1 depth1)) (s := (g0_Re, g0_Im, (0 : Int), (0 : Int))) (fun s a w => Fr 36 a [(2, optr v1 0), (6, .int .u32 s.2.2.1), (20, .int .i64 depth1), (21, .int .i64 s.2.2.2)] ∧ Hp S w0 w (Res.obj 56 v1 [.int .i64 s.1, .int .i64 s.2.1] :: ow)) (fun q e a w => e = .exit 0 ∧ Fr 36 a [(6, .int .u32 q)] ∧ Hp S w0 w (ow)) ?_ hl ⟨hf.sub ⟨rfl, rfl, rfl, rfl, trivial⟩, hp⟩ ?_
  · clear hl hf hp
    intro s x a w h hI
    obtain ⟨g2c_0, g2c_1, class6, t21⟩ := s
    obtain ⟨hf, hp⟩ : Fr 36 a [(2, optr v1 0), (6, .int .u32 class6), (20, .int .i64 depth1), (21, .int .i64 t21)] ∧ Hp S w0 w (Res.obj 56 v1 [.int .i64 g2c_0, .int .i64 g2c_1] :: ow) := hI
    replace h : f_plane_Gauss_Class.s1c depth1 g2c_0 g2c_1 class6 t21 = some x := h
    unfold f_plane_Gauss_Class.s1c at h
    refine wp_seq ?_
    refine wp_reg ?_
    refine st_ilss hf (by decide) rfl rfl rfl ?_
    clear hf; intro a ha hf; clear ha
    refine st_nil hf ?_
    refine th_n ?_
    refine wp_seq ?_
    refine wp_if hf rfl (fun hb => ?_) (fun hb => ?_)
    · replace h := ifT h hb
      refine wp_skip ?_
      refine th_n ?_
      refine wp_seq ?_
      refine wp_block ?_
      refine wp_seq ?_
      refine wp_reg ?_
      refine st_move hf rfl rfl (by decide) ?_
      clear hf; intro a ha hf; clear ha
      refine st_assign hf rfl rfl (by decide) ?_
      clear hf; intro a ha hf; clear ha
      refine st_nil hf ?_
      refine th_n ?_
      refine wp_seq ?_
      refine wp_reg ?_
      refine st_assign hf rfl rfl (by decide) ?_
      clear hf; intro a ha hf; clear ha
      refine st_nil hf ?_
      refine th_n ?_
      refine wp_seq ?_
      refine wp_reg ?_
      refine st_ldOA (m := 2) (us := [.int .i64 g2c_0, .int .i64 g2c_1]) hf (by decide) (by kernel_rfl) rfl rfl (hp.ob (i := 0) rfl) rfl rfl ?_
      clear hf; intro a ha hf; clear ha
      obtain ⟨q10, hcall11, h⟩ := bnd h
      refine st_call hf (by decide) Try.func59 rfl rfl rfl rfl rfl (f_plane_Gauss_half_c hp _ _ hcall11) ?_
      rintro _ w ⟨rfl, hp0⟩
      clear hp; have hp := hp0; clear hp0
      replace hp : Hp _ _ _ (Res.obj 56 v1 [.int .i64 g2c_0, .int .i64 g2c_1] :: ow) := hp
      refine ⟨_, rfl, ?_⟩
      clear hf; intro a hf
      refine st_move hf rfl rfl (by decide) ?_
      clear hf; intro a ha hf; clear ha
      refine st_extract hf (by decide) rfl rfl rfl ?_
      clear hf; intro a ha hf; clear ha
      refine st_extract hf (by decide) rfl rfl rfl ?_
      clear hf; intro a ha hf; clear ha
      refine st_stO (us := [.int .i64 q10.1.1, .int .i64 q10.1.2]) hf hp (i := 0) rfl rfl rfl rfl rfl (by rfl) (by kernel_rfl) (Nat.le_of_ble_eq_true rfl) ?_
      clear hf; intro a w hf hp0; clear hp; have hp := hp0; clear hp0
      replace hp : Hp _ _ _ (Res.obj 56 v1 [.int .i64 q10.1.1, .int .i64 q10.1.2] :: ow) := hp
      refine st_assign hf rfl rfl (by decide) ?_
      clear hf; intro a ha hf; clear ha
      refine st_nil hf ?_
      refine th_n ?_
      refine wp_reg ?_
      refine st_move hf rfl rfl (by decide) ?_
      clear hf; intro a ha hf; clear ha
      refine st_move hf rfl rfl (by decide) ?_
      clear hf; intro a ha hf; clear ha
      refine st_move hf rfl rfl (by decide) ?_
      clear hf; intro a ha hf; clear ha
      obtain ⟨hc12, h⟩ := chk h
      refine st_ishl hf (by decide) rfl rfl rfl hc12 ?_
      clear hf; intro a ha hf; clear ha
      refine st_ior hf (by decide) rfl rfl rfl ?_
      clear hf; intro a ha hf; clear ha
      refine st_assign hf rfl rfl (by decide) ?_
      clear hf; intro a ha hf; clear ha
      refine st_nil hf ?_
      refine ib_n ?_
      refine th_n ?_
      refine wp_reg ?_
      refine st_iadd hf (by decide) rfl rfl rfl ?_
      clear hf; intro a ha hf; clear ha
      refine st_move hf rfl rfl (by decide) ?_
      clear hf; intro a ha hf; clear ha
      refine st_nil hf ?_
      obtain rfl := Option.some.inj h
      exact rnd_l ⟨hf.sub ⟨rfl, rfl, rfl, rfl, trivial⟩, hp⟩
    replace h := ifF h hb
    refine wp_exit ?_
    refine th_e ?_
    obtain rfl := Option.some.inj h
    have hp : Hp _ _ _ (ow) := Hp.sel (pre := [Res.obj 56 v1 [.int .i64 g2c_0, .int .i64 g2c_1]]) (tail := ow) (rs' := []) hp [] (by decide) (by simp) rfl
    exact rnd_r (by simp) ⟨rfl, hf.sub ⟨rfl, trivial⟩, hp⟩
  clear hl hf hp
  intro e a w hne hO
  obtain ⟨rfl, hf, hp⟩ := hO
  refine ib_same ?_
  refine th_n ?_
  refine wp_seq ?_
  refine wp_reg ?_
  refine st_move hf rfl rfl (by decide) ?_
  clear hf; intro a ha hf; clear ha
  refine st_assign hf rfl rfl (by decide) ?_
  clear hf; intro a ha hf; clear ha
  refine st_assign hf rfl rfl (by decide) ?_
  clear hf; intro a ha hf; clear ha
  refine st_nil hf ?_
  refine th_n ?_
  refine wp_ret ?_
  obtain rfl := Option.some.inj h
  exact ⟨rfl, ⟨hf.sub ⟨rfl, rfl, trivial⟩, hp⟩⟩

noncomputable def f_foghornlaw03_awake  : Option Bool := ((f_plane_Gauss_Class (3 : Int) (2 : Int) (3 : Int)).bind fun q1 => ((f_plane_Mul (Fl.bits 4607182418800017408, Fl.bits 4611686018427387904) (Fl.bits 4613937818241073152, Fl.bits 13830554455654793216)).bind fun q3 => ((if (ceq q3 (Fl.bits 4617315517961601024, Fl.bits 4617315517961601024)) = true then ((f_plane_Turn (Fl.bits 4607182418800017408, Fl.bits 4611686018427387904) (1 : Int)).bind fun q12 => (some (ceq q12 (Fl.bits 13835058055282163712, Fl.bits 4607182418800017408)))) else (some false)).bind fun z11 => (some ((z11 && (q1.2 == (0 : Int))) && (q1.1 == (1 : Int)))))))
theorem f_foghornlaw03_awake_c {S : Nat → Prop} {w0 w : World} {ow : List Res} (hp : Hp S w0 w ow) {r : Bool} (h : f_foghornlaw03_awake = some r) :
    Calls Try.prog 24 #[] w (fun e w' => e = .returned (.bool r) ∧ Hp S w0 w' (ow)) := by
  unfold f_foghornlaw03_awake at h
  refine enter (n := 22) (args := []) Try.func24 rfl rfl (Nat.le_of_ble_eq_true rfl) fun a hf => ?_
  replace hf : Fr 22 a [] := hf
  refine wp_mono (Q := fun e a w => e = .ret ∧ Fr 22 a [(0, .bool r)] ∧ Hp S w0 w (ow)) ?_ ?_
  rotate_left
  · rintro e a w ⟨rfl, hf, hp⟩
    exact ret1 hf rfl rfl ⟨rfl, hp⟩
  refine wp_seq ?_
  refine wp_reg ?_
  refine st_assign hf rfl rfl (by decide) ?_
  clear hf; intro a ha hf; clear ha
  refine st_nil hf ?_
  refine th_n ?_
  refine wp_seq ?_
  refine wp_reg ?_
  refine st_buildA (vals := [(0, .int .i64 (3 : Int)), (1, .int .i64 (2 : Int))]) (cells := [.int .i64 (3 : Int), .int .i64 (2 : Int)]) hf (by decide) rfl (by simp [hf.ev (x := (Operand.const (.int .i64 (3 : Int)))) rfl, hf.ev (x := (Operand.const (.int .i64 (2 : Int)))) rfl]) (fun w => by kernel_rfl) ?_
  clear hf; intro a ha hf; clear ha
  obtain ⟨q1, hcall2, h⟩ := bnd h
  refine st_call hf (by decide) Try.func36 rfl rfl rfl rfl rfl (f_plane_Gauss_Class_c hp _ _ _ hcall2) ?_
  rintro _ w ⟨rfl, hp0⟩
  clear hp; have hp := hp0; clear hp0
  replace hp : Hp _ _ _ (ow) := hp
  refine ⟨_, rfl, ?_⟩
  clear hf; intro a hf
  refine st_move hf rfl rfl (by decide) ?_
  clear hf; intro a ha hf; clear ha
  refine st_extract hf (by decide) rfl rfl rfl ?_
  clear hf; intro a ha hf; clear ha
  refine st_extract hf (by decide) rfl rfl rfl ?_
  clear hf; intro a ha hf; clear ha
  refine st_assign hf rfl rfl (by decide) ?_
  clear hf; intro a ha hf; clear ha
  refine st_assign hf rfl rfl (by decide) ?_
  clear hf; intro a ha hf; clear ha
  refine st_nil hf ?_
  refine th_n ?_
  refine wp_seq ?_
  refine wp_reg ?_
  obtain ⟨q3, hcall4, h⟩ := bnd h
  refine st_call hf (by decide) Try.func13 rfl rfl rfl rfl rfl (f_plane_Mul_c hp _ _ _ (show Fl.rep 4607182418800017408 ((Fl.bits 4607182418800017408, Fl.bits 4611686018427387904)).1 from rfl) (show Fl.rep 4611686018427387904 ((Fl.bits 4607182418800017408, Fl.bits 4611686018427387904)).2 from rfl) _ _ _ (show Fl.rep 4613937818241073152 ((Fl.bits 4613937818241073152, Fl.bits 13830554455654793216)).1 from rfl) (show Fl.rep 13830554455654793216 ((Fl.bits 4613937818241073152, Fl.bits 13830554455654793216)).2 from rfl) hcall4) ?_
  rintro _ w ⟨v5, v6, rfl, y7, y8, hp0⟩
  clear hp; have hp := hp0; clear hp0
  replace hp : Hp _ _ _ (ow) := hp
  refine ⟨_, rfl, ?_⟩
  clear hf; intro a hf
  refine st_ccmp (r_ceq (x := q3) (y := (Fl.bits 4617315517961601024, Fl.bits 4617315517961601024)) y7 y8 rfl rfl) hf (by decide) rfl rfl rfl ?_
  clear hf; intro a ha hf; clear ha
  refine st_move hf rfl rfl (by decide) ?_
  clear hf; intro a ha hf; clear ha
  obtain ⟨z11, hz9, h⟩ := bnd h
  refine wpList_cut 3 (fun a w => Fr 22 a [(1, .int .u32 q1.1), (2, .int .i64 q1.2), (13, .bool z11)] ∧ Hp S w0 w (ow)) ?_ ?_
  · rcases Bool.eq_false_or_eq_true (ceq q3 (Fl.bits 4617315517961601024, Fl.bits 4617315517961601024)) with hb10 | hb10
    · skip
      replace hz9 := ifT hz9 hb10
      obtain ⟨q12, hcall13, hz9⟩ := bnd hz9
      refine st_call hf (by decide) Try.func15 rfl rfl (wantY hf rfl rfl hb10) rfl rfl (f_plane_Turn_c hp _ _ _ (show Fl.rep 4607182418800017408 ((Fl.bits 4607182418800017408, Fl.bits 4611686018427387904)).1 from rfl) (show Fl.rep 4611686018427387904 ((Fl.bits 4607182418800017408, Fl.bits 4611686018427387904)).2 from rfl) _ hcall13) ?_
      rintro _ w ⟨v14, v15, rfl, y16, y17, hp0⟩
      clear hp; have hp := hp0; clear hp0
      replace hp : Hp _ _ _ (ow) := hp
      refine ⟨_, rfl, ?_⟩
      clear hf; intro a hf
      refine st_ccmp (r_ceq (x := q12) (y := (Fl.bits 13835058055282163712, Fl.bits 4607182418800017408)) y16 y17 rfl rfl) hf (by decide) (wantY hf rfl rfl hb10) rfl rfl ?_
      clear hf; intro a ha hf; clear ha
      obtain rfl := Option.some.inj hz9
      refine st_pick (v := .bool (ceq q12 (Fl.bits 13835058055282163712, Fl.bits 4607182418800017408))) hf rfl rfl (fun hb' => ?_) (fun hb' => ?_) (by decide) ?_
      · rfl
      · exact absurd (hb10.symm.trans hb') (by decide)
      clear hf; intro a ha hf; clear ha
      refine st_nil hf (th_n ?_)
      exact ⟨hf.sub ⟨rfl, rfl, rfl, trivial⟩, hp⟩
    replace hz9 := ifF hz9 hb10
    refine st_skip hf (wantN hf rfl rfl hb10) rfl (by decide) ?_ rfl
    clear hf; intro a hf
    refine st_skip hf (wantN hf rfl rfl hb10) rfl (by decide) ?_ rfl
    clear hf; intro a hf
    obtain rfl := Option.some.inj hz9
    refine st_pick (v := .bool false) hf rfl rfl (fun hb' => ?_) (fun hb' => ?_) (by decide) ?_
    · exact absurd (hb10.symm.trans hb') (by decide)
    · rfl
    clear hf; intro a ha hf; clear ha
    refine st_nil hf (th_n ?_)
    exact ⟨hf.sub ⟨rfl, rfl, rfl, trivial⟩, hp⟩
  rintro a w ⟨hf, hp⟩
  refine st_move hf rfl rfl (by decide) ?_
  clear hf; intro a ha hf; clear ha
  refine wpList_cut 3 (fun a w => Fr 22 a [(1, .int .u32 q1.1), (17, .bool (z11 && (q1.2 == (0 : Int))))] ∧ Hp S w0 w (ow)) ?_ ?_
  · rcases Bool.eq_false_or_eq_true z11 with hb19 | hb19
    · skip
      refine st_move hf (wantY hf rfl rfl hb19) rfl (by decide) ?_
      clear hf; intro a ha hf; clear ha
      refine st_ieql hf (by decide) (wantY hf rfl rfl hb19) rfl rfl ?_
      clear hf; intro a ha hf; clear ha
      refine st_pick (v := .bool (q1.2 == (0 : Int))) hf rfl rfl (fun hb' => ?_) (fun hb' => ?_) (by decide) ?_
      · rfl
      · exact absurd (hb19.symm.trans hb') (by decide)
      clear hf; intro a ha hf; clear ha
      refine st_nil hf (th_n ?_)
      exact ⟨hf.sub ⟨rfl, (by rw [hb19]; rfl), trivial⟩, hp⟩
    refine st_skip hf (wantN hf rfl rfl hb19) rfl (by decide) ?_ rfl
    clear hf; intro a hf
    refine st_skip hf (wantN hf rfl rfl hb19) rfl (by decide) ?_ rfl
    clear hf; intro a hf
    refine st_pick (v := .bool false) hf rfl rfl (fun hb' => ?_) (fun hb' => ?_) (by decide) ?_
    · exact absurd (hb19.symm.trans hb') (by decide)
    · rfl
    clear hf; intro a ha hf; clear ha
    refine st_nil hf (th_n ?_)
    exact ⟨hf.sub ⟨rfl, (by rw [hb19]; rfl), trivial⟩, hp⟩
  rintro a w ⟨hf, hp⟩
  refine st_move hf rfl rfl (by decide) ?_
  clear hf; intro a ha hf; clear ha
  refine wpList_cut 3 (fun a w => Fr 22 a [(21, .bool ((z11 && (q1.2 == (0 : Int))) && (q1.1 == (1 : Int))))] ∧ Hp S w0 w (ow)) ?_ ?_
  · rcases Bool.eq_false_or_eq_true (z11 && (q1.2 == (0 : Int))) with hb21 | hb21
    · skip
      refine st_move hf (wantY hf rfl rfl hb21) rfl (by decide) ?_
      clear hf; intro a ha hf; clear ha
      refine st_ieql hf (by decide) (wantY hf rfl rfl hb21) rfl rfl ?_
      clear hf; intro a ha hf; clear ha
      refine st_pick (v := .bool (q1.1 == (1 : Int))) hf rfl rfl (fun hb' => ?_) (fun hb' => ?_) (by decide) ?_
      · rfl
      · exact absurd (hb21.symm.trans hb') (by decide)
      clear hf; intro a ha hf; clear ha
      refine st_nil hf (th_n ?_)
      exact ⟨hf.sub ⟨(by rw [hb21]; rfl), trivial⟩, hp⟩
    refine st_skip hf (wantN hf rfl rfl hb21) rfl (by decide) ?_ rfl
    clear hf; intro a hf
    refine st_skip hf (wantN hf rfl rfl hb21) rfl (by decide) ?_ rfl
    clear hf; intro a hf
    refine st_pick (v := .bool false) hf rfl rfl (fun hb' => ?_) (fun hb' => ?_) (by decide) ?_
    · exact absurd (hb21.symm.trans hb') (by decide)
    · rfl
    clear hf; intro a ha hf; clear ha
    refine st_nil hf (th_n ?_)
    exact ⟨hf.sub ⟨(by rw [hb21]; rfl), trivial⟩, hp⟩
  rintro a w ⟨hf, hp⟩
  refine st_assign hf rfl rfl (by decide) ?_
  clear hf; intro a ha hf; clear ha
  refine st_nil hf ?_
  refine th_n ?_
  refine wp_ret ?_
  obtain rfl := Option.some.inj h
  exact ⟨rfl, ⟨hf.sub ⟨rfl, trivial⟩, hp⟩⟩

noncomputable def f_foghornlaw03_PlaneParts (one0_0 : Fl) (one0_1 : Fl) (other1_0 : Fl) (other1_1 : Fl) (n2 : Int) : Option Bool := ((f_foghornlaw03_number one0_0 one0_1).bind fun q5 => ((f_foghornlaw03_number other1_0 other1_1).bind fun q11 => ((f_plane_Mul q5 q11).bind fun q17 => ((f_foghornref03_Mul q5 q11).bind fun q23 => ((f_foghornref03_Same q17 q23 false).bind fun q29 => ((if q29 = true then ((f_plane_Turn q5 n2).bind fun q34 => ((f_foghornref03_Turn q5 n2).bind fun q40 => ((f_foghornref03_Same q34 q40 true).bind fun q46 => (some q46)))) else (some false)).bind fun z33 => ((if z33 = true then ((f_plane_Conj q5).bind fun q51 => ((f_foghornref03_Conj q5).bind fun q57 => ((f_foghornref03_Same q51 q57 true).bind fun q63 => (some q63)))) else (some false)).bind fun z50 => ((if z50 = true then ((f_plane_Norm q5).bind fun q68 => ((f_foghornref03_Norm q5).bind fun q72 => ((f_foghornlaw03_floats q68 q72).bind fun q76 => (some q76)))) else (some false)).bind fun z67 => ((if z67 = true then ((f_plane_Apart q5 q11).bind fun q81 => ((f_foghornref03_Apart q5 q11).bind fun q85 => ((f_foghornlaw03_floats q81 q85).bind fun q89 => (some q89)))) else (some false)).bind fun z80 => ((if z80 = true then ((f_foghornlaw03_awake).bind fun q94 => (some q94)) else (some false)).bind fun z93 => (some z93)))))))))))
theorem f_foghornlaw03_PlaneParts_c {S : Nat → Prop} {w0 w : World} {ow : List Res} (hp : Hp S w0 w ow) (bone0_0 : Nat) (one0_0 : Fl) (hone0_0 : one0_0.rep bone0_0) (bone0_1 : Nat) (one0_1 : Fl) (hone0_1 : one0_1.rep bone0_1) (bother1_0 : Nat) (other1_0 : Fl) (hother1_0 : other1_0.rep bother1_0) (bother1_1 : Nat) (other1_1 : Fl) (hother1_1 : other1_1.rep bother1_1) (n2 : Int) {r : Bool} (h : f_foghornlaw03_PlaneParts one0_0 one0_1 other1_0 other1_1 n2 = some r) :
    Calls Try.prog 3 #[.agg #[.float .f64 bone0_0, .float .f64 bone0_1], .agg #[.float .f64 bother1_0, .float .f64 bother1_1], .int .i64 n2] w (fun e w' => e = .returned (.bool r) ∧ Hp S w0 w' (ow)) := by
  unfold f_foghornlaw03_PlaneParts at h
  refine enter (n := 55) (args := [.agg #[.float .f64 bone0_0, .float .f64 bone0_1], .agg #[.float .f64 bother1_0, .float .f64 bother1_1], .int .i64 n2]) Try.func3 rfl rfl (Nat.le_of_ble_eq_true rfl) fun a hf => ?_
  replace hf : Fr 55 a [(0, .agg #[.float .f64 bone0_0, .float .f64 bone0_1]), (1, .agg #[.float .f64 bother1_0, .float .f64 bother1_1]), (2, .int .i64 n2)] := hf
  refine wp_mono (Q := fun e a w => e = .ret ∧ Fr 55 a [(6, .bool r)] ∧ Hp S w0 w (ow)) ?_ ?_
  rotate_left
  · rintro e a w ⟨rfl, hf, hp⟩
    exact ret1 hf rfl rfl ⟨rfl, hp⟩
  refine wp_seq ?_
  refine wp_reg ?_
  refine st_boxO (cs := [.float .f64 bone0_0, .float .f64 bone0_1]) hf (by decide) hp rfl rfl rfl ?_
  clear hf; intro a w v1 hf hp0; clear hp; have hp := hp0; clear hp0
  replace hp : Hp _ _ _ (Res.obj 23 v1 [.float .f64 bone0_0, .float .f64 bone0_1] :: ow) := hp
  refine st_boxO (cs := [.float .f64 bother1_0, .float .f64 bother1_1]) hf (by decide) hp rfl rfl rfl ?_
  clear hf; intro a w v3 hf hp0; clear hp; have hp := hp0; clear hp0
  replace hp : Hp _ _ _ (Res.obj 23 v3 [.float .f64 bother1_0, .float .f64 bother1_1] :: Res.obj 23 v1 [.float .f64 bone0_0, .float .f64 bone0_1] :: ow) := hp
  refine st_assign hf rfl rfl (by decide) ?_
  clear hf; intro a ha hf; clear ha
  refine st_nil hf ?_
  refine th_n ?_
  refine wp_seq ?_
  refine wp_reg ?_
  refine st_ldOA (m := 2) (us := [.float .f64 bone0_0, .float .f64 bone0_1]) hf (by decide) (by kernel_rfl) rfl rfl (hp.ob (i := 1) rfl) rfl rfl ?_
  clear hf; intro a ha hf; clear ha
  obtain ⟨q5, hcall6, h⟩ := bnd h
  refine st_call hf (by decide) Try.func11 rfl rfl rfl rfl rfl (f_foghornlaw03_number_c hp _ _ (show Fl.rep bone0_0 one0_0 from hone0_0) _ _ (show Fl.rep bone0_1 one0_1 from hone0_1) hcall6) ?_
  rintro _ w ⟨v7, v8, rfl, y9, y10, hp0⟩
  clear hp; have hp := hp0; clear hp0
  replace hp : Hp _ _ _ (Res.obj 23 v3 [.float .f64 bother1_0, .float .f64 bother1_1] :: Res.obj 23 v1 [.float .f64 bone0_0, .float .f64 bone0_1] :: ow) := hp
  refine ⟨_, rfl, ?_⟩
  clear hf; intro a hf
  refine st_assign hf rfl rfl (by decide) ?_
  clear hf; intro a ha hf; clear ha
  refine st_nil hf ?_
  refine th_n ?_
  refine wp_seq ?_
  refine wp_reg ?_
  refine st_ldOA (m := 2) (us := [.float .f64 bother1_0, .float .f64 bother1_1]) hf (by decide) (by kernel_rfl) rfl rfl (hp.ob (i := 0) rfl) rfl rfl ?_
  clear hf; intro a ha hf; clear ha
  obtain ⟨q11, hcall12, h⟩ := bnd h
  refine st_call hf (by decide) Try.func11 rfl rfl rfl rfl rfl (f_foghornlaw03_number_c hp _ _ (show Fl.rep bother1_0 other1_0 from hother1_0) _ _ (show Fl.rep bother1_1 other1_1 from hother1_1) hcall12) ?_
  rintro _ w ⟨v13, v14, rfl, y15, y16, hp0⟩
  clear hp; have hp := hp0; clear hp0
  replace hp : Hp _ _ _ (Res.obj 23 v3 [.float .f64 bother1_0, .float .f64 bother1_1] :: Res.obj 23 v1 [.float .f64 bone0_0, .float .f64 bone0_1] :: ow) := hp
  refine ⟨_, rfl, ?_⟩
  clear hf; intro a hf
  refine st_assign hf rfl rfl (by decide) ?_
  clear hf; intro a ha hf; clear ha
  refine st_nil hf ?_
  refine th_n ?_
  refine wp_seq ?_
  refine wp_reg ?_
  refine st_move hf rfl rfl (by decide) ?_
  clear hf; intro a ha hf; clear ha
  refine st_move hf rfl rfl (by decide) ?_
  clear hf; intro a ha hf; clear ha
  obtain ⟨q17, hcall18, h⟩ := bnd h
  refine st_call hf (by decide) Try.func13 rfl rfl rfl rfl rfl (f_plane_Mul_c hp _ _ _ (show Fl.rep v7 (q5).1 from y9) (show Fl.rep v8 (q5).2 from y10) _ _ _ (show Fl.rep v13 (q11).1 from y15) (show Fl.rep v14 (q11).2 from y16) hcall18) ?_
  rintro _ w ⟨v19, v20, rfl, y21, y22, hp0⟩
  clear hp; have hp := hp0; clear hp0
  replace hp : Hp _ _ _ (Res.obj 23 v3 [.float .f64 bother1_0, .float .f64 bother1_1] :: Res.obj 23 v1 [.float .f64 bone0_0, .float .f64 bone0_1] :: ow) := hp
  refine ⟨_, rfl, ?_⟩
  clear hf; intro a hf
  refine st_move hf rfl rfl (by decide) ?_
  clear hf; intro a ha hf; clear ha
  refine st_move hf rfl rfl (by decide) ?_
  clear hf; intro a ha hf; clear ha
  obtain ⟨q23, hcall24, h⟩ := bnd h
  refine st_call hf (by decide) Try.func14 rfl rfl rfl rfl rfl (f_foghornref03_Mul_c hp _ _ _ (show Fl.rep v7 (q5).1 from y9) (show Fl.rep v8 (q5).2 from y10) _ _ _ (show Fl.rep v13 (q11).1 from y15) (show Fl.rep v14 (q11).2 from y16) hcall24) ?_
  rintro _ w ⟨v25, v26, rfl, y27, y28, hp0⟩
  clear hp; have hp := hp0; clear hp0
  replace hp : Hp _ _ _ (Res.obj 23 v3 [.float .f64 bother1_0, .float .f64 bother1_1] :: Res.obj 23 v1 [.float .f64 bone0_0, .float .f64 bone0_1] :: ow) := hp
  refine ⟨_, rfl, ?_⟩
  clear hf; intro a hf
  obtain ⟨q29, hcall30, h⟩ := bnd h
  refine st_call hf (by decide) Try.func12 rfl rfl rfl rfl rfl (f_foghornref03_Same_c hp _ _ _ (show Fl.rep v19 (q17).1 from y21) (show Fl.rep v20 (q17).2 from y22) _ _ _ (show Fl.rep v25 (q23).1 from y27) (show Fl.rep v26 (q23).2 from y28) _ hcall30) ?_
  rintro _ w ⟨rfl, hp0⟩
  clear hp; have hp := hp0; clear hp0
  replace hp : Hp _ _ _ (Res.obj 23 v3 [.float .f64 bother1_0, .float .f64 bother1_1] :: Res.obj 23 v1 [.float .f64 bone0_0, .float .f64 bone0_1] :: ow) := hp
  refine ⟨_, rfl, ?_⟩
  clear hf; intro a hf
  refine st_move hf rfl rfl (by decide) ?_
  clear hf; intro a ha hf; clear ha
  obtain ⟨z33, hz31, h⟩ := bnd h
  refine wpList_cut 8 (fun a w => Fr 55 a [(7, .complex .f64 v7 v8), (8, .complex .f64 v13 v14), (28, .bool z33)] ∧ Hp S w0 w (Res.obj 23 v3 [.float .f64 bother1_0, .float .f64 bother1_1] :: Res.obj 23 v1 [.float .f64 bone0_0, .float .f64 bone0_1] :: ow)) ?_ ?_
  · rcases Bool.eq_false_or_eq_true q29 with hb32 | hb32
    · skip
      replace hz31 := ifT hz31 hb32
      refine st_move hf (wantY hf rfl rfl hb32) rfl (by decide) ?_
      clear hf; intro a ha hf; clear ha
      refine st_move hf (wantY hf rfl rfl hb32) rfl (by decide) ?_
      clear hf; intro a ha hf; clear ha
      obtain ⟨q34, hcall35, hz31⟩ := bnd hz31
      refine st_call hf (by decide) Try.func15 rfl rfl (wantY hf rfl rfl hb32) rfl rfl (f_plane_Turn_c hp _ _ _ (show Fl.rep v7 (q5).1 from y9) (show Fl.rep v8 (q5).2 from y10) _ hcall35) ?_
      rintro _ w ⟨v36, v37, rfl, y38, y39, hp0⟩
      clear hp; have hp := hp0; clear hp0
      replace hp : Hp _ _ _ (Res.obj 23 v3 [.float .f64 bother1_0, .float .f64 bother1_1] :: Res.obj 23 v1 [.float .f64 bone0_0, .float .f64 bone0_1] :: ow) := hp
      refine ⟨_, rfl, ?_⟩
      clear hf; intro a hf
      refine st_move hf (wantY hf rfl rfl hb32) rfl (by decide) ?_
      clear hf; intro a ha hf; clear ha
      refine st_move hf (wantY hf rfl rfl hb32) rfl (by decide) ?_
      clear hf; intro a ha hf; clear ha
      obtain ⟨q40, hcall41, hz31⟩ := bnd hz31
      refine st_call hf (by decide) Try.func16 rfl rfl (wantY hf rfl rfl hb32) rfl rfl (f_foghornref03_Turn_c hp _ _ _ (show Fl.rep v7 (q5).1 from y9) (show Fl.rep v8 (q5).2 from y10) _ hcall41) ?_
      rintro _ w ⟨v42, v43, rfl, y44, y45, hp0⟩
      clear hp; have hp := hp0; clear hp0
      replace hp : Hp _ _ _ (Res.obj 23 v3 [.float .f64 bother1_0, .float .f64 bother1_1] :: Res.obj 23 v1 [.float .f64 bone0_0, .float .f64 bone0_1] :: ow) := hp
      refine ⟨_, rfl, ?_⟩
      clear hf; intro a hf
      obtain ⟨q46, hcall47, hz31⟩ := bnd hz31
      refine st_call hf (by decide) Try.func12 rfl rfl (wantY hf rfl rfl hb32) rfl rfl (f_foghornref03_Same_c hp _ _ _ (show Fl.rep v36 (q34).1 from y38) (show Fl.rep v37 (q34).2 from y39) _ _ _ (show Fl.rep v42 (q40).1 from y44) (show Fl.rep v43 (q40).2 from y45) _ hcall47) ?_
      rintro _ w ⟨rfl, hp0⟩
      clear hp; have hp := hp0; clear hp0
      replace hp : Hp _ _ _ (Res.obj 23 v3 [.float .f64 bother1_0, .float .f64 bother1_1] :: Res.obj 23 v1 [.float .f64 bone0_0, .float .f64 bone0_1] :: ow) := hp
      refine ⟨_, rfl, ?_⟩
      clear hf; intro a hf
      obtain rfl := Option.some.inj hz31
      refine st_pick (v := .bool q46) hf rfl rfl (fun hb' => ?_) (fun hb' => ?_) (by decide) ?_
      · rfl
      · exact absurd (hb32.symm.trans hb') (by decide)
      clear hf; intro a ha hf; clear ha
      refine st_nil hf (th_n ?_)
      exact ⟨hf.sub ⟨rfl, rfl, rfl, trivial⟩, hp⟩
    replace hz31 := ifF hz31 hb32
    refine st_skip hf (wantN hf rfl rfl hb32) rfl (by decide) ?_ rfl
    clear hf; intro a hf
    refine st_skip hf (wantN hf rfl rfl hb32) rfl (by decide) ?_ rfl
    clear hf; intro a hf
    refine st_skip hf (wantN hf rfl rfl hb32) rfl (by decide) ?_ rfl
    clear hf; intro a hf
    refine st_skip hf (wantN hf rfl rfl hb32) rfl (by decide) ?_ rfl
    clear hf; intro a hf
    refine st_skip hf (wantN hf rfl rfl hb32) rfl (by decide) ?_ rfl
    clear hf; intro a hf
    refine st_skip hf (wantN hf rfl rfl hb32) rfl (by decide) ?_ rfl
    clear hf; intro a hf
    refine st_skip hf (wantN hf rfl rfl hb32) rfl (by decide) ?_ rfl
    clear hf; intro a hf
    obtain rfl := Option.some.inj hz31
    refine st_pick (v := .bool false) hf rfl rfl (fun hb' => ?_) (fun hb' => ?_) (by decide) ?_
    · exact absurd (hb32.symm.trans hb') (by decide)
    · rfl
    clear hf; intro a ha hf; clear ha
    refine st_nil hf (th_n ?_)
    exact ⟨hf.sub ⟨rfl, rfl, rfl, trivial⟩, hp⟩
  rintro a w ⟨hf, hp⟩
  refine st_move hf rfl rfl (by decide) ?_
  clear hf; intro a ha hf; clear ha
  obtain ⟨z50, hz48, h⟩ := bnd h
  refine wpList_cut 6 (fun a w => Fr 55 a [(7, .complex .f64 v7 v8), (8, .complex .f64 v13 v14), (35, .bool z50)] ∧ Hp S w0 w (Res.obj 23 v3 [.float .f64 bother1_0, .float .f64 bother1_1] :: Res.obj 23 v1 [.float .f64 bone0_0, .float .f64 bone0_1] :: ow)) ?_ ?_
  · rcases Bool.eq_false_or_eq_true z33 with hb49 | hb49
    · skip
      replace hz48 := ifT hz48 hb49
      refine st_move hf (wantY hf rfl rfl hb49) rfl (by decide) ?_
      clear hf; intro a ha hf; clear ha
      obtain ⟨q51, hcall52, hz48⟩ := bnd hz48
      refine st_call hf (by decide) Try.func17 rfl rfl (wantY hf rfl rfl hb49) rfl rfl (f_plane_Conj_c hp _ _ _ (show Fl.rep v7 (q5).1 from y9) (show Fl.rep v8 (q5).2 from y10) hcall52) ?_
      rintro _ w ⟨v53, v54, rfl, y55, y56, hp0⟩
      clear hp; have hp := hp0; clear hp0
      replace hp : Hp _ _ _ (Res.obj 23 v3 [.float .f64 bother1_0, .float .f64 bother1_1] :: Res.obj 23 v1 [.float .f64 bone0_0, .float .f64 bone0_1] :: ow) := hp
      refine ⟨_, rfl, ?_⟩
      clear hf; intro a hf
      refine st_move hf (wantY hf rfl rfl hb49) rfl (by decide) ?_
      clear hf; intro a ha hf; clear ha
      obtain ⟨q57, hcall58, hz48⟩ := bnd hz48
      refine st_call hf (by decide) Try.func18 rfl rfl (wantY hf rfl rfl hb49) rfl rfl (f_foghornref03_Conj_c hp _ _ _ (show Fl.rep v7 (q5).1 from y9) (show Fl.rep v8 (q5).2 from y10) hcall58) ?_
      rintro _ w ⟨v59, v60, rfl, y61, y62, hp0⟩
      clear hp; have hp := hp0; clear hp0
      replace hp : Hp _ _ _ (Res.obj 23 v3 [.float .f64 bother1_0, .float .f64 bother1_1] :: Res.obj 23 v1 [.float .f64 bone0_0, .float .f64 bone0_1] :: ow) := hp
      refine ⟨_, rfl, ?_⟩
      clear hf; intro a hf
      obtain ⟨q63, hcall64, hz48⟩ := bnd hz48
      refine st_call hf (by decide) Try.func12 rfl rfl (wantY hf rfl rfl hb49) rfl rfl (f_foghornref03_Same_c hp _ _ _ (show Fl.rep v53 (q51).1 from y55) (show Fl.rep v54 (q51).2 from y56) _ _ _ (show Fl.rep v59 (q57).1 from y61) (show Fl.rep v60 (q57).2 from y62) _ hcall64) ?_
      rintro _ w ⟨rfl, hp0⟩
      clear hp; have hp := hp0; clear hp0
      replace hp : Hp _ _ _ (Res.obj 23 v3 [.float .f64 bother1_0, .float .f64 bother1_1] :: Res.obj 23 v1 [.float .f64 bone0_0, .float .f64 bone0_1] :: ow) := hp
      refine ⟨_, rfl, ?_⟩
      clear hf; intro a hf
      obtain rfl := Option.some.inj hz48
      refine st_pick (v := .bool q63) hf rfl rfl (fun hb' => ?_) (fun hb' => ?_) (by decide) ?_
      · rfl
      · exact absurd (hb49.symm.trans hb') (by decide)
      clear hf; intro a ha hf; clear ha
      refine st_nil hf (th_n ?_)
      exact ⟨hf.sub ⟨rfl, rfl, rfl, trivial⟩, hp⟩
    replace hz48 := ifF hz48 hb49
    refine st_skip hf (wantN hf rfl rfl hb49) rfl (by decide) ?_ rfl
    clear hf; intro a hf
    refine st_skip hf (wantN hf rfl rfl hb49) rfl (by decide) ?_ rfl
    clear hf; intro a hf
    refine st_skip hf (wantN hf rfl rfl hb49) rfl (by decide) ?_ rfl
    clear hf; intro a hf
    refine st_skip hf (wantN hf rfl rfl hb49) rfl (by decide) ?_ rfl
    clear hf; intro a hf
    refine st_skip hf (wantN hf rfl rfl hb49) rfl (by decide) ?_ rfl
    clear hf; intro a hf
    obtain rfl := Option.some.inj hz48
    refine st_pick (v := .bool false) hf rfl rfl (fun hb' => ?_) (fun hb' => ?_) (by decide) ?_
    · exact absurd (hb49.symm.trans hb') (by decide)
    · rfl
    clear hf; intro a ha hf; clear ha
    refine st_nil hf (th_n ?_)
    exact ⟨hf.sub ⟨rfl, rfl, rfl, trivial⟩, hp⟩
  rintro a w ⟨hf, hp⟩
  refine st_move hf rfl rfl (by decide) ?_
  clear hf; intro a ha hf; clear ha
  obtain ⟨z67, hz65, h⟩ := bnd h
  refine wpList_cut 6 (fun a w => Fr 55 a [(7, .complex .f64 v7 v8), (8, .complex .f64 v13 v14), (42, .bool z67)] ∧ Hp S w0 w (Res.obj 23 v3 [.float .f64 bother1_0, .float .f64 bother1_1] :: Res.obj 23 v1 [.float .f64 bone0_0, .float .f64 bone0_1] :: ow)) ?_ ?_
  · rcases Bool.eq_false_or_eq_true z50 with hb66 | hb66
    · skip
      replace hz65 := ifT hz65 hb66
      refine st_move hf (wantY hf rfl rfl hb66) rfl (by decide) ?_
      clear hf; intro a ha hf; clear ha
      obtain ⟨q68, hcall69, hz65⟩ := bnd hz65
      refine st_call hf (by decide) Try.func20 rfl rfl (wantY hf rfl rfl hb66) rfl rfl (f_plane_Norm_c hp _ _ _ (show Fl.rep v7 (q5).1 from y9) (show Fl.rep v8 (q5).2 from y10) hcall69) ?_
      rintro _ w ⟨v70, rfl, y71, hp0⟩
      clear hp; have hp := hp0; clear hp0
      replace hp : Hp _ _ _ (Res.obj 23 v3 [.float .f64 bother1_0, .float .f64 bother1_1] :: Res.obj 23 v1 [.float .f64 bone0_0, .float .f64 bone0_1] :: ow) := hp
      refine ⟨_, rfl, ?_⟩
      clear hf; intro a hf
      refine st_move hf (wantY hf rfl rfl hb66) rfl (by decide) ?_
      clear hf; intro a ha hf; clear ha
      obtain ⟨q72, hcall73, hz65⟩ := bnd hz65
      refine st_call hf (by decide) Try.func21 rfl rfl (wantY hf rfl rfl hb66) rfl rfl (f_foghornref03_Norm_c hp _ _ _ (show Fl.rep v7 (q5).1 from y9) (show Fl.rep v8 (q5).2 from y10) hcall73) ?_
      rintro _ w ⟨v74, rfl, y75, hp0⟩
      clear hp; have hp := hp0; clear hp0
      replace hp : Hp _ _ _ (Res.obj 23 v3 [.float .f64 bother1_0, .float .f64 bother1_1] :: Res.obj 23 v1 [.float .f64 bone0_0, .float .f64 bone0_1] :: ow) := hp
      refine ⟨_, rfl, ?_⟩
      clear hf; intro a hf
      obtain ⟨q76, hcall77, hz65⟩ := bnd hz65
      refine st_call hf (by decide) Try.func19 rfl rfl (wantY hf rfl rfl hb66) rfl rfl (f_foghornlaw03_floats_c hp _ _ (show Fl.rep v70 q68 from y71) _ _ (show Fl.rep v74 q72 from y75) hcall77) ?_
      rintro _ w ⟨rfl, hp0⟩
      clear hp; have hp := hp0; clear hp0
      replace hp : Hp _ _ _ (Res.obj 23 v3 [.float .f64 bother1_0, .float .f64 bother1_1] :: Res.obj 23 v1 [.float .f64 bone0_0, .float .f64 bone0_1] :: ow) := hp
      refine ⟨_, rfl, ?_⟩
      clear hf; intro a hf
      obtain rfl := Option.some.inj hz65
      refine st_pick (v := .bool q76) hf rfl rfl (fun hb' => ?_) (fun hb' => ?_) (by decide) ?_
      · rfl
      · exact absurd (hb66.symm.trans hb') (by decide)
      clear hf; intro a ha hf; clear ha
      refine st_nil hf (th_n ?_)
      exact ⟨hf.sub ⟨rfl, rfl, rfl, trivial⟩, hp⟩
    replace hz65 := ifF hz65 hb66
    refine st_skip hf (wantN hf rfl rfl hb66) rfl (by decide) ?_ rfl
    clear hf; intro a hf
    refine st_skip hf (wantN hf rfl rfl hb66) rfl (by decide) ?_ rfl
    clear hf; intro a hf
    refine st_skip hf (wantN hf rfl rfl hb66) rfl (by decide) ?_ rfl
    clear hf; intro a hf
    refine st_skip hf (wantN hf rfl rfl hb66) rfl (by decide) ?_ rfl
    clear hf; intro a hf
    refine st_skip hf (wantN hf rfl rfl hb66) rfl (by decide) ?_ rfl
    clear hf; intro a hf
    obtain rfl := Option.some.inj hz65
    refine st_pick (v := .bool false) hf rfl rfl (fun hb' => ?_) (fun hb' => ?_) (by decide) ?_
    · exact absurd (hb66.symm.trans hb') (by decide)
    · rfl
    clear hf; intro a ha hf; clear ha
    refine st_nil hf (th_n ?_)
    exact ⟨hf.sub ⟨rfl, rfl, rfl, trivial⟩, hp⟩
  rintro a w ⟨hf, hp⟩
  refine st_move hf rfl rfl (by decide) ?_
  clear hf; intro a ha hf; clear ha
  obtain ⟨z80, hz78, h⟩ := bnd h
  refine wpList_cut 8 (fun a w => Fr 55 a [(51, .bool z80)] ∧ Hp S w0 w (Res.obj 23 v3 [.float .f64 bother1_0, .float .f64 bother1_1] :: Res.obj 23 v1 [.float .f64 bone0_0, .float .f64 bone0_1] :: ow)) ?_ ?_
  · rcases Bool.eq_false_or_eq_true z67 with hb79 | hb79
    · skip
      replace hz78 := ifT hz78 hb79
      refine st_move hf (wantY hf rfl rfl hb79) rfl (by decide) ?_
      clear hf; intro a ha hf; clear ha
      refine st_move hf (wantY hf rfl rfl hb79) rfl (by decide) ?_
      clear hf; intro a ha hf; clear ha
      obtain ⟨q81, hcall82, hz78⟩ := bnd hz78
      refine st_call hf (by decide) Try.func22 rfl rfl (wantY hf rfl rfl hb79) rfl rfl (f_plane_Apart_c hp _ _ _ (show Fl.rep v7 (q5).1 from y9) (show Fl.rep v8 (q5).2 from y10) _ _ _ (show Fl.rep v13 (q11).1 from y15) (show Fl.rep v14 (q11).2 from y16) hcall82) ?_
      rintro _ w ⟨v83, rfl, y84, hp0⟩
      clear hp; have hp := hp0; clear hp0
      replace hp : Hp _ _ _ (Res.obj 23 v3 [.float .f64 bother1_0, .float .f64 bother1_1] :: Res.obj 23 v1 [.float .f64 bone0_0, .float .f64 bone0_1] :: ow) := hp
      refine ⟨_, rfl, ?_⟩
      clear hf; intro a hf
      refine st_move hf (wantY hf rfl rfl hb79) rfl (by decide) ?_
      clear hf; intro a ha hf; clear ha
      refine st_move hf (wantY hf rfl rfl hb79) rfl (by decide) ?_
      clear hf; intro a ha hf; clear ha
      obtain ⟨q85, hcall86, hz78⟩ := bnd hz78
      refine st_call hf (by decide) Try.func23 rfl rfl (wantY hf rfl rfl hb79) rfl rfl (f_foghornref03_Apart_c hp _ _ _ (show Fl.rep v7 (q5).1 from y9) (show Fl.rep v8 (q5).2 from y10) _ _ _ (show Fl.rep v13 (q11).1 from y15) (show Fl.rep v14 (q11).2 from y16) hcall86) ?_
      rintro _ w ⟨v87, rfl, y88, hp0⟩
      clear hp; have hp := hp0; clear hp0
      replace hp : Hp _ _ _ (Res.obj 23 v3 [.float .f64 bother1_0, .float .f64 bother1_1] :: Res.obj 23 v1 [.float .f64 bone0_0, .float .f64 bone0_1] :: ow) := hp
      refine ⟨_, rfl, ?_⟩
      clear hf; intro a hf
      obtain ⟨q89, hcall90, hz78⟩ := bnd hz78
      refine st_call hf (by decide) Try.func19 rfl rfl (wantY hf rfl rfl hb79) rfl rfl (f_foghornlaw03_floats_c hp _ _ (show Fl.rep v83 q81 from y84) _ _ (show Fl.rep v87 q85 from y88) hcall90) ?_
      rintro _ w ⟨rfl, hp0⟩
      clear hp; have hp := hp0; clear hp0
      replace hp : Hp _ _ _ (Res.obj 23 v3 [.float .f64 bother1_0, .float .f64 bother1_1] :: Res.obj 23 v1 [.float .f64 bone0_0, .float .f64 bone0_1] :: ow) := hp
      refine ⟨_, rfl, ?_⟩
      clear hf; intro a hf
      obtain rfl := Option.some.inj hz78
      refine st_pick (v := .bool q89) hf rfl rfl (fun hb' => ?_) (fun hb' => ?_) (by decide) ?_
      · rfl
      · exact absurd (hb79.symm.trans hb') (by decide)
      clear hf; intro a ha hf; clear ha
      refine st_nil hf (th_n ?_)
      exact ⟨hf.sub ⟨rfl, trivial⟩, hp⟩
    replace hz78 := ifF hz78 hb79
    refine st_skip hf (wantN hf rfl rfl hb79) rfl (by decide) ?_ rfl
    clear hf; intro a hf
    refine st_skip hf (wantN hf rfl rfl hb79) rfl (by decide) ?_ rfl
    clear hf; intro a hf
    refine st_skip hf (wantN hf rfl rfl hb79) rfl (by decide) ?_ rfl
    clear hf; intro a hf
    refine st_skip hf (wantN hf rfl rfl hb79) rfl (by decide) ?_ rfl
    clear hf; intro a hf
    refine st_skip hf (wantN hf rfl rfl hb79) rfl (by decide) ?_ rfl
    clear hf; intro a hf
    refine st_skip hf (wantN hf rfl rfl hb79) rfl (by decide) ?_ rfl
    clear hf; intro a hf
    refine st_skip hf (wantN hf rfl rfl hb79) rfl (by decide) ?_ rfl
    clear hf; intro a hf
    obtain rfl := Option.some.inj hz78
    refine st_pick (v := .bool false) hf rfl rfl (fun hb' => ?_) (fun hb' => ?_) (by decide) ?_
    · exact absurd (hb79.symm.trans hb') (by decide)
    · rfl
    clear hf; intro a ha hf; clear ha
    refine st_nil hf (th_n ?_)
    exact ⟨hf.sub ⟨rfl, trivial⟩, hp⟩
  rintro a w ⟨hf, hp⟩
  refine st_move hf rfl rfl (by decide) ?_
  clear hf; intro a ha hf; clear ha
  obtain ⟨z93, hz91, h⟩ := bnd h
  refine wpList_cut 2 (fun a w => Fr 55 a [(54, .bool z93)] ∧ Hp S w0 w (Res.obj 23 v3 [.float .f64 bother1_0, .float .f64 bother1_1] :: Res.obj 23 v1 [.float .f64 bone0_0, .float .f64 bone0_1] :: ow)) ?_ ?_
  · rcases Bool.eq_false_or_eq_true z80 with hb92 | hb92
    · skip
      replace hz91 := ifT hz91 hb92
      obtain ⟨q94, hcall95, hz91⟩ := bnd hz91
      refine st_call hf (by decide) Try.func24 rfl rfl (wantY hf rfl rfl hb92) rfl rfl (f_foghornlaw03_awake_c hp  hcall95) ?_
      rintro _ w ⟨rfl, hp0⟩
      clear hp; have hp := hp0; clear hp0
      replace hp : Hp _ _ _ (Res.obj 23 v3 [.float .f64 bother1_0, .float .f64 bother1_1] :: Res.obj 23 v1 [.float .f64 bone0_0, .float .f64 bone0_1] :: ow) := hp
      refine ⟨_, rfl, ?_⟩
      clear hf; intro a hf
      obtain rfl := Option.some.inj hz91
      refine st_pick (v := .bool q94) hf rfl rfl (fun hb' => ?_) (fun hb' => ?_) (by decide) ?_
      · rfl
      · exact absurd (hb92.symm.trans hb') (by decide)
      clear hf; intro a ha hf; clear ha
      refine st_nil hf (th_n ?_)
      exact ⟨hf.sub ⟨rfl, trivial⟩, hp⟩
    replace hz91 := ifF hz91 hb92
    refine st_skip hf (wantN hf rfl rfl hb92) rfl (by decide) ?_ rfl
    clear hf; intro a hf
    obtain rfl := Option.some.inj hz91
    refine st_pick (v := .bool false) hf rfl rfl (fun hb' => ?_) (fun hb' => ?_) (by decide) ?_
    · exact absurd (hb92.symm.trans hb') (by decide)
    · rfl
    clear hf; intro a ha hf; clear ha
    refine st_nil hf (th_n ?_)
    exact ⟨hf.sub ⟨rfl, trivial⟩, hp⟩
  rintro a w ⟨hf, hp⟩
  refine st_assign hf rfl rfl (by decide) ?_
  clear hf; intro a ha hf; clear ha
  refine st_nil hf ?_
  refine th_n ?_
  refine wp_ret ?_
  obtain rfl := Option.some.inj h
  have hp : Hp _ _ _ (ow) := Hp.sel (pre := [Res.obj 23 v3 [.float .f64 bother1_0, .float .f64 bother1_1], Res.obj 23 v1 [.float .f64 bone0_0, .float .f64 bone0_1]]) (tail := ow) (rs' := []) hp [] (by decide) (by simp) rfl
  exact ⟨rfl, ⟨hf.sub ⟨rfl, trivial⟩, hp⟩⟩

end Go.Proofs.Yteifkccomfdciaa
