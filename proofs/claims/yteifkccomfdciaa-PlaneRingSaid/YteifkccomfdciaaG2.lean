/- The functions foghorn foghornlaw03.PlaneRing: what each answers, as a plain function, and that its call answers it; printed by gen.py. -/
import Derived.Test.YteifkccomfdciaaProg
import Derived.Test.YteifkccomfdciaaGlY
import Derived.KernelRfl
set_option linter.unusedVariables false
set_option linter.unusedSimpArgs false
set_option maxRecDepth 100000
set_option maxHeartbeats 4000000
namespace Go.Proofs.Yteifkccomfdciaa
open GL
theorem elt24 : ElT Try.prog Ek.c128 24 16 (Fl.bits 0, Fl.bits 0) := ElT.of (z := .complex .f64 0 0) (by kernel_rfl) ⟨_, _, rfl, rfl, rfl⟩
theorem pl2 : Plain Try.prog 2 := ⟨⟨_, Try.underlying2, trivial⟩⟩
theorem pl3 : Plain Try.prog 3 := ⟨⟨_, Try.underlying3, trivial⟩⟩
theorem pl24 : Plain Try.prog 24 := ⟨⟨_, Try.underlying24, trivial⟩⟩
theorem pl35 : Plain Try.prog 35 := ⟨⟨_, Try.underlying35, trivial⟩⟩
noncomputable def f_foghornlaw03_small (re0 : Int) (im1 : Int) : Option (Fl × Fl) := (some ((fofi ((re0).tmod (1025 : Int))), (fofi ((im1).tmod (1025 : Int)))))
theorem f_foghornlaw03_small_c {S : Nat → Prop} {w0 w : World} {ow : List Res} (hp : Hp S w0 w ow) (re0 : Int) (im1 : Int) {r : (Fl × Fl)} (h : f_foghornlaw03_small re0 im1 = some r) :
    Calls Try.prog 25 #[.int .i16 re0, .int .i16 im1] w (fun e w' => ∃ (b0 : Nat) (b1 : Nat), e = .returned (.complex .f64 b0 b1) ∧ Fl.rep b0 r.1 ∧ Fl.rep b1 r.2 ∧ Hp S w0 w' (ow)) := by
  unfold f_foghornlaw03_small at h
  refine enter (n := 12) (args := [.int .i16 re0, .int .i16 im1]) Try.func25 rfl rfl (Nat.le_of_ble_eq_true rfl) fun a hf => ?_
  replace hf : Fr 12 a [(0, .int .i16 re0), (1, .int .i16 im1)] := hf
  refine wp_mono (Q := fun e a w => e = .ret ∧ ∃ (b0 : Nat) (b1 : Nat), Fr 12 a [(4, .complex .f64 b0 b1)] ∧ Fl.rep b0 r.1 ∧ Fl.rep b1 r.2 ∧ Hp S w0 w (ow)) ?_ ?_
  rotate_left
  · rintro e a w ⟨rfl, x0, x1, hf, y0, y1, hp⟩
    exact ret1 hf rfl rfl ⟨x0, x1, rfl, y0, y1, hp⟩
  refine wp_seq ?_
  refine wp_reg ?_
  refine st_assign hf rfl rfl (by decide) ?_
  clear hf; intro a ha hf; clear ha
  refine st_nil hf ?_
  refine th_n ?_
  refine wp_seq ?_
  refine wp_reg ?_
  refine st_move hf rfl rfl (by decide) ?_
  clear hf; intro a ha hf; clear ha
  refine st_irem hf (by decide) rfl rfl rfl (by decide) ?_
  clear hf; intro a ha hf; clear ha
  refine st_conv_if Try.underlying35 Try.underlying22 hf (by decide) rfl rfl ?_
  clear hf; intro a ha hf; clear ha
  refine st_move hf rfl rfl (by decide) ?_
  clear hf; intro a ha hf; clear ha
  refine st_irem hf (by decide) rfl rfl rfl (by decide) ?_
  clear hf; intro a ha hf; clear ha
  refine st_conv_if Try.underlying35 Try.underlying22 hf (by decide) rfl rfl ?_
  clear hf; intro a ha hf; clear ha
  refine st_complex hf (by decide) rfl rfl rfl ?_
  clear hf; intro a ha hf; clear ha
  refine st_assign hf rfl rfl (by decide) ?_
  clear hf; intro a ha hf; clear ha
  refine st_nil hf ?_
  refine th_n ?_
  refine wp_ret ?_
  obtain rfl := Option.some.inj h
  exact ⟨rfl, ⟨_, _, hf.sub ⟨rfl, trivial⟩, rfl, rfl, hp⟩⟩

noncomputable def f_plane_Mul (ax0 : (Fl × Fl)) (bx1 : (Fl × Fl)) : Option (Fl × Fl) := (some ((fsub (fmul ax0.1 bx1.1) (fmul ax0.2 bx1.2)), (fadd (fmul ax0.1 bx1.2) (fmul ax0.2 bx1.1))))
theorem f_plane_Mul_c {S : Nat → Prop} {w0 w : World} {ow : List Res} (hp : Hp S w0 w ow) (bax0 cax0 : Nat) (ax0 : Fl × Fl) (hax0 : ax0.1.rep bax0) (kax0 : ax0.2.rep cax0) (bbx1 cbx1 : Nat) (bx1 : Fl × Fl) (hbx1 : bx1.1.rep bbx1) (kbx1 : bx1.2.rep cbx1) {r : (Fl × Fl)} (h : f_plane_Mul ax0 bx1 = some r) :
    Calls Try.prog 13 #[.complex .f64 bax0 cax0, .complex .f64 bbx1 cbx1] w (fun e w' => ∃ (b0 : Nat) (b1 : Nat), e = .returned (.complex .f64 b0 b1) ∧ Fl.rep b0 r.1 ∧ Fl.rep b1 r.2 ∧ Hp S w0 w' (ow)) := by
  unfold f_plane_Mul at h
  refine enter (n := 32) (args := [.complex .f64 bax0 cax0, .complex .f64 bbx1 cbx1]) Try.func13 rfl rfl (Nat.le_of_ble_eq_true rfl) fun a hf => ?_
  replace hf : Fr 32 a [(0, .complex .f64 bax0 cax0), (1, .complex .f64 bbx1 cbx1)] := hf
  refine wp_mono (Q := fun e a w => e = .ret ∧ ∃ (b0 : Nat) (b1 : Nat), Fr 32 a [(4, .complex .f64 b0 b1)] ∧ Fl.rep b0 r.1 ∧ Fl.rep b1 r.2 ∧ Hp S w0 w (ow)) ?_ ?_
  rotate_left
  · rintro e a w ⟨rfl, x0, x1, hf, y0, y1, hp⟩
    exact ret1 hf rfl rfl ⟨x0, x1, rfl, y0, y1, hp⟩
  refine wp_seq ?_
  refine wp_reg ?_
  refine st_assign hf rfl rfl (by decide) ?_
  clear hf; intro a ha hf; clear ha
  refine st_nil hf ?_
  refine th_n ?_
  refine wp_seq ?_
  refine wp_reg ?_
  refine st_move hf rfl rfl (by decide) ?_
  clear hf; intro a ha hf; clear ha
  refine st_real hf (by decide) rfl rfl ?_
  clear hf; intro a ha hf; clear ha
  refine st_move hf rfl rfl (by decide) ?_
  clear hf; intro a ha hf; clear ha
  refine st_real hf (by decide) rfl rfl ?_
  clear hf; intro a ha hf; clear ha
  refine st_farith (op := .mul) rfl hf (by decide) hp rfl rfl rfl (show Fl.rep bax0 ax0.1 from hax0) (show Fl.rep bbx1 bx1.1 from hbx1) ?_
  clear hf; intro a w bb1 y2 hf hp0; clear hp; have hp := hp0; clear hp0
  replace hp : Hp _ _ _ (ow) := hp
  refine st_move hf rfl rfl (by decide) ?_
  clear hf; intro a ha hf; clear ha
  refine st_imag hf (by decide) rfl rfl ?_
  clear hf; intro a ha hf; clear ha
  refine st_move hf rfl rfl (by decide) ?_
  clear hf; intro a ha hf; clear ha
  refine st_imag hf (by decide) rfl rfl ?_
  clear hf; intro a ha hf; clear ha
  refine st_farith (op := .mul) rfl hf (by decide) hp rfl rfl rfl (show Fl.rep cax0 ax0.2 from kax0) (show Fl.rep cbx1 bx1.2 from kbx1) ?_
  clear hf; intro a w bb3 y4 hf hp0; clear hp; have hp := hp0; clear hp0
  replace hp : Hp _ _ _ (ow) := hp
  refine st_farith (op := .sub) rfl hf (by decide) hp rfl rfl rfl (show Fl.rep bb1 (fmul ax0.1 bx1.1) from y2) (show Fl.rep bb3 (fmul ax0.2 bx1.2) from y4) ?_
  clear hf; intro a w bb5 y6 hf hp0; clear hp; have hp := hp0; clear hp0
  replace hp : Hp _ _ _ (ow) := hp
  refine st_assign hf rfl rfl (by decide) ?_
  clear hf; intro a ha hf; clear ha
  refine st_nil hf ?_
  refine th_n ?_
  refine wp_seq ?_
  refine wp_reg ?_
  refine st_move hf rfl rfl (by decide) ?_
  clear hf; intro a ha hf; clear ha
  refine st_real hf (by decide) rfl rfl ?_
  clear hf; intro a ha hf; clear ha
  refine st_move hf rfl rfl (by decide) ?_
  clear hf; intro a ha hf; clear ha
  refine st_imag hf (by decide) rfl rfl ?_
  clear hf; intro a ha hf; clear ha
  refine st_farith (op := .mul) rfl hf (by decide) hp rfl rfl rfl (show Fl.rep bax0 ax0.1 from hax0) (show Fl.rep cbx1 bx1.2 from kbx1) ?_
  clear hf; intro a w bb7 y8 hf hp0; clear hp; have hp := hp0; clear hp0
  replace hp : Hp _ _ _ (ow) := hp
  refine st_move hf rfl rfl (by decide) ?_
  clear hf; intro a ha hf; clear ha
  refine st_imag hf (by decide) rfl rfl ?_
  clear hf; intro a ha hf; clear ha
  refine st_move hf rfl rfl (by decide) ?_
  clear hf; intro a ha hf; clear ha
  refine st_real hf (by decide) rfl rfl ?_
  clear hf; intro a ha hf; clear ha
  refine st_farith (op := .mul) rfl hf (by decide) hp rfl rfl rfl (show Fl.rep cax0 ax0.2 from kax0) (show Fl.rep bbx1 bx1.1 from hbx1) ?_
  clear hf; intro a w bb9 y10 hf hp0; clear hp; have hp := hp0; clear hp0
  replace hp : Hp _ _ _ (ow) := hp
  refine st_farith (op := .add) rfl hf (by decide) hp rfl rfl rfl (show Fl.rep bb7 (fmul ax0.1 bx1.2) from y8) (show Fl.rep bb9 (fmul ax0.2 bx1.1) from y10) ?_
  clear hf; intro a w bb11 y12 hf hp0; clear hp; have hp := hp0; clear hp0
  replace hp : Hp _ _ _ (ow) := hp
  refine st_assign hf rfl rfl (by decide) ?_
  clear hf; intro a ha hf; clear ha
  refine st_nil hf ?_
  refine th_n ?_
  refine wp_seq ?_
  refine wp_reg ?_
  refine st_move hf rfl rfl (by decide) ?_
  clear hf; intro a ha hf; clear ha
  refine st_move hf rfl rfl (by decide) ?_
  clear hf; intro a ha hf; clear ha
  refine st_complex hf (by decide) rfl rfl rfl ?_
  clear hf; intro a ha hf; clear ha
  refine st_assign hf rfl rfl (by decide) ?_
  clear hf; intro a ha hf; clear ha
  refine st_nil hf ?_
  refine th_n ?_
  refine wp_ret ?_
  obtain rfl := Option.some.inj h
  exact ⟨rfl, ⟨_, _, hf.sub ⟨rfl, trivial⟩, y6, y12, hp⟩⟩

noncomputable def f_plane_Sum.s1c (l0 : (List (Fl × Fl))) (sx3 : (Fl × Fl)) (t8 : Int) : Option (((Fl × Fl) × Int) ⊕ (Fl × Fl)) := (if (decide (t8 < (l0.length : Int))) = true then (if 0 ≤ t8 ∧ t8 < (l0.length : Int) then (some (Sum.inl ((cadd sx3 (gt l0 t8)), (IntKind.i64.wrap (t8 + (1 : Int)))))) else none) else (some (Sum.inr sx3)))
noncomputable def f_plane_Sum.s1 (l0 : (List (Fl × Fl))) (s : ((Fl × Fl) × Int)) : Option (((Fl × Fl) × Int) ⊕ (Fl × Fl)) := f_plane_Sum.s1c l0 s.1 s.2
noncomputable def f_plane_Sum (l0 : (List (Fl × Fl))) : Option (Fl × Fl) := ((loop (f_plane_Sum.s1 l0) ((Fl.bits 0, Fl.bits 0), (0 : Int))).bind (fun q18 => (some q18)))
theorem f_plane_Sum_c {S : Nat → Prop} {w0 w : World} {ow : List Res} (hp : Hp S w0 w ow) (vl0 : Value) (l0 : (List (Fl × Fl))) (hl0 : RdS Ek.c128 S w0 vl0 l0) {r : (Fl × Fl)} (h : f_plane_Sum l0 = some r) :
    Calls Try.prog 26 #[vl0] w (fun e w' => ∃ (b0 : Nat) (b1 : Nat), e = .returned (.complex .f64 b0 b1) ∧ Fl.rep b0 r.1 ∧ Fl.rep b1 r.2 ∧ Hp S w0 w' (ow)) := by
  unfold f_plane_Sum at h
  refine enter (n := 17) (args := [vl0]) Try.func26 rfl rfl (Nat.le_of_ble_eq_true rfl) fun a hf => ?_
  replace hf : Fr 17 a [(0, vl0)] := hf
  refine wp_mono (Q := fun e a w => e = .ret ∧ ∃ (b0 : Nat) (b1 : Nat), Fr 17 a [(2, .complex .f64 b0 b1)] ∧ Fl.rep b0 r.1 ∧ Fl.rep b1 r.2 ∧ Hp S w0 w (ow)) ?_ ?_
  rotate_left
  · rintro e a w ⟨rfl, x0, x1, hf, y0, y1, hp⟩
    exact ret1 hf rfl rfl ⟨x0, x1, rfl, y0, y1, hp⟩
  refine wp_seq ?_
  refine wp_reg ?_
  refine st_assign hf rfl rfl (by decide) ?_
  clear hf; intro a ha hf; clear ha
  refine st_nil hf ?_
  refine th_n ?_
  refine wp_seq ?_
  refine wp_reg ?_
  refine st_assign hf rfl rfl (by decide) ?_
  clear hf; intro a ha hf; clear ha
  refine st_nil hf ?_
  refine th_n ?_
  refine wp_seq ?_
  refine wp_seq ?_
  refine wp_reg ?_
  refine st_move hf rfl rfl (by decide) ?_
  clear hf; intro a ha hf; clear ha
  refine st_len (E := Ek.c128) hf (by decide) Try.underlying41 rfl rfl (hl0.sl hp) ?_
  clear hf; intro a ha hf; clear ha
  refine st_move hf rfl rfl (by decide) ?_
  clear hf; intro a ha hf; clear ha
  refine st_nil hf ?_
  refine th_n ?_
  refine wp_block ?_
  obtain ⟨q18, hl, h⟩ := bnd h
  refine wp_loop_pure (f := (f_plane_Sum.s1 l0)) (s := ((Fl.bits 0, Fl.bits 0), (0 : Int))) (fun s a w => ∃ (bb1 : Nat) (bb2 : Nat), Fr 17 a [(3, .complex .f64 bb1 bb2), (6, vl0), (7, .int .i64 (l0.length : Int)), (8, .int .i64 s.2)] ∧ Fl.rep bb1 s.1.1 ∧ Fl.rep bb2 s.1.2 ∧ Hp S w0 w (ow)) (fun q e a w => e = .exit 0 ∧ ∃ (bb5 : Nat) (bb6 : Nat), Fr 17 a [(3, .complex .f64 bb5 bb6)] ∧ Fl.rep bb5 q.1 ∧ Fl.rep bb6 q.2 ∧ Hp S w0 w (ow)) ?_ hl ⟨_, _, hf.sub ⟨rfl, rfl, rfl, rfl, trivial⟩, rfl, rfl, hp⟩ ?_
  · clear hl hf hp
    intro s x a w h hI
    obtain ⟨sx3, t8⟩ := s
    obtain ⟨bb1, bb2, hf, y3, y4, hp⟩ : ∃ (bb1 : Nat) (bb2 : Nat), Fr 17 a [(3, .complex .f64 bb1 bb2), (6, vl0), (7, .int .i64 (l0.length : Int)), (8, .int .i64 t8)] ∧ Fl.rep bb1 sx3.1 ∧ Fl.rep bb2 sx3.2 ∧ Hp S w0 w (ow) := hI
    replace h : f_plane_Sum.s1c l0 sx3 t8 = some x := h
    unfold f_plane_Sum.s1c at h
    refine wp_seq ?_
    refine wp_reg ?_
    refine st_ilss hf (by decide) rfl rfl rfl ?_
    clear hf; intro a ha hf; clear ha
    refine st_nil hf ?_
    refine th_n ?_
    refine wp_seq ?_
    refine wp_if hf rfl (fun hb => ?_) (fun hb => ?_)
    · replace h := ifT h hb
      refine wp_skip ?_
      refine th_n ?_
      refine wp_seq ?_
      refine wp_block ?_
      refine wp_seq ?_
      refine wp_reg ?_
      obtain ⟨hc9, h⟩ := chk h
      refine st_index (E := Ek.c128) hf (by decide) Try.underlying41 elt24 rfl rfl rfl (hl0.sl hp) hc9.1 hc9.2 ?_
      clear hf; intro a ha hf; clear ha
      refine st_ldC hf (by decide) pl24 rfl rfl (hl0.sl hp) hc9.1 hc9.2 ?_
      clear hf; intro a bb10 bb11 y12 y13 ha hf; clear ha
      refine st_assign hf rfl rfl (by decide) ?_
      clear hf; intro a ha hf; clear ha
      refine st_nil hf ?_
      refine th_n ?_
      refine wp_reg ?_
      refine st_move hf rfl rfl (by decide) ?_
      clear hf; intro a ha hf; clear ha
      refine st_move hf rfl rfl (by decide) ?_
      clear hf; intro a ha hf; clear ha
      refine st_carith (op := .add) (zx := sx3) (zy := (gt l0 t8)) rfl hf (by decide) hp rfl rfl rfl y3 y4 y12 y13 ?_
      clear hf; intro a w bb14 bb15 y16 y17 hf hp0; clear hp; have hp := hp0; clear hp0
      replace hp : Hp _ _ _ (ow) := hp
      refine st_assign hf rfl rfl (by decide) ?_
      clear hf; intro a ha hf; clear ha
      refine st_nil hf ?_
      refine ib_n ?_
      refine th_n ?_
      refine wp_reg ?_
      refine st_iadd hf (by decide) rfl rfl rfl ?_
      clear hf; intro a ha hf; clear ha
      refine st_move hf rfl rfl (by decide) ?_
      clear hf; intro a ha hf; clear ha
      refine st_nil hf ?_
      obtain rfl := Option.some.inj h
      exact rnd_l ⟨_, _, hf.sub ⟨rfl, rfl, rfl, rfl, trivial⟩, y16, y17, hp⟩
    replace h := ifF h hb
    refine wp_exit ?_
    refine th_e ?_
    obtain rfl := Option.some.inj h
    exact rnd_r (by simp) ⟨rfl, _, _, hf.sub ⟨rfl, trivial⟩, y3, y4, hp⟩
  clear hl hf hp
  intro e a w hne hO
  obtain ⟨rfl, bb5, bb6, hf, y7, y8, hp⟩ := hO
  refine ib_same ?_
  refine th_n ?_
  refine wp_seq ?_
  refine wp_reg ?_
  refine st_move hf rfl rfl (by decide) ?_
  clear hf; intro a ha hf; clear ha
  refine st_assign hf rfl rfl (by decide) ?_
  clear hf; intro a ha hf; clear ha
  refine st_nil hf ?_
  refine th_n ?_
  refine wp_ret ?_
  obtain rfl := Option.some.inj h
  exact ⟨rfl, ⟨_, _, hf.sub ⟨rfl, trivial⟩, y7, y8, hp⟩⟩

noncomputable def f_plane_Turn (zx0 : (Fl × Fl)) (quarters1 : Int) : Option (Fl × Fl) := (if ((iand .i64 quarters1 (3 : Int)) == (1 : Int)) = true then (some ((fneg zx0.2), zx0.1)) else (if ((iand .i64 quarters1 (3 : Int)) == (2 : Int)) = true then (some ((fneg zx0.1), (fneg zx0.2))) else (if ((iand .i64 quarters1 (3 : Int)) == (3 : Int)) = true then (some (zx0.2, (fneg zx0.1))) else (some zx0))))
theorem f_plane_Turn_c {S : Nat → Prop} {w0 w : World} {ow : List Res} (hp : Hp S w0 w ow) (bzx0 czx0 : Nat) (zx0 : Fl × Fl) (hzx0 : zx0.1.rep bzx0) (kzx0 : zx0.2.rep czx0) (quarters1 : Int) {r : (Fl × Fl)} (h : f_plane_Turn zx0 quarters1 = some r) :
    Calls Try.prog 15 #[.complex .f64 bzx0 czx0, .int .i64 quarters1] w (fun e w' => ∃ (b0 : Nat) (b1 : Nat), e = .returned (.complex .f64 b0 b1) ∧ Fl.rep b0 r.1 ∧ Fl.rep b1 r.2 ∧ Hp S w0 w' (ow)) := by
  unfold f_plane_Turn at h
  refine enter (n := 33) (args := [.complex .f64 bzx0 czx0, .int .i64 quarters1]) Try.func15 rfl rfl (Nat.le_of_ble_eq_true rfl) fun a hf => ?_
  replace hf : Fr 33 a [(0, .complex .f64 bzx0 czx0), (1, .int .i64 quarters1)] := hf
  refine wp_mono (Q := fun e a w => e = .ret ∧ ∃ (b0 : Nat) (b1 : Nat), Fr 33 a [(4, .complex .f64 b0 b1)] ∧ Fl.rep b0 r.1 ∧ Fl.rep b1 r.2 ∧ Hp S w0 w (ow)) ?_ ?_
  rotate_left
  · rintro e a w ⟨rfl, x0, x1, hf, y0, y1, hp⟩
    exact ret1 hf rfl rfl ⟨x0, x1, rfl, y0, y1, hp⟩
  refine wp_seq ?_
  refine wp_reg ?_
  refine st_assign hf rfl rfl (by decide) ?_
  clear hf; intro a ha hf; clear ha
  refine st_nil hf ?_
  refine th_n ?_
  refine wp_seq ?_
  refine wp_seq ?_
  refine wp_reg ?_
  refine st_move hf rfl rfl (by decide) ?_
  clear hf; intro a ha hf; clear ha
  refine st_iand hf (by decide) rfl rfl rfl ?_
  clear hf; intro a ha hf; clear ha
  refine st_nil hf ?_
  refine th_n ?_
  refine wp_block ?_
  refine wp_seq ?_
  refine wp_reg ?_
  refine st_ieql hf (by decide) rfl rfl rfl ?_
  clear hf; intro a ha hf; clear ha
  refine st_assign hf rfl rfl (by decide) ?_
  clear hf; intro a ha hf; clear ha
  refine st_nil hf ?_
  refine th_n ?_
  refine wp_if hf rfl (fun hb => ?_) (fun hb => ?_)
  · replace h := ifT h hb
    refine wp_seq ?_
    refine wp_reg ?_
    refine st_move hf rfl rfl (by decide) ?_
    clear hf; intro a ha hf; clear ha
    refine st_imag hf (by decide) rfl rfl ?_
    clear hf; intro a ha hf; clear ha
    refine st_fneg hf (by decide) rfl rfl ?_
    clear hf; intro a ha hf; clear ha
    refine st_move hf rfl rfl (by decide) ?_
    clear hf; intro a ha hf; clear ha
    refine st_real hf (by decide) rfl rfl ?_
    clear hf; intro a ha hf; clear ha
    refine st_complex hf (by decide) rfl rfl rfl ?_
    clear hf; intro a ha hf; clear ha
    refine st_assign hf rfl rfl (by decide) ?_
    clear hf; intro a ha hf; clear ha
    refine st_nil hf ?_
    refine th_n ?_
    refine wp_ret ?_
    refine ib_r ?_
    refine th_r ?_
    obtain rfl := Option.some.inj h
    exact ⟨rfl, ⟨_, _, hf.sub ⟨rfl, trivial⟩, (fneg_rep kzx0), hzx0, hp⟩⟩
  replace h := ifF h hb
  refine wp_seq ?_
  refine wp_reg ?_
  refine st_ieql hf (by decide) rfl rfl rfl ?_
  clear hf; intro a ha hf; clear ha
  refine st_assign hf rfl rfl (by decide) ?_
  clear hf; intro a ha hf; clear ha
  refine st_nil hf ?_
  refine th_n ?_
  refine wp_if hf rfl (fun hb => ?_) (fun hb => ?_)
  · replace h := ifT h hb
    refine wp_seq ?_
    refine wp_reg ?_
    refine st_move hf rfl rfl (by decide) ?_
    clear hf; intro a ha hf; clear ha
    refine st_real hf (by decide) rfl rfl ?_
    clear hf; intro a ha hf; clear ha
    refine st_fneg hf (by decide) rfl rfl ?_
    clear hf; intro a ha hf; clear ha
    refine st_move hf rfl rfl (by decide) ?_
    clear hf; intro a ha hf; clear ha
    refine st_imag hf (by decide) rfl rfl ?_
    clear hf; intro a ha hf; clear ha
    refine st_fneg hf (by decide) rfl rfl ?_
    clear hf; intro a ha hf; clear ha
    refine st_complex hf (by decide) rfl rfl rfl ?_
    clear hf; intro a ha hf; clear ha
    refine st_assign hf rfl rfl (by decide) ?_
    clear hf; intro a ha hf; clear ha
    refine st_nil hf ?_
    refine th_n ?_
    refine wp_ret ?_
    refine ib_r ?_
    refine th_r ?_
    obtain rfl := Option.some.inj h
    exact ⟨rfl, ⟨_, _, hf.sub ⟨rfl, trivial⟩, (fneg_rep hzx0), (fneg_rep kzx0), hp⟩⟩
  replace h := ifF h hb
  refine wp_seq ?_
  refine wp_reg ?_
  refine st_ieql hf (by decide) rfl rfl rfl ?_
  clear hf; intro a ha hf; clear ha
  refine st_assign hf rfl rfl (by decide) ?_
  clear hf; intro a ha hf; clear ha
  refine st_nil hf ?_
  refine th_n ?_
  refine wp_if hf rfl (fun hb => ?_) (fun hb => ?_)
  · replace h := ifT h hb
    refine wp_seq ?_
    refine wp_reg ?_
    refine st_move hf rfl rfl (by decide) ?_
    clear hf; intro a ha hf; clear ha
    refine st_imag hf (by decide) rfl rfl ?_
    clear hf; intro a ha hf; clear ha
    refine st_move hf rfl rfl (by decide) ?_
    clear hf; intro a ha hf; clear ha
    refine st_real hf (by decide) rfl rfl ?_
    clear hf; intro a ha hf; clear ha
    refine st_fneg hf (by decide) rfl rfl ?_
    clear hf; intro a ha hf; clear ha
    refine st_complex hf (by decide) rfl rfl rfl ?_
    clear hf; intro a ha hf; clear ha
    refine st_assign hf rfl rfl (by decide) ?_
    clear hf; intro a ha hf; clear ha
    refine st_nil hf ?_
    refine th_n ?_
    refine wp_ret ?_
    refine ib_r ?_
    refine th_r ?_
    obtain rfl := Option.some.inj h
    exact ⟨rfl, ⟨_, _, hf.sub ⟨rfl, trivial⟩, kzx0, (fneg_rep hzx0), hp⟩⟩
  replace h := ifF h hb
  refine wp_skip ?_
  refine ib_n ?_
  refine th_n ?_
  refine wp_seq ?_
  refine wp_reg ?_
  refine st_move hf rfl rfl (by decide) ?_
  clear hf; intro a ha hf; clear ha
  refine st_assign hf rfl rfl (by decide) ?_
  clear hf; intro a ha hf; clear ha
  refine st_nil hf ?_
  refine th_n ?_
  refine wp_ret ?_
  obtain rfl := Option.some.inj h
  exact ⟨rfl, ⟨_, _, hf.sub ⟨rfl, trivial⟩, hzx0, kzx0, hp⟩⟩

noncomputable def f_plane_Norm (zx0 : (Fl × Fl)) : Option Fl := (some (fadd (fmul zx0.1 zx0.1) (fmul zx0.2 zx0.2)))
theorem f_plane_Norm_c {S : Nat → Prop} {w0 w : World} {ow : List Res} (hp : Hp S w0 w ow) (bzx0 czx0 : Nat) (zx0 : Fl × Fl) (hzx0 : zx0.1.rep bzx0) (kzx0 : zx0.2.rep czx0) {r : Fl} (h : f_plane_Norm zx0 = some r) :
    Calls Try.prog 20 #[.complex .f64 bzx0 czx0] w (fun e w' => ∃ (b0 : Nat), e = .returned (.float .f64 b0) ∧ Fl.rep b0 r ∧ Hp S w0 w' (ow)) := by
  unfold f_plane_Norm at h
  refine enter (n := 14) (args := [.complex .f64 bzx0 czx0]) Try.func20 rfl rfl (Nat.le_of_ble_eq_true rfl) fun a hf => ?_
  replace hf : Fr 14 a [(0, .complex .f64 bzx0 czx0)] := hf
  refine wp_mono (Q := fun e a w => e = .ret ∧ ∃ (b0 : Nat), Fr 14 a [(2, .float .f64 b0)] ∧ Fl.rep b0 r ∧ Hp S w0 w (ow)) ?_ ?_
  rotate_left
  · rintro e a w ⟨rfl, x0, hf, y0, hp⟩
    exact ret1 hf rfl rfl ⟨x0, rfl, y0, hp⟩
  refine wp_seq ?_
  refine wp_reg ?_
  refine st_assign hf rfl rfl (by decide) ?_
  clear hf; intro a ha hf; clear ha
  refine st_nil hf ?_
  refine th_n ?_
  refine wp_seq ?_
  refine wp_reg ?_
  refine st_move hf rfl rfl (by decide) ?_
  clear hf; intro a ha hf; clear ha
  refine st_real hf (by decide) rfl rfl ?_
  clear hf; intro a ha hf; clear ha
  refine st_move hf rfl rfl (by decide) ?_
  clear hf; intro a ha hf; clear ha
  refine st_real hf (by decide) rfl rfl ?_
  clear hf; intro a ha hf; clear ha
  refine st_farith (op := .mul) rfl hf (by decide) hp rfl rfl rfl (show Fl.rep bzx0 zx0.1 from hzx0) (show Fl.rep bzx0 zx0.1 from hzx0) ?_
  clear hf; intro a w bb1 y2 hf hp0; clear hp; have hp := hp0; clear hp0
  replace hp : Hp _ _ _ (ow) := hp
  refine st_move hf rfl rfl (by decide) ?_
  clear hf; intro a ha hf; clear ha
  refine st_imag hf (by decide) rfl rfl ?_
  clear hf; intro a ha hf; clear ha
  refine st_move hf rfl rfl (by decide) ?_
  clear hf; intro a ha hf; clear ha
  refine st_imag hf (by decide) rfl rfl ?_
  clear hf; intro a ha hf; clear ha
  refine st_farith (op := .mul) rfl hf (by decide) hp rfl rfl rfl (show Fl.rep czx0 zx0.2 from kzx0) (show Fl.rep czx0 zx0.2 from kzx0) ?_
  clear hf; intro a w bb3 y4 hf hp0; clear hp; have hp := hp0; clear hp0
  replace hp : Hp _ _ _ (ow) := hp
  refine st_farith (op := .add) rfl hf (by decide) hp rfl rfl rfl (show Fl.rep bb1 (fmul zx0.1 zx0.1) from y2) (show Fl.rep bb3 (fmul zx0.2 zx0.2) from y4) ?_
  clear hf; intro a w bb5 y6 hf hp0; clear hp; have hp := hp0; clear hp0
  replace hp : Hp _ _ _ (ow) := hp
  refine st_assign hf rfl rfl (by decide) ?_
  clear hf; intro a ha hf; clear ha
  refine st_nil hf ?_
  refine th_n ?_
  refine wp_ret ?_
  obtain rfl := Option.some.inj h
  exact ⟨rfl, ⟨_, hf.sub ⟨rfl, trivial⟩, y6, hp⟩⟩

noncomputable def f_plane_Conj (zx0 : (Fl × Fl)) : Option (Fl × Fl) := (some (zx0.1, (fneg zx0.2)))
theorem f_plane_Conj_c {S : Nat → Prop} {w0 w : World} {ow : List Res} (hp : Hp S w0 w ow) (bzx0 czx0 : Nat) (zx0 : Fl × Fl) (hzx0 : zx0.1.rep bzx0) (kzx0 : zx0.2.rep czx0) {r : (Fl × Fl)} (h : f_plane_Conj zx0 = some r) :
    Calls Try.prog 17 #[.complex .f64 bzx0 czx0] w (fun e w' => ∃ (b0 : Nat) (b1 : Nat), e = .returned (.complex .f64 b0 b1) ∧ Fl.rep b0 r.1 ∧ Fl.rep b1 r.2 ∧ Hp S w0 w' (ow)) := by
  unfold f_plane_Conj at h
  refine enter (n := 9) (args := [.complex .f64 bzx0 czx0]) Try.func17 rfl rfl (Nat.le_of_ble_eq_true rfl) fun a hf => ?_
  replace hf : Fr 9 a [(0, .complex .f64 bzx0 czx0)] := hf
  refine wp_mono (Q := fun e a w => e = .ret ∧ ∃ (b0 : Nat) (b1 : Nat), Fr 9 a [(2, .complex .f64 b0 b1)] ∧ Fl.rep b0 r.1 ∧ Fl.rep b1 r.2 ∧ Hp S w0 w (ow)) ?_ ?_
  rotate_left
  · rintro e a w ⟨rfl, x0, x1, hf, y0, y1, hp⟩
    exact ret1 hf rfl rfl ⟨x0, x1, rfl, y0, y1, hp⟩
  refine wp_seq ?_
  refine wp_reg ?_
  refine st_assign hf rfl rfl (by decide) ?_
  clear hf; intro a ha hf; clear ha
  refine st_nil hf ?_
  refine th_n ?_
  refine wp_seq ?_
  refine wp_reg ?_
  refine st_move hf rfl rfl (by decide) ?_
  clear hf; intro a ha hf; clear ha
  refine st_real hf (by decide) rfl rfl ?_
  clear hf; intro a ha hf; clear ha
  refine st_move hf rfl rfl (by decide) ?_
  clear hf; intro a ha hf; clear ha
  refine st_imag hf (by decide) rfl rfl ?_
  clear hf; intro a ha hf; clear ha
  refine st_fneg hf (by decide) rfl rfl ?_
  clear hf; intro a ha hf; clear ha
  refine st_complex hf (by decide) rfl rfl rfl ?_
  clear hf; intro a ha hf; clear ha
  refine st_assign hf rfl rfl (by decide) ?_
  clear hf; intro a ha hf; clear ha
  refine st_nil hf ?_
  refine th_n ?_
  refine wp_ret ?_
  obtain rfl := Option.some.inj h
  exact ⟨rfl, ⟨_, _, hf.sub ⟨rfl, trivial⟩, hzx0, (fneg_rep kzx0), hp⟩⟩

noncomputable def f_plane_Apart (ax0 : (Fl × Fl)) (bx1 : (Fl × Fl)) : Option Fl := ((f_plane_Norm (csub ax0 bx1)).bind fun q5 => (some q5))
theorem f_plane_Apart_c {S : Nat → Prop} {w0 w : World} {ow : List Res} (hp : Hp S w0 w ow) (bax0 cax0 : Nat) (ax0 : Fl × Fl) (hax0 : ax0.1.rep bax0) (kax0 : ax0.2.rep cax0) (bbx1 cbx1 : Nat) (bx1 : Fl × Fl) (hbx1 : bx1.1.rep bbx1) (kbx1 : bx1.2.rep cbx1) {r : Fl} (h : f_plane_Apart ax0 bx1 = some r) :
    Calls Try.prog 22 #[.complex .f64 bax0 cax0, .complex .f64 bbx1 cbx1] w (fun e w' => ∃ (b0 : Nat), e = .returned (.float .f64 b0) ∧ Fl.rep b0 r ∧ Hp S w0 w' (ow)) := by
  unfold f_plane_Apart at h
  refine enter (n := 9) (args := [.complex .f64 bax0 cax0, .complex .f64 bbx1 cbx1]) Try.func22 rfl rfl (Nat.le_of_ble_eq_true rfl) fun a hf => ?_
  replace hf : Fr 9 a [(0, .complex .f64 bax0 cax0), (1, .complex .f64 bbx1 cbx1)] := hf
  refine wp_mono (Q := fun e a w => e = .ret ∧ ∃ (b0 : Nat), Fr 9 a [(4, .float .f64 b0)] ∧ Fl.rep b0 r ∧ Hp S w0 w (ow)) ?_ ?_
  rotate_left
  · rintro e a w ⟨rfl, x0, hf, y0, hp⟩
    exact ret1 hf rfl rfl ⟨x0, rfl, y0, hp⟩
  refine wp_seq ?_
  refine wp_reg ?_
  refine st_assign hf rfl rfl (by decide) ?_
  clear hf; intro a ha hf; clear ha
  refine st_nil hf ?_
  refine th_n ?_
  refine wp_seq ?_
  refine wp_reg ?_
  refine st_move hf rfl rfl (by decide) ?_
  clear hf; intro a ha hf; clear ha
  refine st_move hf rfl rfl (by decide) ?_
  clear hf; intro a ha hf; clear ha
  refine st_carith (op := .sub) (zx := ax0) (zy := bx1) rfl hf (by decide) hp rfl rfl rfl hax0 kax0 hbx1 kbx1 ?_
  clear hf; intro a w bb1 bb2 y3 y4 hf hp0; clear hp; have hp := hp0; clear hp0
  replace hp : Hp _ _ _ (ow) := hp
  obtain ⟨q5, hcall6, h⟩ := bnd h
  refine st_call hf (by decide) Try.func20 rfl rfl rfl rfl rfl (f_plane_Norm_c hp _ _ _ (show Fl.rep bb1 ((csub ax0 bx1)).1 from y3) (show Fl.rep bb2 ((csub ax0 bx1)).2 from y4) hcall6) ?_
  rintro _ w ⟨v7, rfl, y8, hp0⟩
  clear hp; have hp := hp0; clear hp0
  replace hp : Hp _ _ _ (ow) := hp
  refine ⟨_, rfl, ?_⟩
  clear hf; intro a hf
  refine st_assign hf rfl rfl (by decide) ?_
  clear hf; intro a ha hf; clear ha
  refine st_nil hf ?_
  refine th_n ?_
  refine wp_ret ?_
  obtain rfl := Option.some.inj h
  exact ⟨rfl, ⟨_, hf.sub ⟨rfl, trivial⟩, y8, hp⟩⟩

noncomputable def f_plane_Gauss_may (g0_Re : Int) (g0_Im : Int) : Option Bool := (some ((((decide ((-1073741824 : Int) ≤ g0_Re)) && (decide (g0_Re ≤ (1073741824 : Int)))) && (decide ((-1073741824 : Int) ≤ g0_Im))) && (decide (g0_Im ≤ (1073741824 : Int)))))
theorem f_plane_Gauss_may_c {S : Nat → Prop} {w0 w : World} {ow : List Res} (hp : Hp S w0 w ow) (g0_Re : Int) (g0_Im : Int) {r : Bool} (h : f_plane_Gauss_may g0_Re g0_Im = some r) :
    Calls Try.prog 55 #[.agg #[.int .i64 g0_Re, .int .i64 g0_Im]] w (fun e w' => e = .returned (.bool r) ∧ Hp S w0 w' (ow)) := by
  unfold f_plane_Gauss_may at h
  refine enter (n := 21) (args := [.agg #[.int .i64 g0_Re, .int .i64 g0_Im]]) Try.func55 rfl rfl (Nat.le_of_ble_eq_true rfl) fun a hf => ?_
  replace hf : Fr 21 a [(0, .agg #[.int .i64 g0_Re, .int .i64 g0_Im])] := hf
  refine wp_mono (Q := fun e a w => e = .ret ∧ Fr 21 a [(2, .bool r)] ∧ Hp S w0 w (ow)) ?_ ?_
  rotate_left
  · rintro e a w ⟨rfl, hf, hp⟩
    exact ret1 hf rfl rfl ⟨rfl, hp⟩
  refine wp_seq ?_
  refine wp_reg ?_
  refine st_boxO (cs := [.int .i64 g0_Re, .int .i64 g0_Im]) hf (by decide) hp rfl rfl rfl ?_
  clear hf; intro a w v1 hf hp0; clear hp; have hp := hp0; clear hp0
  replace hp : Hp _ _ _ (Res.obj 56 v1 [.int .i64 g0_Re, .int .i64 g0_Im] :: ow) := hp
  refine st_assign hf rfl rfl (by decide) ?_
  clear hf; intro a ha hf; clear ha
  refine st_nil hf ?_
  refine th_n ?_
  refine wp_seq ?_
  refine wp_reg ?_
  refine st_fa (o' := 0) hf (by decide) (off := 0) (sz := 1) (by kernel_rfl) (by decide) rfl rfl (hp.ob (i := 0) rfl) rfl ?_
  clear hf; intro a ha hf; clear ha
  refine st_ldO (u := .int .i64 g0_Re) hf (by decide) pl2 rfl rfl (hp.ob (i := 0) rfl) rfl ?_
  clear hf; intro a ha hf; clear ha
  refine st_igeq hf (by decide) rfl rfl rfl ?_
  clear hf; intro a ha hf; clear ha
  refine st_move hf rfl rfl (by decide) ?_
  clear hf; intro a ha hf; clear ha
  refine wpList_cut 4 (fun a w => Fr 21 a [(1, optr v1 0), (10, .bool ((decide ((-1073741824 : Int) ≤ g0_Re)) && (decide (g0_Re ≤ (1073741824 : Int)))))] ∧ Hp S w0 w (Res.obj 56 v1 [.int .i64 g0_Re, .int .i64 g0_Im] :: ow)) ?_ ?_
  · rcases Bool.eq_false_or_eq_true (decide ((-1073741824 : Int) ≤ g0_Re)) with hb4 | hb4
    · skip
      refine st_fa (o' := 0) hf (by decide) (off := 0) (sz := 1) (by kernel_rfl) (by decide) (wantY hf rfl rfl hb4) rfl (hp.ob (i := 0) rfl) rfl ?_
      clear hf; intro a ha hf; clear ha
      refine st_ldO (u := .int .i64 g0_Re) hf (by decide) pl2 (wantY hf rfl rfl hb4) rfl (hp.ob (i := 0) rfl) rfl ?_
      clear hf; intro a ha hf; clear ha
      refine st_ileq hf (by decide) (wantY hf rfl rfl hb4) rfl rfl ?_
      clear hf; intro a ha hf; clear ha
      refine st_pick (v := .bool (decide (g0_Re ≤ (1073741824 : Int)))) hf rfl rfl (fun hb' => ?_) (fun hb' => ?_) (by decide) ?_
      · rfl
      · exact absurd (hb4.symm.trans hb') (by decide)
      clear hf; intro a ha hf; clear ha
      refine st_nil hf (th_n ?_)
      exact ⟨hf.sub ⟨rfl, (by rw [hb4]; rfl), trivial⟩, hp⟩
    refine st_skip hf (wantN hf rfl rfl hb4) rfl (by decide) ?_ rfl
    clear hf; intro a hf
    refine st_skip hf (wantN hf rfl rfl hb4) rfl (by decide) ?_ rfl
    clear hf; intro a hf
    refine st_skip hf (wantN hf rfl rfl hb4) rfl (by decide) ?_ rfl
    clear hf; intro a hf
    refine st_pick (v := .bool false) hf rfl rfl (fun hb' => ?_) (fun hb' => ?_) (by decide) ?_
    · exact absurd (hb4.symm.trans hb') (by decide)
    · rfl
    clear hf; intro a ha hf; clear ha
    refine st_nil hf (th_n ?_)
    exact ⟨hf.sub ⟨rfl, (by rw [hb4]; rfl), trivial⟩, hp⟩
  rintro a w ⟨hf, hp⟩
  refine st_move hf rfl rfl (by decide) ?_
  clear hf; intro a ha hf; clear ha
  refine wpList_cut 4 (fun a w => Fr 21 a [(1, optr v1 0), (15, .bool (((decide ((-1073741824 : Int) ≤ g0_Re)) && (decide (g0_Re ≤ (1073741824 : Int)))) && (decide ((-1073741824 : Int) ≤ g0_Im))))] ∧ Hp S w0 w (Res.obj 56 v1 [.int .i64 g0_Re, .int .i64 g0_Im] :: ow)) ?_ ?_
  · rcases Bool.eq_false_or_eq_true ((decide ((-1073741824 : Int) ≤ g0_Re)) && (decide (g0_Re ≤ (1073741824 : Int)))) with hb6 | hb6
    · skip
      refine st_fa (o' := 1) hf (by decide) (off := 1) (sz := 1) (by kernel_rfl) (by decide) (wantY hf rfl rfl hb6) rfl (hp.ob (i := 0) rfl) rfl ?_
      clear hf; intro a ha hf; clear ha
      refine st_ldO (u := .int .i64 g0_Im) hf (by decide) pl2 (wantY hf rfl rfl hb6) rfl (hp.ob (i := 0) rfl) rfl ?_
      clear hf; intro a ha hf; clear ha
      refine st_igeq hf (by decide) (wantY hf rfl rfl hb6) rfl rfl ?_
      clear hf; intro a ha hf; clear ha
      refine st_pick (v := .bool (decide ((-1073741824 : Int) ≤ g0_Im))) hf rfl rfl (fun hb' => ?_) (fun hb' => ?_) (by decide) ?_
      · rfl
      · exact absurd (hb6.symm.trans hb') (by decide)
      clear hf; intro a ha hf; clear ha
      refine st_nil hf (th_n ?_)
      exact ⟨hf.sub ⟨rfl, (by rw [hb6]; rfl), trivial⟩, hp⟩
    refine st_skip hf (wantN hf rfl rfl hb6) rfl (by decide) ?_ rfl
    clear hf; intro a hf
    refine st_skip hf (wantN hf rfl rfl hb6) rfl (by decide) ?_ rfl
    clear hf; intro a hf
    refine st_skip hf (wantN hf rfl rfl hb6) rfl (by decide) ?_ rfl
    clear hf; intro a hf
    refine st_pick (v := .bool false) hf rfl rfl (fun hb' => ?_) (fun hb' => ?_) (by decide) ?_
    · exact absurd (hb6.symm.trans hb') (by decide)
    · rfl
    clear hf; intro a ha hf; clear ha
    refine st_nil hf (th_n ?_)
    exact ⟨hf.sub ⟨rfl, (by rw [hb6]; rfl), trivial⟩, hp⟩
  rintro a w ⟨hf, hp⟩
  refine st_move hf rfl rfl (by decide) ?_
  clear hf; intro a ha hf; clear ha
  refine wpList_cut 4 (fun a w => Fr 21 a [(20, .bool ((((decide ((-1073741824 : Int) ≤ g0_Re)) && (decide (g0_Re ≤ (1073741824 : Int)))) && (decide ((-1073741824 : Int) ≤ g0_Im))) && (decide (g0_Im ≤ (1073741824 : Int)))))] ∧ Hp S w0 w (Res.obj 56 v1 [.int .i64 g0_Re, .int .i64 g0_Im] :: ow)) ?_ ?_
  · rcases Bool.eq_false_or_eq_true (((decide ((-1073741824 : Int) ≤ g0_Re)) && (decide (g0_Re ≤ (1073741824 : Int)))) && (decide ((-1073741824 : Int) ≤ g0_Im))) with hb8 | hb8
    · skip
      refine st_fa (o' := 1) hf (by decide) (off := 1) (sz := 1) (by kernel_rfl) (by decide) (wantY hf rfl rfl hb8) rfl (hp.ob (i := 0) rfl) rfl ?_
      clear hf; intro a ha hf; clear ha
      refine st_ldO (u := .int .i64 g0_Im) hf (by decide) pl2 (wantY hf rfl rfl hb8) rfl (hp.ob (i := 0) rfl) rfl ?_
      clear hf; intro a ha hf; clear ha
      refine st_ileq hf (by decide) (wantY hf rfl rfl hb8) rfl rfl ?_
      clear hf; intro a ha hf; clear ha
      refine st_pick (v := .bool (decide (g0_Im ≤ (1073741824 : Int)))) hf rfl rfl (fun hb' => ?_) (fun hb' => ?_) (by decide) ?_
      · rfl
      · exact absurd (hb8.symm.trans hb') (by decide)
      clear hf; intro a ha hf; clear ha
      refine st_nil hf (th_n ?_)
      exact ⟨hf.sub ⟨(by rw [hb8]; rfl), trivial⟩, hp⟩
    refine st_skip hf (wantN hf rfl rfl hb8) rfl (by decide) ?_ rfl
    clear hf; intro a hf
    refine st_skip hf (wantN hf rfl rfl hb8) rfl (by decide) ?_ rfl
    clear hf; intro a hf
    refine st_skip hf (wantN hf rfl rfl hb8) rfl (by decide) ?_ rfl
    clear hf; intro a hf
    refine st_pick (v := .bool false) hf rfl rfl (fun hb' => ?_) (fun hb' => ?_) (by decide) ?_
    · exact absurd (hb8.symm.trans hb') (by decide)
    · rfl
    clear hf; intro a ha hf; clear ha
    refine st_nil hf (th_n ?_)
    exact ⟨hf.sub ⟨(by rw [hb8]; rfl), trivial⟩, hp⟩
  rintro a w ⟨hf, hp⟩
  refine st_assign hf rfl rfl (by decide) ?_
  clear hf; intro a ha hf; clear ha
  refine st_nil hf ?_
  refine th_n ?_
  refine wp_ret ?_
  obtain rfl := Option.some.inj h
  have hp : Hp _ _ _ (ow) := Hp.sel (pre := [Res.obj 56 v1 [.int .i64 g0_Re, .int .i64 g0_Im]]) (tail := ow) (rs' := []) hp [] (by decide) (by simp) rfl
  exact ⟨rfl, ⟨hf.sub ⟨rfl, trivial⟩, hp⟩⟩

noncomputable def f_plane_Gauss_half (g0_Re : Int) (g0_Im : Int) : Option ((Int × Int) × Int) := (some (((IntKind.i64.wrap (((IntKind.i64.wrap ((IntKind.i64.wrap (g0_Re - (iand .i64 (IntKind.i64.wrap (g0_Re + g0_Im)) (1 : Int)))) + g0_Im))).tdiv (2 : Int))), (IntKind.i64.wrap (((IntKind.i64.wrap (g0_Im - (IntKind.i64.wrap (g0_Re - (iand .i64 (IntKind.i64.wrap (g0_Re + g0_Im)) (1 : Int))))))).tdiv (2 : Int)))), (IntKind.u32.wrap (iand .i64 (IntKind.i64.wrap (g0_Re + g0_Im)) (1 : Int)))))
theorem f_plane_Gauss_half_c {S : Nat → Prop} {w0 w : World} {ow : List Res} (hp : Hp S w0 w ow) (g0_Re : Int) (g0_Im : Int) {r : ((Int × Int) × Int)} (h : f_plane_Gauss_half g0_Re g0_Im = some r) :
    Calls Try.prog 59 #[.agg #[.int .i64 g0_Re, .int .i64 g0_Im]] w (fun e w' => e = .returned (.tuple #[.agg #[.int .i64 r.1.1, .int .i64 r.1.2], .int .u32 r.2]) ∧ Hp S w0 w' (ow)) := by
  unfold f_plane_Gauss_half at h
  refine enter (n := 31) (args := [.agg #[.int .i64 g0_Re, .int .i64 g0_Im]]) Try.func59 rfl rfl (Nat.le_of_ble_eq_true rfl) fun a hf => ?_
  replace hf : Fr 31 a [(0, .agg #[.int .i64 g0_Re, .int .i64 g0_Im])] := hf
  refine wp_mono (Q := fun e a w => e = .ret ∧ ∃ (c0 : Value), Fr 31 a [(2, optr c0 0), (3, .int .u32 r.2)] ∧ Hp S w0 w (Res.obj 56 c0 [.int .i64 r.1.1, .int .i64 r.1.2] :: ow)) ?_ ?_
  rotate_left
  · rintro e a w ⟨rfl, c0, hf, hp⟩
    exact retG2 hf rfl ⟨_, _, rfl, hp.ob (i := 0) rfl, .inr ⟨by kernel_rfl, rfl⟩⟩ rfl ⟨rfl, hp.drop⟩
  refine wp_seq ?_
  refine wp_reg ?_
  refine st_boxO (cs := [.int .i64 g0_Re, .int .i64 g0_Im]) hf (by decide) hp rfl rfl rfl ?_
  clear hf; intro a w v1 hf hp0; clear hp; have hp := hp0; clear hp0
  replace hp : Hp _ _ _ (Res.obj 56 v1 [.int .i64 g0_Re, .int .i64 g0_Im] :: ow) := hp
  refine st_alloc (cs := [.int .i64 (0 : Int), .int .i64 (0 : Int)]) (zv := .agg #[.int .i64 (0 : Int), .int .i64 (0 : Int)]) hf (by decide) (by kernel_rfl) rfl hp rfl ?_
  clear hf; intro a w v3 hf hp0; clear hp; have hp := hp0; clear hp0
  replace hp : Hp _ _ _ (Res.obj 56 v3 [.int .i64 (0 : Int), .int .i64 (0 : Int)] :: Res.obj 56 v1 [.int .i64 g0_Re, .int .i64 g0_Im] :: ow) := hp
  refine st_assign hf rfl rfl (by decide) ?_
  clear hf; intro a ha hf; clear ha
  refine st_nil hf ?_
  refine th_n ?_
  refine wp_seq ?_
  refine wp_reg ?_
  refine st_fa (o' := 0) hf (by decide) (off := 0) (sz := 1) (by kernel_rfl) (by decide) rfl rfl (hp.ob (i := 1) rfl) rfl ?_
  clear hf; intro a ha hf; clear ha
  refine st_ldO (u := .int .i64 g0_Re) hf (by decide) pl2 rfl rfl (hp.ob (i := 1) rfl) rfl ?_
  clear hf; intro a ha hf; clear ha
  refine st_fa (o' := 1) hf (by decide) (off := 1) (sz := 1) (by kernel_rfl) (by decide) rfl rfl (hp.ob (i := 1) rfl) rfl ?_
  clear hf; intro a ha hf; clear ha
  refine st_ldO (u := .int .i64 g0_Im) hf (by decide) pl2 rfl rfl (hp.ob (i := 1) rfl) rfl ?_
  clear hf; intro a ha hf; clear ha
  refine st_iadd hf (by decide) rfl rfl rfl ?_
  clear hf; intro a ha hf; clear ha
  refine st_iand hf (by decide) rfl rfl rfl ?_
  clear hf; intro a ha hf; clear ha
  refine st_assign hf rfl rfl (by decide) ?_
  clear hf; intro a ha hf; clear ha
  refine st_nil hf ?_
  refine th_n ?_
  refine wp_seq ?_
  refine wp_reg ?_
  refine st_fa (o' := 0) hf (by decide) (off := 0) (sz := 1) (by kernel_rfl) (by decide) rfl rfl (hp.ob (i := 1) rfl) rfl ?_
  clear hf; intro a ha hf; clear ha
  refine st_ldO (u := .int .i64 g0_Re) hf (by decide) pl2 rfl rfl (hp.ob (i := 1) rfl) rfl ?_
  clear hf; intro a ha hf; clear ha
  refine st_move hf rfl rfl (by decide) ?_
  clear hf; intro a ha hf; clear ha
  refine st_isub hf (by decide) rfl rfl rfl ?_
  clear hf; intro a ha hf; clear ha
  refine st_fa (o' := 0) hf (by decide) (off := 0) (sz := 1) (by kernel_rfl) (by decide) rfl rfl (hp.ob (i := 1) rfl) rfl ?_
  clear hf; intro a ha hf; clear ha
  refine st_stO (us := [.int .i64 (IntKind.i64.wrap (g0_Re - (iand .i64 (IntKind.i64.wrap (g0_Re + g0_Im)) (1 : Int))))]) hf hp (i := 1) rfl rfl rfl rfl rfl (by rfl) (by kernel_rfl) (Nat.le_of_ble_eq_true rfl) ?_
  clear hf; intro a w hf hp0; clear hp; have hp := hp0; clear hp0
  replace hp : Hp _ _ _ (Res.obj 56 v3 [.int .i64 (0 : Int), .int .i64 (0 : Int)] :: Res.obj 56 v1 [.int .i64 (IntKind.i64.wrap (g0_Re - (iand .i64 (IntKind.i64.wrap (g0_Re + g0_Im)) (1 : Int)))), .int .i64 g0_Im] :: ow) := hp
  refine st_nil hf ?_
  refine th_n ?_
  refine wp_seq ?_
  refine wp_reg ?_
  refine st_fa (o' := 0) hf (by decide) (off := 0) (sz := 1) (by kernel_rfl) (by decide) rfl rfl (hp.ob (i := 1) rfl) rfl ?_
  clear hf; intro a ha hf; clear ha
  refine st_ldO (u := .int .i64 (IntKind.i64.wrap (g0_Re - (iand .i64 (IntKind.i64.wrap (g0_Re + g0_Im)) (1 : Int))))) hf (by decide) pl2 rfl rfl (hp.ob (i := 1) rfl) rfl ?_
  clear hf; intro a ha hf; clear ha
  refine st_fa (o' := 1) hf (by decide) (off := 1) (sz := 1) (by kernel_rfl) (by decide) rfl rfl (hp.ob (i := 1) rfl) rfl ?_
  clear hf; intro a ha hf; clear ha
  refine st_ldO (u := .int .i64 g0_Im) hf (by decide) pl2 rfl rfl (hp.ob (i := 1) rfl) rfl ?_
  clear hf; intro a ha hf; clear ha
  refine st_iadd hf (by decide) rfl rfl rfl ?_
  clear hf; intro a ha hf; clear ha
  refine st_iquo hf (by decide) rfl rfl rfl (by decide) ?_
  clear hf; intro a ha hf; clear ha
  refine st_fa (o' := 1) hf (by decide) (off := 1) (sz := 1) (by kernel_rfl) (by decide) rfl rfl (hp.ob (i := 1) rfl) rfl ?_
  clear hf; intro a ha hf; clear ha
  refine st_ldO (u := .int .i64 g0_Im) hf (by decide) pl2 rfl rfl (hp.ob (i := 1) rfl) rfl ?_
  clear hf; intro a ha hf; clear ha
  refine st_fa (o' := 0) hf (by decide) (off := 0) (sz := 1) (by kernel_rfl) (by decide) rfl rfl (hp.ob (i := 1) rfl) rfl ?_
  clear hf; intro a ha hf; clear ha
  refine st_ldO (u := .int .i64 (IntKind.i64.wrap (g0_Re - (iand .i64 (IntKind.i64.wrap (g0_Re + g0_Im)) (1 : Int))))) hf (by decide) pl2 rfl rfl (hp.ob (i := 1) rfl) rfl ?_
  clear hf; intro a ha hf; clear ha
  refine st_isub hf (by decide) rfl rfl rfl ?_
  clear hf; intro a ha hf; clear ha
  refine st_iquo hf (by decide) rfl rfl rfl (by decide) ?_
  clear hf; intro a ha hf; clear ha
  refine st_buildA (vals := [(0, .int .i64 (IntKind.i64.wrap (((IntKind.i64.wrap ((IntKind.i64.wrap (g0_Re - (iand .i64 (IntKind.i64.wrap (g0_Re + g0_Im)) (1 : Int)))) + g0_Im))).tdiv (2 : Int)))), (1, .int .i64 (IntKind.i64.wrap (((IntKind.i64.wrap (g0_Im - (IntKind.i64.wrap (g0_Re - (iand .i64 (IntKind.i64.wrap (g0_Re + g0_Im)) (1 : Int))))))).tdiv (2 : Int))))]) (cells := [.int .i64 (IntKind.i64.wrap (((IntKind.i64.wrap ((IntKind.i64.wrap (g0_Re - (iand .i64 (IntKind.i64.wrap (g0_Re + g0_Im)) (1 : Int)))) + g0_Im))).tdiv (2 : Int))), .int .i64 (IntKind.i64.wrap (((IntKind.i64.wrap (g0_Im - (IntKind.i64.wrap (g0_Re - (iand .i64 (IntKind.i64.wrap (g0_Re + g0_Im)) (1 : Int))))))).tdiv (2 : Int)))]) hf (by decide) rfl (by simp [hf.ev (x := (Operand.tmp 21)) rfl, hf.ev (x := (Operand.tmp 27)) rfl]) (fun w => by kernel_rfl) ?_
  clear hf; intro a ha hf; clear ha
  refine st_move hf rfl rfl (by decide) ?_
  clear hf; intro a ha hf; clear ha
  refine st_conv_ii hf (by decide) (by rw [Try.underlying2]; rfl) Try.underlying66 rfl rfl ?_
  clear hf; intro a ha hf; clear ha
  refine st_stO (us := [.int .i64 (IntKind.i64.wrap (((IntKind.i64.wrap ((IntKind.i64.wrap (g0_Re - (iand .i64 (IntKind.i64.wrap (g0_Re + g0_Im)) (1 : Int)))) + g0_Im))).tdiv (2 : Int))), .int .i64 (IntKind.i64.wrap (((IntKind.i64.wrap (g0_Im - (IntKind.i64.wrap (g0_Re - (iand .i64 (IntKind.i64.wrap (g0_Re + g0_Im)) (1 : Int))))))).tdiv (2 : Int)))]) hf hp (i := 0) rfl rfl rfl rfl rfl (by rfl) (by kernel_rfl) (Nat.le_of_ble_eq_true rfl) ?_
  clear hf; intro a w hf hp0; clear hp; have hp := hp0; clear hp0
  replace hp : Hp _ _ _ (Res.obj 56 v3 [.int .i64 (IntKind.i64.wrap (((IntKind.i64.wrap ((IntKind.i64.wrap (g0_Re - (iand .i64 (IntKind.i64.wrap (g0_Re + g0_Im)) (1 : Int)))) + g0_Im))).tdiv (2 : Int))), .int .i64 (IntKind.i64.wrap (((IntKind.i64.wrap (g0_Im - (IntKind.i64.wrap (g0_Re - (iand .i64 (IntKind.i64.wrap (g0_Re + g0_Im)) (1 : Int))))))).tdiv (2 : Int)))] :: Res.obj 56 v1 [.int .i64 (IntKind.i64.wrap (g0_Re - (iand .i64 (IntKind.i64.wrap (g0_Re + g0_Im)) (1 : Int)))), .int .i64 g0_Im] :: ow) := hp
  refine st_assign hf rfl rfl (by decide) ?_
  clear hf; intro a ha hf; clear ha
  refine st_nil hf ?_
  refine th_n ?_
  refine wp_ret ?_
  obtain rfl := Option.some.inj h
  have hp : Hp _ _ _ (Res.obj 56 v3 [.int .i64 (IntKind.i64.wrap (((IntKind.i64.wrap ((IntKind.i64.wrap (g0_Re - (iand .i64 (IntKind.i64.wrap (g0_Re + g0_Im)) (1 : Int)))) + g0_Im))).tdiv (2 : Int))), .int .i64 (IntKind.i64.wrap (((IntKind.i64.wrap (g0_Im - (IntKind.i64.wrap (g0_Re - (iand .i64 (IntKind.i64.wrap (g0_Re + g0_Im)) (1 : Int))))))).tdiv (2 : Int)))] :: ow) := Hp.sel (pre := [Res.obj 56 v3 [.int .i64 (IntKind.i64.wrap (((IntKind.i64.wrap ((IntKind.i64.wrap (g0_Re - (iand .i64 (IntKind.i64.wrap (g0_Re + g0_Im)) (1 : Int)))) + g0_Im))).tdiv (2 : Int))), .int .i64 (IntKind.i64.wrap (((IntKind.i64.wrap (g0_Im - (IntKind.i64.wrap (g0_Re - (iand .i64 (IntKind.i64.wrap (g0_Re + g0_Im)) (1 : Int))))))).tdiv (2 : Int)))], Res.obj 56 v1 [.int .i64 (IntKind.i64.wrap (g0_Re - (iand .i64 (IntKind.i64.wrap (g0_Re + g0_Im)) (1 : Int)))), .int .i64 g0_Im]]) (tail := ow) (rs' := [Res.obj 56 v3 [.int .i64 (IntKind.i64.wrap (((IntKind.i64.wrap ((IntKind.i64.wrap (g0_Re - (iand .i64 (IntKind.i64.wrap (g0_Re + g0_Im)) (1 : Int)))) + g0_Im))).tdiv (2 : Int))), .int .i64 (IntKind.i64.wrap (((IntKind.i64.wrap (g0_Im - (IntKind.i64.wrap (g0_Re - (iand .i64 (IntKind.i64.wrap (g0_Re + g0_Im)) (1 : Int))))))).tdiv (2 : Int)))]]) hp [0] (by decide) (by simp) rfl
  exact ⟨rfl, ⟨_, hf.sub ⟨rfl, rfl, trivial⟩, hp⟩⟩

noncomputable def f_plane_Gauss_Class.s1c (depth1 : Int) (g2c_0 : Int) (g2c_1 : Int) (class6 : Int) (t21 : Int) : Option ((Int × Int × Int × Int) ⊕ Int) := (if (decide (t21 < depth1)) = true then ((f_plane_Gauss_half g2c_0 g2c_1).bind fun q10 => (if 0 ≤ t21 then (some (Sum.inl (q10.1.1, q10.1.2, (ior .u32 class6 (ishl .u32 q10.2 t21)), (IntKind.i64.wrap (t21 + (1 : Int)))))) else none)) else (some (Sum.inr class6)))
noncomputable def f_plane_Gauss_Class.s1 (depth1 : Int) (s : (Int × Int × Int × Int)) : Option ((Int × Int × Int × Int) ⊕ Int) := f_plane_Gauss_Class.s1c depth1 s.1 s.2.1 s.2.2.1 s.2.2.2
noncomputable def f_plane_Gauss_Class (g0_Re : Int) (g0_Im : Int) (depth1 : Int) : Option (Int × Int) := ((f_plane_Gauss_may g0_Re g0_Im).bind fun q3 => (if (((!q3) || (decide (depth1 < (0 : Int)))) || (decide ((30 : Int) < depth1))) = true then (some ((0 : Int), (1 : Int))) else ((loop (f_plane_Gauss_Class.s1 depth1) (g0_Re, g0_Im, (0 : Int), (0 : Int))).bind (fun q13 => (some (q13, (0 : Int)))))))
theorem f_plane_Gauss_Class_c {S : Nat → Prop} {w0 w : World} {ow : List Res} (hp : Hp S w0 w ow) (g0_Re : Int) (g0_Im : Int) (depth1 : Int) {r : (Int × Int)} (h : f_plane_Gauss_Class g0_Re g0_Im depth1 = some r) :
    Calls Try.prog 36 #[.agg #[.int .i64 g0_Re, .int .i64 g0_Im], .int .i64 depth1] w (fun e w' => e = .returned (.tuple #[.int .u32 r.1, .int .i64 r.2]) ∧ Hp S w0 w' (ow)) := by
  unfold f_plane_Gauss_Class at h
  refine enter (n := 36) (args := [.agg #[.int .i64 g0_Re, .int .i64 g0_Im], .int .i64 depth1]) Try.func36 rfl rfl (Nat.le_of_ble_eq_true rfl) fun a hf => ?_
  replace hf : Fr 36 a [(0, .agg #[.int .i64 g0_Re, .int .i64 g0_Im]), (1, .int .i64 depth1)] := hf
  refine wp_mono (Q := fun e a w => e = .ret ∧ Fr 36 a [(4, .int .u32 r.1), (5, .int .i64 r.2)] ∧ Hp S w0 w (ow)) ?_ ?_
  rotate_left
  · rintro e a w ⟨rfl, hf, hp⟩
    exact ret2 hf rfl rfl rfl ⟨rfl, hp⟩
  refine wp_seq ?_
  refine wp_reg ?_
  refine st_boxO (cs := [.int .i64 g0_Re, .int .i64 g0_Im]) hf (by decide) hp rfl rfl rfl ?_
  clear hf; intro a w v1 hf hp0; clear hp; have hp := hp0; clear hp0
  replace hp : Hp _ _ _ (Res.obj 56 v1 [.int .i64 g0_Re, .int .i64 g0_Im] :: ow) := hp
  refine st_assign hf rfl rfl (by decide) ?_
  clear hf; intro a ha hf; clear ha
  refine st_assign hf rfl rfl (by decide) ?_
  clear hf; intro a ha hf; clear ha
  refine st_nil hf ?_
  refine th_n ?_
  refine wp_seq ?_
  refine wp_seq ?_
  refine wp_reg ?_
  refine st_ldOA (m := 2) (us := [.int .i64 g0_Re, .int .i64 g0_Im]) hf (by decide) (by kernel_rfl) rfl rfl (hp.ob (i := 0) rfl) rfl rfl ?_
  clear hf; intro a ha hf; clear ha
  obtain ⟨q3, hcall4, h⟩ := bnd h
  refine st_call hf (by decide) Try.func55 rfl rfl rfl rfl rfl (f_plane_Gauss_may_c hp _ _ hcall4) ?_
  rintro _ w ⟨rfl, hp0⟩
  clear hp; have hp := hp0; clear hp0
  replace hp : Hp _ _ _ (Res.obj 56 v1 [.int .i64 g0_Re, .int .i64 g0_Im] :: ow) := hp
  refine ⟨_, rfl, ?_⟩
  clear hf; intro a hf
  refine st_not hf (by decide) rfl rfl ?_
  clear hf; intro a ha hf; clear ha
  refine st_move hf rfl rfl (by decide) ?_
  clear hf; intro a ha hf; clear ha
  refine wpList_cut 3 (fun a w => Fr 36 a [(1, .int .i64 depth1), (2, optr v1 0), (15, .bool ((!q3) || (decide (depth1 < (0 : Int)))))] ∧ Hp S w0 w (Res.obj 56 v1 [.int .i64 g0_Re, .int .i64 g0_Im] :: ow)) ?_ ?_
  · rcases Bool.eq_false_or_eq_true (!q3) with hb6 | hb6
    · skip
      refine st_skip hf (wantN hf rfl rfl hb6) rfl (by decide) ?_ rfl
      clear hf; intro a hf
      refine st_skip hf (wantN hf rfl rfl hb6) rfl (by decide) ?_ rfl
      clear hf; intro a hf
      refine st_pick (v := .bool true) hf rfl rfl (fun hb' => ?_) (fun hb' => ?_) (by decide) ?_
      · rfl
      · exact absurd (hb6.symm.trans hb') (by decide)
      clear hf; intro a ha hf; clear ha
      refine st_nil hf (th_n ?_)
      exact ⟨hf.sub ⟨rfl, rfl, (by rw [hb6]; rfl), trivial⟩, hp⟩
    refine st_move hf (wantY hf rfl rfl hb6) rfl (by decide) ?_
    clear hf; intro a ha hf; clear ha
    refine st_ilss hf (by decide) (wantY hf rfl rfl hb6) rfl rfl ?_
    clear hf; intro a ha hf; clear ha
    refine st_pick (v := .bool (decide (depth1 < (0 : Int)))) hf rfl rfl (fun hb' => ?_) (fun hb' => ?_) (by decide) ?_
    · exact absurd (hb6.symm.trans hb') (by decide)
    · rfl
    clear hf; intro a ha hf; clear ha
    refine st_nil hf (th_n ?_)
    exact ⟨hf.sub ⟨rfl, rfl, (by rw [hb6]; rfl), trivial⟩, hp⟩
  rintro a w ⟨hf, hp⟩
  refine st_move hf rfl rfl (by decide) ?_
  clear hf; intro a ha hf; clear ha
  refine wpList_cut 3 (fun a w => Fr 36 a [(1, .int .i64 depth1), (2, optr v1 0), (19, .bool (((!q3) || (decide (depth1 < (0 : Int)))) || (decide ((30 : Int) < depth1))))] ∧ Hp S w0 w (Res.obj 56 v1 [.int .i64 g0_Re, .int .i64 g0_Im] :: ow)) ?_ ?_
  · rcases Bool.eq_false_or_eq_true ((!q3) || (decide (depth1 < (0 : Int)))) with hb8 | hb8
    · skip
      refine st_skip hf (wantN hf rfl rfl hb8) rfl (by decide) ?_ rfl
      clear hf; intro a hf
      refine st_skip hf (wantN hf rfl rfl hb8) rfl (by decide) ?_ rfl
      clear hf; intro a hf
      refine st_pick (v := .bool true) hf rfl rfl (fun hb' => ?_) (fun hb' => ?_) (by decide) ?_
      · rfl
      · exact absurd (hb8.symm.trans hb') (by decide)
      clear hf; intro a ha hf; clear ha
      refine st_nil hf (th_n ?_)
      exact ⟨hf.sub ⟨rfl, rfl, (by rw [hb8]; rfl), trivial⟩, hp⟩
    refine st_move hf (wantY hf rfl rfl hb8) rfl (by decide) ?_
    clear hf; intro a ha hf; clear ha
    refine st_igtr hf (by decide) (wantY hf rfl rfl hb8) rfl rfl ?_
    clear hf; intro a ha hf; clear ha
    refine st_pick (v := .bool (decide ((30 : Int) < depth1))) hf rfl rfl (fun hb' => ?_) (fun hb' => ?_) (by decide) ?_
    · exact absurd (hb8.symm.trans hb') (by decide)
    · rfl
    clear hf; intro a ha hf; clear ha
    refine st_nil hf (th_n ?_)
    exact ⟨hf.sub ⟨rfl, rfl, (by rw [hb8]; rfl), trivial⟩, hp⟩
  rintro a w ⟨hf, hp⟩
  refine st_nil hf ?_
  refine th_n ?_
  refine wp_if hf rfl (fun hb => ?_) (fun hb => ?_)
  · replace h := ifT h hb
    refine wp_seq ?_
    refine wp_reg ?_
    refine st_assign hf rfl rfl (by decide) ?_
    clear hf; intro a ha hf; clear ha
    refine st_assign hf rfl rfl (by decide) ?_
    clear hf; intro a ha hf; clear ha
    refine st_nil hf ?_
    refine th_n ?_
    refine wp_ret ?_
    refine th_r ?_
    obtain rfl := Option.some.inj h
    have hp : Hp _ _ _ (ow) := Hp.sel (pre := [Res.obj 56 v1 [.int .i64 g0_Re, .int .i64 g0_Im]]) (tail := ow) (rs' := []) hp [] (by decide) (by simp) rfl
    exact ⟨rfl, ⟨hf.sub ⟨rfl, rfl, trivial⟩, hp⟩⟩
  replace h := ifF h hb
  refine wp_skip ?_
  refine th_n ?_
  refine wp_seq ?_
  refine wp_reg ?_
  refine st_assign hf rfl rfl (by decide) ?_
  clear hf; intro a ha hf; clear ha
  refine st_nil hf ?_
  refine th_n ?_
  refine wp_seq ?_
  refine wp_seq ?_
  refine wp_reg ?_
  refine st_move hf rfl rfl (by decide) ?_
  clear hf; intro a ha hf; clear ha
  refine st_move hf rfl rfl (by decide) ?_
  clear hf; intro a ha hf; clear ha
  refine st_nil hf ?_
  refine th_n ?_
  refine wp_block ?_
  obtain ⟨q13, hl, h⟩ := bnd h
  refine wp_loop_pure (f := (f_plane_Gauss_Class.s1 depth1)) (s := (g0_Re, g0_Im, (0 : Int), (0 : Int))) (fun s a w => Fr 36 a [(2, optr v1 0), (6, .int .u32 s.2.2.1), (20, .int .i64 depth1), (21, .int .i64 s.2.2.2)] ∧ Hp S w0 w (Res.obj 56 v1 [.int .i64 s.1, .int .i64 s.2.1] :: ow)) (fun q e a w => e = .exit 0 ∧ Fr 36 a [(6, .int .u32 q)] ∧ Hp S w0 w (ow)) ?_ hl ⟨hf.sub ⟨rfl, rfl, rfl, rfl, trivial⟩, hp⟩ ?_
  · clear hl hf hp
    intro s x a w h hI
    obtain ⟨g2c_0, g2c_1, class6, t21⟩ := s
    obtain ⟨hf, hp⟩ : Fr 36 a [(2, optr v1 0), (6, .int .u32 class6), (20, .int .i64 depth1), (21, .int .i64 t21)] ∧ Hp S w0 w (Res.obj 56 v1 [.int .i64 g2c_0, .int .i64 g2c_1] :: ow) := hI
    replace h : f_plane_Gauss_Class.s1c depth1 g2c_0 g2c_1 class6 t21 = some x := h
    unfold f_plane_Gauss_Class.s1c at h
    refine wp_seq ?_
    refine wp_reg ?_
    refine st_ilss hf (by decide) rfl rfl rfl ?_
    clear hf; intro a ha hf; clear ha
    refine st_nil hf ?_
    refine th_n ?_
    refine wp_seq ?_
    refine wp_if hf rfl (fun hb => ?_) (fun hb => ?_)
    · replace h := ifT h hb
      refine wp_skip ?_
      refine th_n ?_
      refine wp_seq ?_
      refine wp_block ?_
      refine wp_seq ?_
      refine wp_reg ?_
      refine st_move hf rfl rfl (by decide) ?_
      clear hf; intro a ha hf; clear ha
      refine st_assign hf rfl rfl (by decide) ?_
      clear hf; intro a ha hf; clear ha
      refine st_nil hf ?_
      refine th_n ?_
      refine wp_seq ?_
      refine wp_reg ?_
      refine st_assign hf rfl rfl (by decide) ?_
      clear hf; intro a ha hf; clear ha
      refine st_nil hf ?_
      refine th_n ?_
      refine wp_seq ?_
      refine wp_reg ?_
      refine st_ldOA (m := 2) (us := [.int .i64 g2c_0, .int .i64 g2c_1]) hf (by decide) (by kernel_rfl) rfl rfl (hp.ob (i := 0) rfl) rfl rfl ?_
      clear hf; intro a ha hf; clear ha
      obtain ⟨q10, hcall11, h⟩ := bnd h
      refine st_call hf (by decide) Try.func59 rfl rfl rfl rfl rfl (f_plane_Gauss_half_c hp _ _ hcall11) ?_
      rintro _ w ⟨rfl, hp0⟩
      clear hp; have hp := hp0; clear hp0
      replace hp : Hp _ _ _ (Res.obj 56 v1 [.int .i64 g2c_0, .int .i64 g2c_1] :: ow) := hp
      refine ⟨_, rfl, ?_⟩
      clear hf; intro a hf
      refine st_move hf rfl rfl (by decide) ?_
      clear hf; intro a ha hf; clear ha
      refine st_extract hf (by decide) rfl rfl rfl ?_
      clear hf; intro a ha hf; clear ha
      refine st_extract hf (by decide) rfl rfl rfl ?_
      clear hf; intro a ha hf; clear ha
      refine st_stO (us := [.int .i64 q10.1.1, .int .i64 q10.1.2]) hf hp (i := 0) rfl rfl rfl rfl rfl (by rfl) (by kernel_rfl) (Nat.le_of_ble_eq_true rfl) ?_
      clear hf; intro a w hf hp0; clear hp; have hp := hp0; clear hp0
      replace hp : Hp _ _ _ (Res.obj 56 v1 [.int .i64 q10.1.1, .int .i64 q10.1.2] :: ow) := hp
      refine st_assign hf rfl rfl (by decide) ?_
      clear hf; intro a ha hf; clear ha
      refine st_nil hf ?_
      refine th_n ?_
      refine wp_reg ?_
      refine st_move hf rfl rfl (by decide) ?_
      clear hf; intro a ha hf; clear ha
      refine st_move hf rfl rfl (by decide) ?_
      clear hf; intro a ha hf; clear ha
      refine st_move hf rfl rfl (by decide) ?_
      clear hf; intro a ha hf; clear ha
      obtain ⟨hc12, h⟩ := chk h
      refine st_ishl hf (by decide) rfl rfl rfl hc12 ?_
      clear hf; intro a ha hf; clear ha
      refine st_ior hf (by decide) rfl rfl rfl ?_
      clear hf; intro a ha hf; clear ha
      refine st_assign hf rfl rfl (by decide) ?_
      clear hf; intro a ha hf; clear ha
      refine st_nil hf ?_
      refine ib_n ?_
      refine th_n ?_
      refine wp_reg ?_
      refine st_iadd hf (by decide) rfl rfl rfl ?_
      clear hf; intro a ha hf; clear ha
      refine st_move hf rfl rfl (by decide) ?_
      clear hf; intro a ha hf; clear ha
      refine st_nil hf ?_
      obtain rfl := Option.some.inj h
      exact rnd_l ⟨hf.sub ⟨rfl, rfl, rfl, rfl, trivial⟩, hp⟩
    replace h := ifF h hb
    refine wp_exit ?_
    refine th_e ?_
    obtain rfl := Option.some.inj h
    have hp : Hp _ _ _ (ow) := Hp.sel (pre := [Res.obj 56 v1 [.int .i64 g2c_0, .int .i64 g2c_1]]) (tail := ow) (rs' := []) hp [] (by decide) (by simp) rfl
    exact rnd_r (by simp) ⟨rfl, hf.sub ⟨rfl, trivial⟩, hp⟩
  clear hl hf hp
  intro e a w hne hO
  obtain ⟨rfl, hf, hp⟩ := hO
  refine ib_same ?_
  refine th_n ?_
  refine wp_seq ?_
  refine wp_reg ?_
  refine st_move hf rfl rfl (by decide) ?_
  clear hf; intro a ha hf; clear ha
  refine st_assign hf rfl rfl (by decide) ?_
  clear hf; intro a ha hf; clear ha
  refine st_assign hf rfl rfl (by decide) ?_
  clear hf; intro a ha hf; clear ha
  refine st_nil hf ?_
  refine th_n ?_
  refine wp_ret ?_
  obtain rfl := Option.some.inj h
  exact ⟨rfl, ⟨hf.sub ⟨rfl, rfl, trivial⟩, hp⟩⟩

noncomputable def f_foghornlaw03_awake  : Option Bool := ((f_plane_Gauss_Class (3 : Int) (2 : Int) (3 : Int)).bind fun q1 => ((f_plane_Mul (Fl.bits 4607182418800017408, Fl.bits 4611686018427387904) (Fl.bits 4613937818241073152, Fl.bits 13830554455654793216)).bind fun q3 => ((if (ceq q3 (Fl.bits 4617315517961601024, Fl.bits 4617315517961601024)) = true then ((f_plane_Turn (Fl.bits 4607182418800017408, Fl.bits 4611686018427387904) (1 : Int)).bind fun q12 => (some (ceq q12 (Fl.bits 13835058055282163712, Fl.bits 4607182418800017408)))) else (some false)).bind fun z11 => (some ((z11 && (q1.2 == (0 : Int))) && (q1.1 == (1 : Int)))))))
theorem f_foghornlaw03_awake_c {S : Nat → Prop} {w0 w : World} {ow : List Res} (hp : Hp S w0 w ow) {r : Bool} (h : f_foghornlaw03_awake = some r) :
    Calls Try.prog 24 #[] w (fun e w' => e = .returned (.bool r) ∧ Hp S w0 w' (ow)) := by
  unfold f_foghornlaw03_awake at h
  refine enter (n := 22) (args := []) Try.func24 rfl rfl (Nat.le_of_ble_eq_true rfl) fun a hf => ?_
  replace hf : Fr 22 a [] := hf
  refine wp_mono (Q := fun e a w => e = .ret ∧ Fr 22 a [(0, .bool r)] ∧ Hp S w0 w (ow)) ?_ ?_
  rotate_left
  · rintro e a w ⟨rfl, hf, hp⟩
    exact ret1 hf rfl rfl ⟨rfl, hp⟩
  refine wp_seq ?_
  refine wp_reg ?_
  refine st_assign hf rfl rfl (by decide) ?_
  clear hf; intro a ha hf; clear ha
  refine st_nil hf ?_
  refine th_n ?_
  refine wp_seq ?_
  refine wp_reg ?_
  refine st_buildA (vals := [(0, .int .i64 (3 : Int)), (1, .int .i64 (2 : Int))]) (cells := [.int .i64 (3 : Int), .int .i64 (2 : Int)]) hf (by decide) rfl (by simp [hf.ev (x := (Operand.const (.int .i64 (3 : Int)))) rfl, hf.ev (x := (Operand.const (.int .i64 (2 : Int)))) rfl]) (fun w => by kernel_rfl) ?_
  clear hf; intro a ha hf; clear ha
  obtain ⟨q1, hcall2, h⟩ := bnd h
  refine st_call hf (by decide) Try.func36 rfl rfl rfl rfl rfl (f_plane_Gauss_Class_c hp _ _ _ hcall2) ?_
  rintro _ w ⟨rfl, hp0⟩
  clear hp; have hp := hp0; clear hp0
  replace hp : Hp _ _ _ (ow) := hp
  refine ⟨_, rfl, ?_⟩
  clear hf; intro a hf
  refine st_move hf rfl rfl (by decide) ?_
  clear hf; intro a ha hf; clear ha
  refine st_extract hf (by decide) rfl rfl rfl ?_
  clear hf; intro a ha hf; clear ha
  refine st_extract hf (by decide) rfl rfl rfl ?_
  clear hf; intro a ha hf; clear ha
  refine st_assign hf rfl rfl (by decide) ?_
  clear hf; intro a ha hf; clear ha
  refine st_assign hf rfl rfl (by decide) ?_
  clear hf; intro a ha hf; clear ha
  refine st_nil hf ?_
  refine th_n ?_
  refine wp_seq ?_
  refine wp_reg ?_
  obtain ⟨q3, hcall4, h⟩ := bnd h
  refine st_call hf (by decide) Try.func13 rfl rfl rfl rfl rfl (f_plane_Mul_c hp _ _ _ (show Fl.rep 4607182418800017408 ((Fl.bits 4607182418800017408, Fl.bits 4611686018427387904)).1 from rfl) (show Fl.rep 4611686018427387904 ((Fl.bits 4607182418800017408, Fl.bits 4611686018427387904)).2 from rfl) _ _ _ (show Fl.rep 4613937818241073152 ((Fl.bits 4613937818241073152, Fl.bits 13830554455654793216)).1 from rfl) (show Fl.rep 13830554455654793216 ((Fl.bits 4613937818241073152, Fl.bits 13830554455654793216)).2 from rfl) hcall4) ?_
  rintro _ w ⟨v5, v6, rfl, y7, y8, hp0⟩
  clear hp; have hp := hp0; clear hp0
  replace hp : Hp _ _ _ (ow) := hp
  refine ⟨_, rfl, ?_⟩
  clear hf; intro a hf
  refine st_ccmp (r_ceq (x := q3) (y := (Fl.bits 4617315517961601024, Fl.bits 4617315517961601024)) y7 y8 rfl rfl) hf (by decide) rfl rfl rfl ?_
  clear hf; intro a ha hf; clear ha
  refine st_move hf rfl rfl (by decide) ?_
  clear hf; intro a ha hf; clear ha
  obtain ⟨z11, hz9, h⟩ := bnd h
  refine wpList_cut 3 (fun a w => Fr 22 a [(1, .int .u32 q1.1), (2, .int .i64 q1.2), (13, .bool z11)] ∧ Hp S w0 w (ow)) ?_ ?_
  · rcases Bool.eq_false_or_eq_true (ceq q3 (Fl.bits 4617315517961601024, Fl.bits 4617315517961601024)) with hb10 | hb10
    · skip
      replace hz9 := ifT hz9 hb10
      obtain ⟨q12, hcall13, hz9⟩ := bnd hz9
      refine st_call hf (by decide) Try.func15 rfl rfl (wantY hf rfl rfl hb10) rfl rfl (f_plane_Turn_c hp _ _ _ (show Fl.rep 4607182418800017408 ((Fl.bits 4607182418800017408, Fl.bits 4611686018427387904)).1 from rfl) (show Fl.rep 4611686018427387904 ((Fl.bits 4607182418800017408, Fl.bits 4611686018427387904)).2 from rfl) _ hcall13) ?_
      rintro _ w ⟨v14, v15, rfl, y16, y17, hp0⟩
      clear hp; have hp := hp0; clear hp0
      replace hp : Hp _ _ _ (ow) := hp
      refine ⟨_, rfl, ?_⟩
      clear hf; intro a hf
      refine st_ccmp (r_ceq (x := q12) (y := (Fl.bits 13835058055282163712, Fl.bits 4607182418800017408)) y16 y17 rfl rfl) hf (by decide) (wantY hf rfl rfl hb10) rfl rfl ?_
      clear hf; intro a ha hf; clear ha
      obtain rfl := Option.some.inj hz9
      refine st_pick (v := .bool (ceq q12 (Fl.bits 13835058055282163712, Fl.bits 4607182418800017408))) hf rfl rfl (fun hb' => ?_) (fun hb' => ?_) (by decide) ?_
      · rfl
      · exact absurd (hb10.symm.trans hb') (by decide)
      clear hf; intro a ha hf; clear ha
      refine st_nil hf (th_n ?_)
      exact ⟨hf.sub ⟨rfl, rfl, rfl, trivial⟩, hp⟩
    replace hz9 := ifF hz9 hb10
    refine st_skip hf (wantN hf rfl rfl hb10) rfl (by decide) ?_ rfl
    clear hf; intro a hf
    refine st_skip hf (wantN hf rfl rfl hb10) rfl (by decide) ?_ rfl
    clear hf; intro a hf
    obtain rfl := Option.some.inj hz9
    refine st_pick (v := .bool false) hf rfl rfl (fun hb' => ?_) (fun hb' => ?_) (by decide) ?_
    · exact absurd (hb10.symm.trans hb') (by decide)
    · rfl
    clear hf; intro a ha hf; clear ha
    refine st_nil hf (th_n ?_)
    exact ⟨hf.sub ⟨rfl, rfl, rfl, trivial⟩, hp⟩
  rintro a w ⟨hf, hp⟩
  refine st_move hf rfl rfl (by decide) ?_
  clear hf; intro a ha hf; clear ha
  refine wpList_cut 3 (fun a w => Fr 22 a [(1, .int .u32 q1.1), (17, .bool (z11 && (q1.2 == (0 : Int))))] ∧ Hp S w0 w (ow)) ?_ ?_
  · rcases Bool.eq_false_or_eq_true z11 with hb19 | hb19
    · skip
      refine st_move hf (wantY hf rfl rfl hb19) rfl (by decide) ?_
      clear hf; intro a ha hf; clear ha
      refine st_ieql hf (by decide) (wantY hf rfl rfl hb19) rfl rfl ?_
      clear hf; intro a ha hf; clear ha
      refine st_pick (v := .bool (q1.2 == (0 : Int))) hf rfl rfl (fun hb' => ?_) (fun hb' => ?_) (by decide) ?_
      · rfl
      · exact absurd (hb19.symm.trans hb') (by decide)
      clear hf; intro a ha hf; clear ha
      refine st_nil hf (th_n ?_)
      exact ⟨hf.sub ⟨rfl, (by rw [hb19]; rfl), trivial⟩, hp⟩
    refine st_skip hf (wantN hf rfl rfl hb19) rfl (by decide) ?_ rfl
    clear hf; intro a hf
    refine st_skip hf (wantN hf rfl rfl hb19) rfl (by decide) ?_ rfl
    clear hf; intro a hf
    refine st_pick (v := .bool false) hf rfl rfl (fun hb' => ?_) (fun hb' => ?_) (by decide) ?_
    · exact absurd (hb19.symm.trans hb') (by decide)
    · rfl
    clear hf; intro a ha hf; clear ha
    refine st_nil hf (th_n ?_)
    exact ⟨hf.sub ⟨rfl, (by rw [hb19]; rfl), trivial⟩, hp⟩
  rintro a w ⟨hf, hp⟩
  refine st_move hf rfl rfl (by decide) ?_
  clear hf; intro a ha hf; clear ha
  refine wpList_cut 3 (fun a w => Fr 22 a [(21, .bool ((z11 && (q1.2 == (0 : Int))) && (q1.1 == (1 : Int))))] ∧ Hp S w0 w (ow)) ?_ ?_
  · rcases Bool.eq_false_or_eq_true (z11 && (q1.2 == (0 : Int))) with hb21 | hb21
    · skip
      refine st_move hf (wantY hf rfl rfl hb21) rfl (by decide) ?_
      clear hf; intro a ha hf; clear ha
      refine st_ieql hf (by decide) (wantY hf rfl rfl hb21) rfl rfl ?_
      clear hf; intro a ha hf; clear ha
      refine st_pick (v := .bool (q1.1 == (1 : Int))) hf rfl rfl (fun hb' => ?_) (fun hb' => ?_) (by decide) ?_
      · rfl
      · exact absurd (hb21.symm.trans hb') (by decide)
      clear hf; intro a ha hf; clear ha
      refine st_nil hf (th_n ?_)
      exact ⟨hf.sub ⟨(by rw [hb21]; rfl), trivial⟩, hp⟩
    refine st_skip hf (wantN hf rfl rfl hb21) rfl (by decide) ?_ rfl
    clear hf; intro a hf
    refine st_skip hf (wantN hf rfl rfl hb21) rfl (by decide) ?_ rfl
    clear hf; intro a hf
    refine st_pick (v := .bool false) hf rfl rfl (fun hb' => ?_) (fun hb' => ?_) (by decide) ?_
    · exact absurd (hb21.symm.trans hb') (by decide)
    · rfl
    clear hf; intro a ha hf; clear ha
    refine st_nil hf (th_n ?_)
    exact ⟨hf.sub ⟨(by rw [hb21]; rfl), trivial⟩, hp⟩
  rintro a w ⟨hf, hp⟩
  refine st_assign hf rfl rfl (by decide) ?_
  clear hf; intro a ha hf; clear ha
  refine st_nil hf ?_
  refine th_n ?_
  refine wp_ret ?_
  obtain rfl := Option.some.inj h
  exact ⟨rfl, ⟨hf.sub ⟨rfl, trivial⟩, hp⟩⟩

noncomputable def f_foghornlaw03_PlaneRing (xx0_A_0 : Int) (xx0_A_1 : Int) (xx0_B_0 : Int) (xx0_B_1 : Int) (xx0_C_0 : Int) (xx0_C_1 : Int) (xx0_N : Int) (xx0_M : Int) : Option Bool := ((f_foghornlaw03_small xx0_A_0 xx0_A_1).bind fun q3 => ((f_foghornlaw03_small xx0_B_0 xx0_B_1).bind fun q9 => ((f_foghornlaw03_small xx0_C_0 xx0_C_1).bind fun q15 => ((f_plane_Mul q3 q9).bind fun q21 => ((f_plane_Mul q9 q3).bind fun q27 => ((if (!ceq q21 q27) = true then (some true) else ((f_plane_Mul q21 q15).bind fun q36 => ((f_plane_Mul q9 q15).bind fun q42 => ((f_plane_Mul q3 q42).bind fun q48 => (some (!ceq q36 q48)))))).bind fun z35 => ((if z35 = true then (some true) else ((f_plane_Sum ([q9, q15])).bind fun q59 => ((f_plane_Mul q3 q59).bind fun q70 => ((f_plane_Mul q3 q15).bind fun q76 => ((f_plane_Sum ([q21, q76])).bind fun q84 => (some (!ceq q70 q84))))))).bind fun z56 => (if z56 = true then (some false) else ((f_plane_Turn q3 ((xx0_N).tmod (1073741824 : Int))).bind fun q95 => ((f_plane_Mul q95 q9).bind fun q101 => ((f_plane_Turn q21 ((xx0_N).tmod (1073741824 : Int))).bind fun q107 => ((if (!ceq q101 q107) = true then (some true) else ((f_plane_Turn q3 ((xx0_N).tmod (1073741824 : Int))).bind fun q116 => ((f_plane_Turn q9 ((xx0_N).tmod (1073741824 : Int))).bind fun q122 => ((f_plane_Sum ([q116, q122])).bind fun q130 => ((f_plane_Sum ([q3, q9])).bind fun q143 => ((f_plane_Turn q143 ((xx0_N).tmod (1073741824 : Int))).bind fun q154 => (some (!ceq q130 q154)))))))).bind fun z115 => ((if z115 = true then (some true) else ((f_plane_Turn q3 ((xx0_N).tmod (1073741824 : Int))).bind fun q163 => ((f_plane_Turn q163 ((xx0_M).tmod (1073741824 : Int))).bind fun q169 => ((f_plane_Turn q3 (IntKind.i64.wrap (((xx0_N).tmod (1073741824 : Int)) + ((xx0_M).tmod (1073741824 : Int))))).bind fun q175 => (some (!ceq q169 q175)))))).bind fun z162 => ((if z162 = true then (some true) else ((f_plane_Turn q3 (IntKind.i64.wrap ((4 : Int) * ((((xx0_N).tmod (1073741824 : Int))).tmod (9 : Int))))).bind fun q184 => (some (!ceq q184 q3)))).bind fun z183 => (if z183 = true then (some false) else ((f_plane_Norm q21).bind fun q190 => ((f_plane_Norm q3).bind fun q194 => ((f_plane_Norm q9).bind fun q198 => ((if (feq q190 (fmul q194 q198)) = true then ((f_plane_Conj q3).bind fun q207 => ((f_plane_Mul q3 q207).bind fun q213 => ((f_plane_Norm q3).bind fun q219 => (some (ceq q213 (q219, (Fl.bits 0))))))) else (some false)).bind fun z206 => ((if z206 = true then ((f_plane_Apart q3 q9).bind fun q226 => ((f_plane_Apart q9 q3).bind fun q230 => (some (feq q226 q230)))) else (some false)).bind fun z225 => ((if z225 = true then ((f_plane_Conj q21).bind fun q237 => ((f_plane_Conj q3).bind fun q243 => ((f_plane_Conj q9).bind fun q249 => ((f_plane_Mul q243 q249).bind fun q255 => (some (ceq q237 q255)))))) else (some false)).bind fun z236 => ((if z236 = true then ((f_foghornlaw03_awake).bind fun q264 => (some q264)) else (some false)).bind fun z263 => (some z263)))))))))))))))))))))))
theorem f_foghornlaw03_PlaneRing_c {S : Nat → Prop} {w0 w : World} {ow : List Res} (hp : Hp S w0 w ow) (xx0_A_0 : Int) (xx0_A_1 : Int) (xx0_B_0 : Int) (xx0_B_1 : Int) (xx0_C_0 : Int) (xx0_C_1 : Int) (xx0_N : Int) (xx0_M : Int) {r : Bool} (h : f_foghornlaw03_PlaneRing xx0_A_0 xx0_A_1 xx0_B_0 xx0_B_1 xx0_C_0 xx0_C_1 xx0_N xx0_M = some r) :
    Calls Try.prog 4 #[.agg #[.int .i16 xx0_A_0, .int .i16 xx0_A_1, .int .i16 xx0_B_0, .int .i16 xx0_B_1, .int .i16 xx0_C_0, .int .i16 xx0_C_1, .int .i64 xx0_N, .int .i64 xx0_M]] w (fun e w' => e = .returned (.bool r) ∧ Hp S w0 w' (ow)) := by
  unfold f_foghornlaw03_PlaneRing at h
  refine enter (n := 158) (args := [.agg #[.int .i16 xx0_A_0, .int .i16 xx0_A_1, .int .i16 xx0_B_0, .int .i16 xx0_B_1, .int .i16 xx0_C_0, .int .i16 xx0_C_1, .int .i64 xx0_N, .int .i64 xx0_M]]) Try.func4 rfl rfl (Nat.le_of_ble_eq_true rfl) fun a hf => ?_
  replace hf : Fr 158 a [(0, .agg #[.int .i16 xx0_A_0, .int .i16 xx0_A_1, .int .i16 xx0_B_0, .int .i16 xx0_B_1, .int .i16 xx0_C_0, .int .i16 xx0_C_1, .int .i64 xx0_N, .int .i64 xx0_M])] := hf
  refine wp_mono (Q := fun e a w => e = .ret ∧ Fr 158 a [(2, .bool r)] ∧ Hp S w0 w (ow)) ?_ ?_
  rotate_left
  · rintro e a w ⟨rfl, hf, hp⟩
    exact ret1 hf rfl rfl ⟨rfl, hp⟩
  refine wp_seq ?_
  refine wp_reg ?_
  refine st_boxO (cs := [.int .i16 xx0_A_0, .int .i16 xx0_A_1, .int .i16 xx0_B_0, .int .i16 xx0_B_1, .int .i16 xx0_C_0, .int .i16 xx0_C_1, .int .i64 xx0_N, .int .i64 xx0_M]) hf (by decide) hp rfl rfl rfl ?_
  clear hf; intro a w v1 hf hp0; clear hp; have hp := hp0; clear hp0
  replace hp : Hp _ _ _ (Res.obj 38 v1 [.int .i16 xx0_A_0, .int .i16 xx0_A_1, .int .i16 xx0_B_0, .int .i16 xx0_B_1, .int .i16 xx0_C_0, .int .i16 xx0_C_1, .int .i64 xx0_N, .int .i64 xx0_M] :: ow) := hp
  refine st_assign hf rfl rfl (by decide) ?_
  clear hf; intro a ha hf; clear ha
  refine st_nil hf ?_
  refine th_n ?_
  refine wp_seq ?_
  refine wp_reg ?_
  refine st_fa (o' := 0) hf (by decide) (off := 0) (sz := 2) (by kernel_rfl) (by decide) rfl rfl (hp.ob (i := 0) rfl) rfl ?_
  clear hf; intro a ha hf; clear ha
  refine st_ia (o' := 0) hf (by decide) Try.underlying36 (sz := 1) (by kernel_rfl) rfl rfl rfl (hp.ob (i := 0) rfl) (by decide) (by decide) rfl ?_
  clear hf; intro a ha hf; clear ha
  refine st_ldO (u := .int .i16 xx0_A_0) hf (by decide) pl35 rfl rfl (hp.ob (i := 0) rfl) rfl ?_
  clear hf; intro a ha hf; clear ha
  refine st_fa (o' := 0) hf (by decide) (off := 0) (sz := 2) (by kernel_rfl) (by decide) rfl rfl (hp.ob (i := 0) rfl) rfl ?_
  clear hf; intro a ha hf; clear ha
  refine st_ia (o' := 1) hf (by decide) Try.underlying36 (sz := 1) (by kernel_rfl) rfl rfl rfl (hp.ob (i := 0) rfl) (by decide) (by decide) rfl ?_
  clear hf; intro a ha hf; clear ha
  refine st_ldO (u := .int .i16 xx0_A_1) hf (by decide) pl35 rfl rfl (hp.ob (i := 0) rfl) rfl ?_
  clear hf; intro a ha hf; clear ha
  obtain ⟨q3, hcall4, h⟩ := bnd h
  refine st_call hf (by decide) Try.func25 rfl rfl rfl rfl rfl (f_foghornlaw03_small_c hp _ _ hcall4) ?_
  rintro _ w ⟨v5, v6, rfl, y7, y8, hp0⟩
  clear hp; have hp := hp0; clear hp0
  replace hp : Hp _ _ _ (Res.obj 38 v1 [.int .i16 xx0_A_0, .int .i16 xx0_A_1, .int .i16 xx0_B_0, .int .i16 xx0_B_1, .int .i16 xx0_C_0, .int .i16 xx0_C_1, .int .i64 xx0_N, .int .i64 xx0_M] :: ow) := hp
  refine ⟨_, rfl, ?_⟩
  clear hf; intro a hf
  refine st_assign hf rfl rfl (by decide) ?_
  clear hf; intro a ha hf; clear ha
  refine st_nil hf ?_
  refine th_n ?_
  refine wp_seq ?_
  refine wp_reg ?_
  refine st_fa (o' := 2) hf (by decide) (off := 2) (sz := 2) (by kernel_rfl) (by decide) rfl rfl (hp.ob (i := 0) rfl) rfl ?_
  clear hf; intro a ha hf; clear ha
  refine st_ia (o' := 2) hf (by decide) Try.underlying36 (sz := 1) (by kernel_rfl) rfl rfl rfl (hp.ob (i := 0) rfl) (by decide) (by decide) rfl ?_
  clear hf; intro a ha hf; clear ha
  refine st_ldO (u := .int .i16 xx0_B_0) hf (by decide) pl35 rfl rfl (hp.ob (i := 0) rfl) rfl ?_
  clear hf; intro a ha hf; clear ha
  refine st_fa (o' := 2) hf (by decide) (off := 2) (sz := 2) (by kernel_rfl) (by decide) rfl rfl (hp.ob (i := 0) rfl) rfl ?_
  clear hf; intro a ha hf; clear ha
  refine st_ia (o' := 3) hf (by decide) Try.underlying36 (sz := 1) (by kernel_rfl) rfl rfl rfl (hp.ob (i := 0) rfl) (by decide) (by decide) rfl ?_
  clear hf; intro a ha hf; clear ha
  refine st_ldO (u := .int .i16 xx0_B_1) hf (by decide) pl35 rfl rfl (hp.ob (i := 0) rfl) rfl ?_
  clear hf; intro a ha hf; clear ha
  obtain ⟨q9, hcall10, h⟩ := bnd h
  refine st_call hf (by decide) Try.func25 rfl rfl rfl rfl rfl (f_foghornlaw03_small_c hp _ _ hcall10) ?_
  rintro _ w ⟨v11, v12, rfl, y13, y14, hp0⟩
  clear hp; have hp := hp0; clear hp0
  replace hp : Hp _ _ _ (Res.obj 38 v1 [.int .i16 xx0_A_0, .int .i16 xx0_A_1, .int .i16 xx0_B_0, .int .i16 xx0_B_1, .int .i16 xx0_C_0, .int .i16 xx0_C_1, .int .i64 xx0_N, .int .i64 xx0_M] :: ow) := hp
  refine ⟨_, rfl, ?_⟩
  clear hf; intro a hf
  refine st_assign hf rfl rfl (by decide) ?_
  clear hf; intro a ha hf; clear ha
  refine st_nil hf ?_
  refine th_n ?_
  refine wp_seq ?_
  refine wp_reg ?_
  refine st_fa (o' := 4) hf (by decide) (off := 4) (sz := 2) (by kernel_rfl) (by decide) rfl rfl (hp.ob (i := 0) rfl) rfl ?_
  clear hf; intro a ha hf; clear ha
  refine st_ia (o' := 4) hf (by decide) Try.underlying36 (sz := 1) (by kernel_rfl) rfl rfl rfl (hp.ob (i := 0) rfl) (by decide) (by decide) rfl ?_
  clear hf; intro a ha hf; clear ha
  refine st_ldO (u := .int .i16 xx0_C_0) hf (by decide) pl35 rfl rfl (hp.ob (i := 0) rfl) rfl ?_
  clear hf; intro a ha hf; clear ha
  refine st_fa (o' := 4) hf (by decide) (off := 4) (sz := 2) (by kernel_rfl) (by decide) rfl rfl (hp.ob (i := 0) rfl) rfl ?_
  clear hf; intro a ha hf; clear ha
  refine st_ia (o' := 5) hf (by decide) Try.underlying36 (sz := 1) (by kernel_rfl) rfl rfl rfl (hp.ob (i := 0) rfl) (by decide) (by decide) rfl ?_
  clear hf; intro a ha hf; clear ha
  refine st_ldO (u := .int .i16 xx0_C_1) hf (by decide) pl35 rfl rfl (hp.ob (i := 0) rfl) rfl ?_
  clear hf; intro a ha hf; clear ha
  obtain ⟨q15, hcall16, h⟩ := bnd h
  refine st_call hf (by decide) Try.func25 rfl rfl rfl rfl rfl (f_foghornlaw03_small_c hp _ _ hcall16) ?_
  rintro _ w ⟨v17, v18, rfl, y19, y20, hp0⟩
  clear hp; have hp := hp0; clear hp0
  replace hp : Hp _ _ _ (Res.obj 38 v1 [.int .i16 xx0_A_0, .int .i16 xx0_A_1, .int .i16 xx0_B_0, .int .i16 xx0_B_1, .int .i16 xx0_C_0, .int .i16 xx0_C_1, .int .i64 xx0_N, .int .i64 xx0_M] :: ow) := hp
  refine ⟨_, rfl, ?_⟩
  clear hf; intro a hf
  refine st_assign hf rfl rfl (by decide) ?_
  clear hf; intro a ha hf; clear ha
  refine st_nil hf ?_
  refine th_n ?_
  refine wp_seq ?_
  refine wp_reg ?_
  refine st_fa (o' := 6) hf (by decide) (off := 6) (sz := 1) (by kernel_rfl) (by decide) rfl rfl (hp.ob (i := 0) rfl) rfl ?_
  clear hf; intro a ha hf; clear ha
  refine st_ldO (u := .int .i64 xx0_N) hf (by decide) pl3 rfl rfl (hp.ob (i := 0) rfl) rfl ?_
  clear hf; intro a ha hf; clear ha
  refine st_irem hf (by decide) rfl rfl rfl (by decide) ?_
  clear hf; intro a ha hf; clear ha
  refine st_assign hf rfl rfl (by decide) ?_
  clear hf; intro a ha hf; clear ha
  refine st_nil hf ?_
  refine th_n ?_
  refine wp_seq ?_
  refine wp_reg ?_
  refine st_fa (o' := 7) hf (by decide) (off := 7) (sz := 1) (by kernel_rfl) (by decide) rfl rfl (hp.ob (i := 0) rfl) rfl ?_
  clear hf; intro a ha hf; clear ha
  refine st_ldO (u := .int .i64 xx0_M) hf (by decide) pl3 rfl rfl (hp.ob (i := 0) rfl) rfl ?_
  clear hf; intro a ha hf; clear ha
  refine st_irem hf (by decide) rfl rfl rfl (by decide) ?_
  clear hf; intro a ha hf; clear ha
  refine st_assign hf rfl rfl (by decide) ?_
  clear hf; intro a ha hf; clear ha
  refine st_nil hf ?_
  refine th_n ?_
  refine wp_seq ?_
  refine wp_reg ?_
  refine st_move hf rfl rfl (by decide) ?_
  clear hf; intro a ha hf; clear ha
  refine st_move hf rfl rfl (by decide) ?_
  clear hf; intro a ha hf; clear ha
  obtain ⟨q21, hcall22, h⟩ := bnd h
  refine st_call hf (by decide) Try.func13 rfl rfl rfl rfl rfl (f_plane_Mul_c hp _ _ _ (show Fl.rep v5 (q3).1 from y7) (show Fl.rep v6 (q3).2 from y8) _ _ _ (show Fl.rep v11 (q9).1 from y13) (show Fl.rep v12 (q9).2 from y14) hcall22) ?_
  rintro _ w ⟨v23, v24, rfl, y25, y26, hp0⟩
  clear hp; have hp := hp0; clear hp0
  replace hp : Hp _ _ _ (Res.obj 38 v1 [.int .i16 xx0_A_0, .int .i16 xx0_A_1, .int .i16 xx0_B_0, .int .i16 xx0_B_1, .int .i16 xx0_C_0, .int .i16 xx0_C_1, .int .i64 xx0_N, .int .i64 xx0_M] :: ow) := hp
  refine ⟨_, rfl, ?_⟩
  clear hf; intro a hf
  refine st_assign hf rfl rfl (by decide) ?_
  clear hf; intro a ha hf; clear ha
  refine st_nil hf ?_
  refine th_n ?_
  refine wp_seq ?_
  refine wp_seq ?_
  refine wp_reg ?_
  refine st_move hf rfl rfl (by decide) ?_
  clear hf; intro a ha hf; clear ha
  refine st_move hf rfl rfl (by decide) ?_
  clear hf; intro a ha hf; clear ha
  refine st_move hf rfl rfl (by decide) ?_
  clear hf; intro a ha hf; clear ha
  obtain ⟨q27, hcall28, h⟩ := bnd h
  refine st_call hf (by decide) Try.func13 rfl rfl rfl rfl rfl (f_plane_Mul_c hp _ _ _ (show Fl.rep v11 (q9).1 from y13) (show Fl.rep v12 (q9).2 from y14) _ _ _ (show Fl.rep v5 (q3).1 from y7) (show Fl.rep v6 (q3).2 from y8) hcall28) ?_
  rintro _ w ⟨v29, v30, rfl, y31, y32, hp0⟩
  clear hp; have hp := hp0; clear hp0
  replace hp : Hp _ _ _ (Res.obj 38 v1 [.int .i16 xx0_A_0, .int .i16 xx0_A_1, .int .i16 xx0_B_0, .int .i16 xx0_B_1, .int .i16 xx0_C_0, .int .i16 xx0_C_1, .int .i64 xx0_N, .int .i64 xx0_M] :: ow) := hp
  refine ⟨_, rfl, ?_⟩
  clear hf; intro a hf
  refine st_ccmp (r_cne (x := q21) (y := q27) y25 y26 y31 y32) hf (by decide) rfl rfl rfl ?_
  clear hf; intro a ha hf; clear ha
  refine st_move hf rfl rfl (by decide) ?_
  clear hf; intro a ha hf; clear ha
  obtain ⟨z35, hz33, h⟩ := bnd h
  refine wpList_cut 10 (fun a w => Fr 158 a [(3, .complex .f64 v5 v6), (4, .complex .f64 v11 v12), (5, .complex .f64 v17 v18), (6, .int .i64 ((xx0_N).tmod (1073741824 : Int))), (7, .int .i64 ((xx0_M).tmod (1073741824 : Int))), (8, .complex .f64 v23 v24), (54, .bool z35)] ∧ Hp S w0 w (Res.obj 38 v1 [.int .i16 xx0_A_0, .int .i16 xx0_A_1, .int .i16 xx0_B_0, .int .i16 xx0_B_1, .int .i16 xx0_C_0, .int .i16 xx0_C_1, .int .i64 xx0_N, .int .i64 xx0_M] :: ow)) ?_ ?_
  · rcases Bool.eq_false_or_eq_true (!ceq q21 q27) with hb34 | hb34
    · skip
      replace hz33 := ifT hz33 hb34
      refine st_skip hf (wantN hf rfl rfl hb34) rfl (by decide) ?_ rfl
      clear hf; intro a hf
      refine st_skip hf (wantN hf rfl rfl hb34) rfl (by decide) ?_ rfl
      clear hf; intro a hf
      refine st_skip hf (wantN hf rfl rfl hb34) rfl (by decide) ?_ rfl
      clear hf; intro a hf
      refine st_skip hf (wantN hf rfl rfl hb34) rfl (by decide) ?_ rfl
      clear hf; intro a hf
      refine st_skip hf (wantN hf rfl rfl hb34) rfl (by decide) ?_ rfl
      clear hf; intro a hf
      refine st_skip hf (wantN hf rfl rfl hb34) rfl (by decide) ?_ rfl
      clear hf; intro a hf
      refine st_skip hf (wantN hf rfl rfl hb34) rfl (by decide) ?_ rfl
      clear hf; intro a hf
      refine st_skip hf (wantN hf rfl rfl hb34) rfl (by decide) ?_ rfl
      clear hf; intro a hf
      refine st_skip hf (wantN hf rfl rfl hb34) rfl (by decide) ?_ rfl
      clear hf; intro a hf
      obtain rfl := Option.some.inj hz33
      refine st_pick (v := .bool true) hf rfl rfl (fun hb' => ?_) (fun hb' => ?_) (by decide) ?_
      · rfl
      · exact absurd (hb34.symm.trans hb') (by decide)
      clear hf; intro a ha hf; clear ha
      refine st_nil hf (th_n ?_)
      exact ⟨hf.sub ⟨rfl, rfl, rfl, rfl, rfl, rfl, rfl, trivial⟩, hp⟩
    replace hz33 := ifF hz33 hb34
    refine st_move hf (wantY hf rfl rfl hb34) rfl (by decide) ?_
    clear hf; intro a ha hf; clear ha
    refine st_move hf (wantY hf rfl rfl hb34) rfl (by decide) ?_
    clear hf; intro a ha hf; clear ha
    obtain ⟨q36, hcall37, hz33⟩ := bnd hz33
    refine st_call hf (by decide) Try.func13 rfl rfl (wantY hf rfl rfl hb34) rfl rfl (f_plane_Mul_c hp _ _ _ (show Fl.rep v23 (q21).1 from y25) (show Fl.rep v24 (q21).2 from y26) _ _ _ (show Fl.rep v17 (q15).1 from y19) (show Fl.rep v18 (q15).2 from y20) hcall37) ?_
    rintro _ w ⟨v38, v39, rfl, y40, y41, hp0⟩
    clear hp; have hp := hp0; clear hp0
    replace hp : Hp _ _ _ (Res.obj 38 v1 [.int .i16 xx0_A_0, .int .i16 xx0_A_1, .int .i16 xx0_B_0, .int .i16 xx0_B_1, .int .i16 xx0_C_0, .int .i16 xx0_C_1, .int .i64 xx0_N, .int .i64 xx0_M] :: ow) := hp
    refine ⟨_, rfl, ?_⟩
    clear hf; intro a hf
    refine st_move hf (wantY hf rfl rfl hb34) rfl (by decide) ?_
    clear hf; intro a ha hf; clear ha
    refine st_move hf (wantY hf rfl rfl hb34) rfl (by decide) ?_
    clear hf; intro a ha hf; clear ha
    refine st_move hf (wantY hf rfl rfl hb34) rfl (by decide) ?_
    clear hf; intro a ha hf; clear ha
    obtain ⟨q42, hcall43, hz33⟩ := bnd hz33
    refine st_call hf (by decide) Try.func13 rfl rfl (wantY hf rfl rfl hb34) rfl rfl (f_plane_Mul_c hp _ _ _ (show Fl.rep v11 (q9).1 from y13) (show Fl.rep v12 (q9).2 from y14) _ _ _ (show Fl.rep v17 (q15).1 from y19) (show Fl.rep v18 (q15).2 from y20) hcall43) ?_
    rintro _ w ⟨v44, v45, rfl, y46, y47, hp0⟩
    clear hp; have hp := hp0; clear hp0
    replace hp : Hp _ _ _ (Res.obj 38 v1 [.int .i16 xx0_A_0, .int .i16 xx0_A_1, .int .i16 xx0_B_0, .int .i16 xx0_B_1, .int .i16 xx0_C_0, .int .i16 xx0_C_1, .int .i64 xx0_N, .int .i64 xx0_M] :: ow) := hp
    refine ⟨_, rfl, ?_⟩
    clear hf; intro a hf
    obtain ⟨q48, hcall49, hz33⟩ := bnd hz33
    refine st_call hf (by decide) Try.func13 rfl rfl (wantY hf rfl rfl hb34) rfl rfl (f_plane_Mul_c hp _ _ _ (show Fl.rep v5 (q3).1 from y7) (show Fl.rep v6 (q3).2 from y8) _ _ _ (show Fl.rep v44 (q42).1 from y46) (show Fl.rep v45 (q42).2 from y47) hcall49) ?_
    rintro _ w ⟨v50, v51, rfl, y52, y53, hp0⟩
    clear hp; have hp := hp0; clear hp0
    replace hp : Hp _ _ _ (Res.obj 38 v1 [.int .i16 xx0_A_0, .int .i16 xx0_A_1, .int .i16 xx0_B_0, .int .i16 xx0_B_1, .int .i16 xx0_C_0, .int .i16 xx0_C_1, .int .i64 xx0_N, .int .i64 xx0_M] :: ow) := hp
    refine ⟨_, rfl, ?_⟩
    clear hf; intro a hf
    refine st_ccmp (r_cne (x := q36) (y := q48) y40 y41 y52 y53) hf (by decide) (wantY hf rfl rfl hb34) rfl rfl ?_
    clear hf; intro a ha hf; clear ha
    obtain rfl := Option.some.inj hz33
    refine st_pick (v := .bool (!ceq q36 q48)) hf rfl rfl (fun hb' => ?_) (fun hb' => ?_) (by decide) ?_
    · exact absurd (hb34.symm.trans hb') (by decide)
    · rfl
    clear hf; intro a ha hf; clear ha
    refine st_nil hf (th_n ?_)
    exact ⟨hf.sub ⟨rfl, rfl, rfl, rfl, rfl, rfl, rfl, trivial⟩, hp⟩
  rintro a w ⟨hf, hp⟩
  refine st_move hf rfl rfl (by decide) ?_
  clear hf; intro a ha hf; clear ha
  obtain ⟨z56, hz54, h⟩ := bnd h
  refine wpList_cut 14 (fun a w => Fr 158 a [(3, .complex .f64 v5 v6), (4, .complex .f64 v11 v12), (6, .int .i64 ((xx0_N).tmod (1073741824 : Int))), (7, .int .i64 ((xx0_M).tmod (1073741824 : Int))), (8, .complex .f64 v23 v24), (69, .bool z56)] ∧ Hp S w0 w (Res.obj 38 v1 [.int .i16 xx0_A_0, .int .i16 xx0_A_1, .int .i16 xx0_B_0, .int .i16 xx0_B_1, .int .i16 xx0_C_0, .int .i16 xx0_C_1, .int .i64 xx0_N, .int .i64 xx0_M] :: ow)) ?_ ?_
  · rcases Bool.eq_false_or_eq_true z35 with hb55 | hb55
    · skip
      replace hz54 := ifT hz54 hb55
      refine st_skip hf (wantN hf rfl rfl hb55) rfl (by decide) ?_ rfl
      clear hf; intro a hf
      refine st_skip hf (wantN hf rfl rfl hb55) rfl (by decide) ?_ rfl
      clear hf; intro a hf
      refine st_skip hf (wantN hf rfl rfl hb55) rfl (by decide) ?_ rfl
      clear hf; intro a hf
      refine st_skip hf (wantN hf rfl rfl hb55) rfl (by decide) ?_ rfl
      clear hf; intro a hf
      refine st_skip hf (wantN hf rfl rfl hb55) rfl (by decide) ?_ rfl
      clear hf; intro a hf
      refine st_skip hf (wantN hf rfl rfl hb55) rfl (by decide) ?_ rfl
      clear hf; intro a hf
      refine st_skip hf (wantN hf rfl rfl hb55) rfl (by decide) ?_ rfl
      clear hf; intro a hf
      refine st_skip hf (wantN hf rfl rfl hb55) rfl (by decide) ?_ rfl
      clear hf; intro a hf
      refine st_skip hf (wantN hf rfl rfl hb55) rfl (by decide) ?_ rfl
      clear hf; intro a hf
      refine st_skip hf (wantN hf rfl rfl hb55) rfl (by decide) ?_ rfl
      clear hf; intro a hf
      refine st_skip hf (wantN hf rfl rfl hb55) rfl (by decide) ?_ rfl
      clear hf; intro a hf
      refine st_skip hf (wantN hf rfl rfl hb55) rfl (by decide) ?_ rfl
      clear hf; intro a hf
      refine st_skip hf (wantN hf rfl rfl hb55) rfl (by decide) ?_ rfl
      clear hf; intro a hf
      obtain rfl := Option.some.inj hz54
      refine st_pick (v := .bool true) hf rfl rfl (fun hb' => ?_) (fun hb' => ?_) (by decide) ?_
      · rfl
      · exact absurd (hb55.symm.trans hb') (by decide)
      clear hf; intro a ha hf; clear ha
      refine st_nil hf (th_n ?_)
      exact ⟨hf.sub ⟨rfl, rfl, rfl, rfl, rfl, rfl, trivial⟩, hp⟩
    replace hz54 := ifF hz54 hb55
    refine st_move hf (wantY hf rfl rfl hb55) rfl (by decide) ?_
    clear hf; intro a ha hf; clear ha
    refine st_move hf (wantY hf rfl rfl hb55) rfl (by decide) ?_
    clear hf; intro a ha hf; clear ha
    refine st_move hf (wantY hf rfl rfl hb55) rfl (by decide) ?_
    clear hf; intro a ha hf; clear ha
    refine st_build (E := Ek.c128) (xs := [q9, q15]) hf (by decide) elt24 Try.underlying41 hp (vals := #[(0, .complex .f64 v11 v12), (1, .complex .f64 v17 v18)]) (cells := #[.complex .f64 v11 v12, .complex .f64 v17 v18]) (wantY hf rfl rfl hb55) (by simp [hf.ev (x := (Operand.tmp 57)) rfl, hf.ev (x := (Operand.tmp 58)) rfl]) (by decide) (by decide) (z := .complex .f64 0 0) (by kernel_rfl) (by kernel_rfl) rfl (reps_cons (cs := [.complex .f64 v11 v12]) (show Ek.c128.rep [.complex .f64 v11 v12] q9 from ⟨_, _, rfl, y13, y14⟩) (reps_cons (cs := [.complex .f64 v17 v18]) (show Ek.c128.rep [.complex .f64 v17 v18] q15 from ⟨_, _, rfl, y19, y20⟩) (reps_nil _))) ?_
    clear hf; intro a w v57 hf hp0; clear hp; have hp := hp0; clear hp0
    replace hp : Hp _ _ _ (Res.sl Ek.c128 24 v57 ([q9, q15]) :: Res.obj 38 v1 [.int .i16 xx0_A_0, .int .i16 xx0_A_1, .int .i16 xx0_B_0, .int .i16 xx0_B_1, .int .i16 xx0_C_0, .int .i16 xx0_C_1, .int .i64 xx0_N, .int .i64 xx0_M] :: ow) := hp
    obtain ⟨q59, hcall60, hz54⟩ := bnd hz54
    obtain ⟨S61, hp62, rd63, up64, bk65⟩ := Hp.lendS hp (i := 0) rfl
    refine st_call hf (by decide) Try.func26 rfl rfl (wantY hf rfl rfl hb55) rfl rfl (f_plane_Sum_c hp62 _ _ rd63 hcall60) ?_
    rintro _ w ⟨v66, v67, rfl, y68, y69, hp0⟩
    have hp0 := bk65 _ _ hp0
    clear hp; have hp := hp0; clear hp0
    replace hp : Hp _ _ _ (Res.sl Ek.c128 24 v57 ([q9, q15]) :: Res.obj 38 v1 [.int .i16 xx0_A_0, .int .i16 xx0_A_1, .int .i16 xx0_B_0, .int .i16 xx0_B_1, .int .i16 xx0_C_0, .int .i16 xx0_C_1, .int .i64 xx0_N, .int .i64 xx0_M] :: ow) := hp
    refine ⟨_, rfl, ?_⟩
    clear hf; intro a hf
    obtain ⟨q70, hcall71, hz54⟩ := bnd hz54
    refine st_call hf (by decide) Try.func13 rfl rfl (wantY hf rfl rfl hb55) rfl rfl (f_plane_Mul_c hp _ _ _ (show Fl.rep v5 (q3).1 from y7) (show Fl.rep v6 (q3).2 from y8) _ _ _ (show Fl.rep v66 (q59).1 from y68) (show Fl.rep v67 (q59).2 from y69) hcall71) ?_
    rintro _ w ⟨v72, v73, rfl, y74, y75, hp0⟩
    clear hp; have hp := hp0; clear hp0
    replace hp : Hp _ _ _ (Res.sl Ek.c128 24 v57 ([q9, q15]) :: Res.obj 38 v1 [.int .i16 xx0_A_0, .int .i16 xx0_A_1, .int .i16 xx0_B_0, .int .i16 xx0_B_1, .int .i16 xx0_C_0, .int .i16 xx0_C_1, .int .i64 xx0_N, .int .i64 xx0_M] :: ow) := hp
    refine ⟨_, rfl, ?_⟩
    clear hf; intro a hf
    refine st_move hf (wantY hf rfl rfl hb55) rfl (by decide) ?_
    clear hf; intro a ha hf; clear ha
    refine st_move hf (wantY hf rfl rfl hb55) rfl (by decide) ?_
    clear hf; intro a ha hf; clear ha
    refine st_move hf (wantY hf rfl rfl hb55) rfl (by decide) ?_
    clear hf; intro a ha hf; clear ha
    obtain ⟨q76, hcall77, hz54⟩ := bnd hz54
    refine st_call hf (by decide) Try.func13 rfl rfl (wantY hf rfl rfl hb55) rfl rfl (f_plane_Mul_c hp _ _ _ (show Fl.rep v5 (q3).1 from y7) (show Fl.rep v6 (q3).2 from y8) _ _ _ (show Fl.rep v17 (q15).1 from y19) (show Fl.rep v18 (q15).2 from y20) hcall77) ?_
    rintro _ w ⟨v78, v79, rfl, y80, y81, hp0⟩
    clear hp; have hp := hp0; clear hp0
    replace hp : Hp _ _ _ (Res.sl Ek.c128 24 v57 ([q9, q15]) :: Res.obj 38 v1 [.int .i16 xx0_A_0, .int .i16 xx0_A_1, .int .i16 xx0_B_0, .int .i16 xx0_B_1, .int .i16 xx0_C_0, .int .i16 xx0_C_1, .int .i64 xx0_N, .int .i64 xx0_M] :: ow) := hp
    refine ⟨_, rfl, ?_⟩
    clear hf; intro a hf
    refine st_build (E := Ek.c128) (xs := [q21, q76]) hf (by decide) elt24 Try.underlying41 hp (vals := #[(0, .complex .f64 v23 v24), (1, .complex .f64 v78 v79)]) (cells := #[.complex .f64 v23 v24, .complex .f64 v78 v79]) (wantY hf rfl rfl hb55) (by simp [hf.ev (x := (Operand.tmp 62)) rfl, hf.ev (x := (Operand.tmp 65)) rfl]) (by decide) (by decide) (z := .complex .f64 0 0) (by kernel_rfl) (by kernel_rfl) rfl (reps_cons (cs := [.complex .f64 v23 v24]) (show Ek.c128.rep [.complex .f64 v23 v24] q21 from ⟨_, _, rfl, y25, y26⟩) (reps_cons (cs := [.complex .f64 v78 v79]) (show Ek.c128.rep [.complex .f64 v78 v79] q76 from ⟨_, _, rfl, y80, y81⟩) (reps_nil _))) ?_
    clear hf; intro a w v82 hf hp0; clear hp; have hp := hp0; clear hp0
    replace hp : Hp _ _ _ (Res.sl Ek.c128 24 v82 ([q21, q76]) :: Res.sl Ek.c128 24 v57 ([q9, q15]) :: Res.obj 38 v1 [.int .i16 xx0_A_0, .int .i16 xx0_A_1, .int .i16 xx0_B_0, .int .i16 xx0_B_1, .int .i16 xx0_C_0, .int .i16 xx0_C_1, .int .i64 xx0_N, .int .i64 xx0_M] :: ow) := hp
    obtain ⟨q84, hcall85, hz54⟩ := bnd hz54
    obtain ⟨S86, hp87, rd88, up89, bk90⟩ := Hp.lendS hp (i := 0) rfl
    refine st_call hf (by decide) Try.func26 rfl rfl (wantY hf rfl rfl hb55) rfl rfl (f_plane_Sum_c hp87 _ _ rd88 hcall85) ?_
    rintro _ w ⟨v91, v92, rfl, y93, y94, hp0⟩
    have hp0 := bk90 _ _ hp0
    clear hp; have hp := hp0; clear hp0
    replace hp : Hp _ _ _ (Res.sl Ek.c128 24 v82 ([q21, q76]) :: Res.sl Ek.c128 24 v57 ([q9, q15]) :: Res.obj 38 v1 [.int .i16 xx0_A_0, .int .i16 xx0_A_1, .int .i16 xx0_B_0, .int .i16 xx0_B_1, .int .i16 xx0_C_0, .int .i16 xx0_C_1, .int .i64 xx0_N, .int .i64 xx0_M] :: ow) := hp
    refine ⟨_, rfl, ?_⟩
    clear hf; intro a hf
    refine st_ccmp (r_cne (x := q70) (y := q84) y74 y75 y93 y94) hf (by decide) (wantY hf rfl rfl hb55) rfl rfl ?_
    clear hf; intro a ha hf; clear ha
    obtain rfl := Option.some.inj hz54
    refine st_pick (v := .bool (!ceq q70 q84)) hf rfl rfl (fun hb' => ?_) (fun hb' => ?_) (by decide) ?_
    · exact absurd (hb55.symm.trans hb') (by decide)
    · rfl
    clear hf; intro a ha hf; clear ha
    refine st_nil hf (th_n ?_)
    have hp : Hp _ _ _ (Res.obj 38 v1 [.int .i16 xx0_A_0, .int .i16 xx0_A_1, .int .i16 xx0_B_0, .int .i16 xx0_B_1, .int .i16 xx0_C_0, .int .i16 xx0_C_1, .int .i64 xx0_N, .int .i64 xx0_M] :: ow) := Hp.sel (pre := [Res.sl Ek.c128 24 v82 ([q21, q76]), Res.sl Ek.c128 24 v57 ([q9, q15]), Res.obj 38 v1 [.int .i16 xx0_A_0, .int .i16 xx0_A_1, .int .i16 xx0_B_0, .int .i16 xx0_B_1, .int .i16 xx0_C_0, .int .i16 xx0_C_1, .int .i64 xx0_N, .int .i64 xx0_M]]) (tail := ow) (rs' := [Res.obj 38 v1 [.int .i16 xx0_A_0, .int .i16 xx0_A_1, .int .i16 xx0_B_0, .int .i16 xx0_B_1, .int .i16 xx0_C_0, .int .i16 xx0_C_1, .int .i64 xx0_N, .int .i64 xx0_M]]) hp [2] (by decide) (by simp) rfl
    exact ⟨hf.sub ⟨rfl, rfl, rfl, rfl, rfl, rfl, trivial⟩, hp⟩
  rintro a w ⟨hf, hp⟩
  refine st_nil hf ?_
  refine th_n ?_
  refine wp_if hf rfl (fun hb => ?_) (fun hb => ?_)
  · replace h := ifT h hb
    refine wp_seq ?_
    refine wp_reg ?_
    refine st_assign hf rfl rfl (by decide) ?_
    clear hf; intro a ha hf; clear ha
    refine st_nil hf ?_
    refine th_n ?_
    refine wp_ret ?_
    refine th_r ?_
    obtain rfl := Option.some.inj h
    have hp : Hp _ _ _ (ow) := Hp.sel (pre := [Res.obj 38 v1 [.int .i16 xx0_A_0, .int .i16 xx0_A_1, .int .i16 xx0_B_0, .int .i16 xx0_B_1, .int .i16 xx0_C_0, .int .i16 xx0_C_1, .int .i64 xx0_N, .int .i64 xx0_M]]) (tail := ow) (rs' := []) hp [] (by decide) (by simp) rfl
    exact ⟨rfl, ⟨hf.sub ⟨rfl, trivial⟩, hp⟩⟩
  replace h := ifF h hb
  refine wp_skip ?_
  refine th_n ?_
  refine wp_seq ?_
  refine wp_seq ?_
  refine wp_reg ?_
  refine st_move hf rfl rfl (by decide) ?_
  clear hf; intro a ha hf; clear ha
  refine st_move hf rfl rfl (by decide) ?_
  clear hf; intro a ha hf; clear ha
  obtain ⟨q95, hcall96, h⟩ := bnd h
  refine st_call hf (by decide) Try.func15 rfl rfl rfl rfl rfl (f_plane_Turn_c hp _ _ _ (show Fl.rep v5 (q3).1 from y7) (show Fl.rep v6 (q3).2 from y8) _ hcall96) ?_
  rintro _ w ⟨v97, v98, rfl, y99, y100, hp0⟩
  clear hp; have hp := hp0; clear hp0
  replace hp : Hp _ _ _ (Res.obj 38 v1 [.int .i16 xx0_A_0, .int .i16 xx0_A_1, .int .i16 xx0_B_0, .int .i16 xx0_B_1, .int .i16 xx0_C_0, .int .i16 xx0_C_1, .int .i64 xx0_N, .int .i64 xx0_M] :: ow) := hp
  refine ⟨_, rfl, ?_⟩
  clear hf; intro a hf
  refine st_move hf rfl rfl (by decide) ?_
  clear hf; intro a ha hf; clear ha
  obtain ⟨q101, hcall102, h⟩ := bnd h
  refine st_call hf (by decide) Try.func13 rfl rfl rfl rfl rfl (f_plane_Mul_c hp _ _ _ (show Fl.rep v97 (q95).1 from y99) (show Fl.rep v98 (q95).2 from y100) _ _ _ (show Fl.rep v11 (q9).1 from y13) (show Fl.rep v12 (q9).2 from y14) hcall102) ?_
  rintro _ w ⟨v103, v104, rfl, y105, y106, hp0⟩
  clear hp; have hp := hp0; clear hp0
  replace hp : Hp _ _ _ (Res.obj 38 v1 [.int .i16 xx0_A_0, .int .i16 xx0_A_1, .int .i16 xx0_B_0, .int .i16 xx0_B_1, .int .i16 xx0_C_0, .int .i16 xx0_C_1, .int .i64 xx0_N, .int .i64 xx0_M] :: ow) := hp
  refine ⟨_, rfl, ?_⟩
  clear hf; intro a hf
  refine st_move hf rfl rfl (by decide) ?_
  clear hf; intro a ha hf; clear ha
  refine st_move hf rfl rfl (by decide) ?_
  clear hf; intro a ha hf; clear ha
  obtain ⟨q107, hcall108, h⟩ := bnd h
  refine st_call hf (by decide) Try.func15 rfl rfl rfl rfl rfl (f_plane_Turn_c hp _ _ _ (show Fl.rep v23 (q21).1 from y25) (show Fl.rep v24 (q21).2 from y26) _ hcall108) ?_
  rintro _ w ⟨v109, v110, rfl, y111, y112, hp0⟩
  clear hp; have hp := hp0; clear hp0
  replace hp : Hp _ _ _ (Res.obj 38 v1 [.int .i16 xx0_A_0, .int .i16 xx0_A_1, .int .i16 xx0_B_0, .int .i16 xx0_B_1, .int .i16 xx0_C_0, .int .i16 xx0_C_1, .int .i64 xx0_N, .int .i64 xx0_M] :: ow) := hp
  refine ⟨_, rfl, ?_⟩
  clear hf; intro a hf
  refine st_ccmp (r_cne (x := q101) (y := q107) y105 y106 y111 y112) hf (by decide) rfl rfl rfl ?_
  clear hf; intro a ha hf; clear ha
  refine st_move hf rfl rfl (by decide) ?_
  clear hf; intro a ha hf; clear ha
  obtain ⟨z115, hz113, h⟩ := bnd h
  refine wpList_cut 16 (fun a w => Fr 158 a [(3, .complex .f64 v5 v6), (4, .complex .f64 v11 v12), (6, .int .i64 ((xx0_N).tmod (1073741824 : Int))), (7, .int .i64 ((xx0_M).tmod (1073741824 : Int))), (8, .complex .f64 v23 v24), (95, .bool z115)] ∧ Hp S w0 w (Res.obj 38 v1 [.int .i16 xx0_A_0, .int .i16 xx0_A_1, .int .i16 xx0_B_0, .int .i16 xx0_B_1, .int .i16 xx0_C_0, .int .i16 xx0_C_1, .int .i64 xx0_N, .int .i64 xx0_M] :: ow)) ?_ ?_
  · rcases Bool.eq_false_or_eq_true (!ceq q101 q107) with hb114 | hb114
    · skip
      replace hz113 := ifT hz113 hb114
      refine st_skip hf (wantN hf rfl rfl hb114) rfl (by decide) ?_ rfl
      clear hf; intro a hf
      refine st_skip hf (wantN hf rfl rfl hb114) rfl (by decide) ?_ rfl
      clear hf; intro a hf
      refine st_skip hf (wantN hf rfl rfl hb114) rfl (by decide) ?_ rfl
      clear hf; intro a hf
      refine st_skip hf (wantN hf rfl rfl hb114) rfl (by decide) ?_ rfl
      clear hf; intro a hf
      refine st_skip hf (wantN hf rfl rfl hb114) rfl (by decide) ?_ rfl
      clear hf; intro a hf
      refine st_skip hf (wantN hf rfl rfl hb114) rfl (by decide) ?_ rfl
      clear hf; intro a hf
      refine st_skip hf (wantN hf rfl rfl hb114) rfl (by decide) ?_ rfl
      clear hf; intro a hf
      refine st_skip hf (wantN hf rfl rfl hb114) rfl (by decide) ?_ rfl
      clear hf; intro a hf
      refine st_skip hf (wantN hf rfl rfl hb114) rfl (by decide) ?_ rfl
      clear hf; intro a hf
      refine st_skip hf (wantN hf rfl rfl hb114) rfl (by decide) ?_ rfl
      clear hf; intro a hf
      refine st_skip hf (wantN hf rfl rfl hb114) rfl (by decide) ?_ rfl
      clear hf; intro a hf
      refine st_skip hf (wantN hf rfl rfl hb114) rfl (by decide) ?_ rfl
      clear hf; intro a hf
      refine st_skip hf (wantN hf rfl rfl hb114) rfl (by decide) ?_ rfl
      clear hf; intro a hf
      refine st_skip hf (wantN hf rfl rfl hb114) rfl (by decide) ?_ rfl
      clear hf; intro a hf
      refine st_skip hf (wantN hf rfl rfl hb114) rfl (by decide) ?_ rfl
      clear hf; intro a hf
      obtain rfl := Option.some.inj hz113
      refine st_pick (v := .bool true) hf rfl rfl (fun hb' => ?_) (fun hb' => ?_) (by decide) ?_
      · rfl
      · exact absurd (hb114.symm.trans hb') (by decide)
      clear hf; intro a ha hf; clear ha
      refine st_nil hf (th_n ?_)
      exact ⟨hf.sub ⟨rfl, rfl, rfl, rfl, rfl, rfl, trivial⟩, hp⟩
    replace hz113 := ifF hz113 hb114
    refine st_move hf (wantY hf rfl rfl hb114) rfl (by decide) ?_
    clear hf; intro a ha hf; clear ha
    refine st_move hf (wantY hf rfl rfl hb114) rfl (by decide) ?_
    clear hf; intro a ha hf; clear ha
    obtain ⟨q116, hcall117, hz113⟩ := bnd hz113
    refine st_call hf (by decide) Try.func15 rfl rfl (wantY hf rfl rfl hb114) rfl rfl (f_plane_Turn_c hp _ _ _ (show Fl.rep v5 (q3).1 from y7) (show Fl.rep v6 (q3).2 from y8) _ hcall117) ?_
    rintro _ w ⟨v118, v119, rfl, y120, y121, hp0⟩
    clear hp; have hp := hp0; clear hp0
    replace hp : Hp _ _ _ (Res.obj 38 v1 [.int .i16 xx0_A_0, .int .i16 xx0_A_1, .int .i16 xx0_B_0, .int .i16 xx0_B_1, .int .i16 xx0_C_0, .int .i16 xx0_C_1, .int .i64 xx0_N, .int .i64 xx0_M] :: ow) := hp
    refine ⟨_, rfl, ?_⟩
    clear hf; intro a hf
    refine st_move hf (wantY hf rfl rfl hb114) rfl (by decide) ?_
    clear hf; intro a ha hf; clear ha
    refine st_move hf (wantY hf rfl rfl hb114) rfl (by decide) ?_
    clear hf; intro a ha hf; clear ha
    obtain ⟨q122, hcall123, hz113⟩ := bnd hz113
    refine st_call hf (by decide) Try.func15 rfl rfl (wantY hf rfl rfl hb114) rfl rfl (f_plane_Turn_c hp _ _ _ (show Fl.rep v11 (q9).1 from y13) (show Fl.rep v12 (q9).2 from y14) _ hcall123) ?_
    rintro _ w ⟨v124, v125, rfl, y126, y127, hp0⟩
    clear hp; have hp := hp0; clear hp0
    replace hp : Hp _ _ _ (Res.obj 38 v1 [.int .i16 xx0_A_0, .int .i16 xx0_A_1, .int .i16 xx0_B_0, .int .i16 xx0_B_1, .int .i16 xx0_C_0, .int .i16 xx0_C_1, .int .i64 xx0_N, .int .i64 xx0_M] :: ow) := hp
    refine ⟨_, rfl, ?_⟩
    clear hf; intro a hf
    refine st_build (E := Ek.c128) (xs := [q116, q122]) hf (by decide) elt24 Try.underlying41 hp (vals := #[(0, .complex .f64 v118 v119), (1, .complex .f64 v124 v125)]) (cells := #[.complex .f64 v118 v119, .complex .f64 v124 v125]) (wantY hf rfl rfl hb114) (by simp [hf.ev (x := (Operand.tmp 82)) rfl, hf.ev (x := (Operand.tmp 85)) rfl]) (by decide) (by decide) (z := .complex .f64 0 0) (by kernel_rfl) (by kernel_rfl) rfl (reps_cons (cs := [.complex .f64 v118 v119]) (show Ek.c128.rep [.complex .f64 v118 v119] q116 from ⟨_, _, rfl, y120, y121⟩) (reps_cons (cs := [.complex .f64 v124 v125]) (show Ek.c128.rep [.complex .f64 v124 v125] q122 from ⟨_, _, rfl, y126, y127⟩) (reps_nil _))) ?_
    clear hf; intro a w v128 hf hp0; clear hp; have hp := hp0; clear hp0
    replace hp : Hp _ _ _ (Res.sl Ek.c128 24 v128 ([q116, q122]) :: Res.obj 38 v1 [.int .i16 xx0_A_0, .int .i16 xx0_A_1, .int .i16 xx0_B_0, .int .i16 xx0_B_1, .int .i16 xx0_C_0, .int .i16 xx0_C_1, .int .i64 xx0_N, .int .i64 xx0_M] :: ow) := hp
    obtain ⟨q130, hcall131, hz113⟩ := bnd hz113
    obtain ⟨S132, hp133, rd134, up135, bk136⟩ := Hp.lendS hp (i := 0) rfl
    refine st_call hf (by decide) Try.func26 rfl rfl (wantY hf rfl rfl hb114) rfl rfl (f_plane_Sum_c hp133 _ _ rd134 hcall131) ?_
    rintro _ w ⟨v137, v138, rfl, y139, y140, hp0⟩
    have hp0 := bk136 _ _ hp0
    clear hp; have hp := hp0; clear hp0
    replace hp : Hp _ _ _ (Res.sl Ek.c128 24 v128 ([q116, q122]) :: Res.obj 38 v1 [.int .i16 xx0_A_0, .int .i16 xx0_A_1, .int .i16 xx0_B_0, .int .i16 xx0_B_1, .int .i16 xx0_C_0, .int .i16 xx0_C_1, .int .i64 xx0_N, .int .i64 xx0_M] :: ow) := hp
    refine ⟨_, rfl, ?_⟩
    clear hf; intro a hf
    refine st_move hf (wantY hf rfl rfl hb114) rfl (by decide) ?_
    clear hf; intro a ha hf; clear ha
    refine st_move hf (wantY hf rfl rfl hb114) rfl (by decide) ?_
    clear hf; intro a ha hf; clear ha
    refine st_build (E := Ek.c128) (xs := [q3, q9]) hf (by decide) elt24 Try.underlying41 hp (vals := #[(0, .complex .f64 v5 v6), (1, .complex .f64 v11 v12)]) (cells := #[.complex .f64 v5 v6, .complex .f64 v11 v12]) (wantY hf rfl rfl hb114) (by simp [hf.ev (x := (Operand.tmp 88)) rfl, hf.ev (x := (Operand.tmp 89)) rfl]) (by decide) (by decide) (z := .complex .f64 0 0) (by kernel_rfl) (by kernel_rfl) rfl (reps_cons (cs := [.complex .f64 v5 v6]) (show Ek.c128.rep [.complex .f64 v5 v6] q3 from ⟨_, _, rfl, y7, y8⟩) (reps_cons (cs := [.complex .f64 v11 v12]) (show Ek.c128.rep [.complex .f64 v11 v12] q9 from ⟨_, _, rfl, y13, y14⟩) (reps_nil _))) ?_
    clear hf; intro a w v141 hf hp0; clear hp; have hp := hp0; clear hp0
    replace hp : Hp _ _ _ (Res.sl Ek.c128 24 v141 ([q3, q9]) :: Res.sl Ek.c128 24 v128 ([q116, q122]) :: Res.obj 38 v1 [.int .i16 xx0_A_0, .int .i16 xx0_A_1, .int .i16 xx0_B_0, .int .i16 xx0_B_1, .int .i16 xx0_C_0, .int .i16 xx0_C_1, .int .i64 xx0_N, .int .i64 xx0_M] :: ow) := hp
    obtain ⟨q143, hcall144, hz113⟩ := bnd hz113
    obtain ⟨S145, hp146, rd147, up148, bk149⟩ := Hp.lendS hp (i := 0) rfl
    refine st_call hf (by decide) Try.func26 rfl rfl (wantY hf rfl rfl hb114) rfl rfl (f_plane_Sum_c hp146 _ _ rd147 hcall144) ?_
    rintro _ w ⟨v150, v151, rfl, y152, y153, hp0⟩
    have hp0 := bk149 _ _ hp0
    clear hp; have hp := hp0; clear hp0
    replace hp : Hp _ _ _ (Res.sl Ek.c128 24 v141 ([q3, q9]) :: Res.sl Ek.c128 24 v128 ([q116, q122]) :: Res.obj 38 v1 [.int .i16 xx0_A_0, .int .i16 xx0_A_1, .int .i16 xx0_B_0, .int .i16 xx0_B_1, .int .i16 xx0_C_0, .int .i16 xx0_C_1, .int .i64 xx0_N, .int .i64 xx0_M] :: ow) := hp
    refine ⟨_, rfl, ?_⟩
    clear hf; intro a hf
    refine st_move hf (wantY hf rfl rfl hb114) rfl (by decide) ?_
    clear hf; intro a ha hf; clear ha
    obtain ⟨q154, hcall155, hz113⟩ := bnd hz113
    refine st_call hf (by decide) Try.func15 rfl rfl (wantY hf rfl rfl hb114) rfl rfl (f_plane_Turn_c hp _ _ _ (show Fl.rep v150 (q143).1 from y152) (show Fl.rep v151 (q143).2 from y153) _ hcall155) ?_
    rintro _ w ⟨v156, v157, rfl, y158, y159, hp0⟩
    clear hp; have hp := hp0; clear hp0
    replace hp : Hp _ _ _ (Res.sl Ek.c128 24 v141 ([q3, q9]) :: Res.sl Ek.c128 24 v128 ([q116, q122]) :: Res.obj 38 v1 [.int .i16 xx0_A_0, .int .i16 xx0_A_1, .int .i16 xx0_B_0, .int .i16 xx0_B_1, .int .i16 xx0_C_0, .int .i16 xx0_C_1, .int .i64 xx0_N, .int .i64 xx0_M] :: ow) := hp
    refine ⟨_, rfl, ?_⟩
    clear hf; intro a hf
    refine st_ccmp (r_cne (x := q130) (y := q154) y139 y140 y158 y159) hf (by decide) (wantY hf rfl rfl hb114) rfl rfl ?_
    clear hf; intro a ha hf; clear ha
    obtain rfl := Option.some.inj hz113
    refine st_pick (v := .bool (!ceq q130 q154)) hf rfl rfl (fun hb' => ?_) (fun hb' => ?_) (by decide) ?_
    · exact absurd (hb114.symm.trans hb') (by decide)
    · rfl
    clear hf; intro a ha hf; clear ha
    refine st_nil hf (th_n ?_)
    have hp : Hp _ _ _ (Res.obj 38 v1 [.int .i16 xx0_A_0, .int .i16 xx0_A_1, .int .i16 xx0_B_0, .int .i16 xx0_B_1, .int .i16 xx0_C_0, .int .i16 xx0_C_1, .int .i64 xx0_N, .int .i64 xx0_M] :: ow) := Hp.sel (pre := [Res.sl Ek.c128 24 v141 ([q3, q9]), Res.sl Ek.c128 24 v128 ([q116, q122]), Res.obj 38 v1 [.int .i16 xx0_A_0, .int .i16 xx0_A_1, .int .i16 xx0_B_0, .int .i16 xx0_B_1, .int .i16 xx0_C_0, .int .i16 xx0_C_1, .int .i64 xx0_N, .int .i64 xx0_M]]) (tail := ow) (rs' := [Res.obj 38 v1 [.int .i16 xx0_A_0, .int .i16 xx0_A_1, .int .i16 xx0_B_0, .int .i16 xx0_B_1, .int .i16 xx0_C_0, .int .i16 xx0_C_1, .int .i64 xx0_N, .int .i64 xx0_M]]) hp [2] (by decide) (by simp) rfl
    exact ⟨hf.sub ⟨rfl, rfl, rfl, rfl, rfl, rfl, trivial⟩, hp⟩
  rintro a w ⟨hf, hp⟩
  refine st_move hf rfl rfl (by decide) ?_
  clear hf; intro a ha hf; clear ha
  obtain ⟨z162, hz160, h⟩ := bnd h
  refine wpList_cut 12 (fun a w => Fr 158 a [(3, .complex .f64 v5 v6), (4, .complex .f64 v11 v12), (6, .int .i64 ((xx0_N).tmod (1073741824 : Int))), (8, .complex .f64 v23 v24), (108, .bool z162)] ∧ Hp S w0 w (Res.obj 38 v1 [.int .i16 xx0_A_0, .int .i16 xx0_A_1, .int .i16 xx0_B_0, .int .i16 xx0_B_1, .int .i16 xx0_C_0, .int .i16 xx0_C_1, .int .i64 xx0_N, .int .i64 xx0_M] :: ow)) ?_ ?_
  · rcases Bool.eq_false_or_eq_true z115 with hb161 | hb161
    · skip
      replace hz160 := ifT hz160 hb161
      refine st_skip hf (wantN hf rfl rfl hb161) rfl (by decide) ?_ rfl
      clear hf; intro a hf
      refine st_skip hf (wantN hf rfl rfl hb161) rfl (by decide) ?_ rfl
      clear hf; intro a hf
      refine st_skip hf (wantN hf rfl rfl hb161) rfl (by decide) ?_ rfl
      clear hf; intro a hf
      refine st_skip hf (wantN hf rfl rfl hb161) rfl (by decide) ?_ rfl
      clear hf; intro a hf
      refine st_skip hf (wantN hf rfl rfl hb161) rfl (by decide) ?_ rfl
      clear hf; intro a hf
      refine st_skip hf (wantN hf rfl rfl hb161) rfl (by decide) ?_ rfl
      clear hf; intro a hf
      refine st_skip hf (wantN hf rfl rfl hb161) rfl (by decide) ?_ rfl
      clear hf; intro a hf
      refine st_skip hf (wantN hf rfl rfl hb161) rfl (by decide) ?_ rfl
      clear hf; intro a hf
      refine st_skip hf (wantN hf rfl rfl hb161) rfl (by decide) ?_ rfl
      clear hf; intro a hf
      refine st_skip hf (wantN hf rfl rfl hb161) rfl (by decide) ?_ rfl
      clear hf; intro a hf
      refine st_skip hf (wantN hf rfl rfl hb161) rfl (by decide) ?_ rfl
      clear hf; intro a hf
      obtain rfl := Option.some.inj hz160
      refine st_pick (v := .bool true) hf rfl rfl (fun hb' => ?_) (fun hb' => ?_) (by decide) ?_
      · rfl
      · exact absurd (hb161.symm.trans hb') (by decide)
      clear hf; intro a ha hf; clear ha
      refine st_nil hf (th_n ?_)
      exact ⟨hf.sub ⟨rfl, rfl, rfl, rfl, rfl, trivial⟩, hp⟩
    replace hz160 := ifF hz160 hb161
    refine st_move hf (wantY hf rfl rfl hb161) rfl (by decide) ?_
    clear hf; intro a ha hf; clear ha
    refine st_move hf (wantY hf rfl rfl hb161) rfl (by decide) ?_
    clear hf; intro a ha hf; clear ha
    obtain ⟨q163, hcall164, hz160⟩ := bnd hz160
    refine st_call hf (by decide) Try.func15 rfl rfl (wantY hf rfl rfl hb161) rfl rfl (f_plane_Turn_c hp _ _ _ (show Fl.rep v5 (q3).1 from y7) (show Fl.rep v6 (q3).2 from y8) _ hcall164) ?_
    rintro _ w ⟨v165, v166, rfl, y167, y168, hp0⟩
    clear hp; have hp := hp0; clear hp0
    replace hp : Hp _ _ _ (Res.obj 38 v1 [.int .i16 xx0_A_0, .int .i16 xx0_A_1, .int .i16 xx0_B_0, .int .i16 xx0_B_1, .int .i16 xx0_C_0, .int .i16 xx0_C_1, .int .i64 xx0_N, .int .i64 xx0_M] :: ow) := hp
    refine ⟨_, rfl, ?_⟩
    clear hf; intro a hf
    refine st_move hf (wantY hf rfl rfl hb161) rfl (by decide) ?_
    clear hf; intro a ha hf; clear ha
    obtain ⟨q169, hcall170, hz160⟩ := bnd hz160
    refine st_call hf (by decide) Try.func15 rfl rfl (wantY hf rfl rfl hb161) rfl rfl (f_plane_Turn_c hp _ _ _ (show Fl.rep v165 (q163).1 from y167) (show Fl.rep v166 (q163).2 from y168) _ hcall170) ?_
    rintro _ w ⟨v171, v172, rfl, y173, y174, hp0⟩
    clear hp; have hp := hp0; clear hp0
    replace hp : Hp _ _ _ (Res.obj 38 v1 [.int .i16 xx0_A_0, .int .i16 xx0_A_1, .int .i16 xx0_B_0, .int .i16 xx0_B_1, .int .i16 xx0_C_0, .int .i16 xx0_C_1, .int .i64 xx0_N, .int .i64 xx0_M] :: ow) := hp
    refine ⟨_, rfl, ?_⟩
    clear hf; intro a hf
    refine st_move hf (wantY hf rfl rfl hb161) rfl (by decide) ?_
    clear hf; intro a ha hf; clear ha
    refine st_move hf (wantY hf rfl rfl hb161) rfl (by decide) ?_
    clear hf; intro a ha hf; clear ha
    refine st_move hf (wantY hf rfl rfl hb161) rfl (by decide) ?_
    clear hf; intro a ha hf; clear ha
    refine st_iadd hf (by decide) (wantY hf rfl rfl hb161) rfl rfl ?_
    clear hf; intro a ha hf; clear ha
    obtain ⟨q175, hcall176, hz160⟩ := bnd hz160
    refine st_call hf (by decide) Try.func15 rfl rfl (wantY hf rfl rfl hb161) rfl rfl (f_plane_Turn_c hp _ _ _ (show Fl.rep v5 (q3).1 from y7) (show Fl.rep v6 (q3).2 from y8) _ hcall176) ?_
    rintro _ w ⟨v177, v178, rfl, y179, y180, hp0⟩
    clear hp; have hp := hp0; clear hp0
    replace hp : Hp _ _ _ (Res.obj 38 v1 [.int .i16 xx0_A_0, .int .i16 xx0_A_1, .int .i16 xx0_B_0, .int .i16 xx0_B_1, .int .i16 xx0_C_0, .int .i16 xx0_C_1, .int .i64 xx0_N, .int .i64 xx0_M] :: ow) := hp
    refine ⟨_, rfl, ?_⟩
    clear hf; intro a hf
    refine st_ccmp (r_cne (x := q169) (y := q175) y173 y174 y179 y180) hf (by decide) (wantY hf rfl rfl hb161) rfl rfl ?_
    clear hf; intro a ha hf; clear ha
    obtain rfl := Option.some.inj hz160
    refine st_pick (v := .bool (!ceq q169 q175)) hf rfl rfl (fun hb' => ?_) (fun hb' => ?_) (by decide) ?_
    · exact absurd (hb161.symm.trans hb') (by decide)
    · rfl
    clear hf; intro a ha hf; clear ha
    refine st_nil hf (th_n ?_)
    exact ⟨hf.sub ⟨rfl, rfl, rfl, rfl, rfl, trivial⟩, hp⟩
  rintro a w ⟨hf, hp⟩
  refine st_move hf rfl rfl (by decide) ?_
  clear hf; intro a ha hf; clear ha
  obtain ⟨z183, hz181, h⟩ := bnd h
  refine wpList_cut 8 (fun a w => Fr 158 a [(3, .complex .f64 v5 v6), (4, .complex .f64 v11 v12), (8, .complex .f64 v23 v24), (117, .bool z183)] ∧ Hp S w0 w (Res.obj 38 v1 [.int .i16 xx0_A_0, .int .i16 xx0_A_1, .int .i16 xx0_B_0, .int .i16 xx0_B_1, .int .i16 xx0_C_0, .int .i16 xx0_C_1, .int .i64 xx0_N, .int .i64 xx0_M] :: ow)) ?_ ?_
  · rcases Bool.eq_false_or_eq_true z162 with hb182 | hb182
    · skip
      replace hz181 := ifT hz181 hb182
      refine st_skip hf (wantN hf rfl rfl hb182) rfl (by decide) ?_ rfl
      clear hf; intro a hf
      refine st_skip hf (wantN hf rfl rfl hb182) rfl (by decide) ?_ rfl
      clear hf; intro a hf
      refine st_skip hf (wantN hf rfl rfl hb182) rfl (by decide) ?_ rfl
      clear hf; intro a hf
      refine st_skip hf (wantN hf rfl rfl hb182) rfl (by decide) ?_ rfl
      clear hf; intro a hf
      refine st_skip hf (wantN hf rfl rfl hb182) rfl (by decide) ?_ rfl
      clear hf; intro a hf
      refine st_skip hf (wantN hf rfl rfl hb182) rfl (by decide) ?_ rfl
      clear hf; intro a hf
      refine st_skip hf (wantN hf rfl rfl hb182) rfl (by decide) ?_ rfl
      clear hf; intro a hf
      obtain rfl := Option.some.inj hz181
      refine st_pick (v := .bool true) hf rfl rfl (fun hb' => ?_) (fun hb' => ?_) (by decide) ?_
      · rfl
      · exact absurd (hb182.symm.trans hb') (by decide)
      clear hf; intro a ha hf; clear ha
      refine st_nil hf (th_n ?_)
      exact ⟨hf.sub ⟨rfl, rfl, rfl, rfl, trivial⟩, hp⟩
    replace hz181 := ifF hz181 hb182
    refine st_move hf (wantY hf rfl rfl hb182) rfl (by decide) ?_
    clear hf; intro a ha hf; clear ha
    refine st_move hf (wantY hf rfl rfl hb182) rfl (by decide) ?_
    clear hf; intro a ha hf; clear ha
    refine st_irem hf (by decide) (wantY hf rfl rfl hb182) rfl rfl (by decide) ?_
    clear hf; intro a ha hf; clear ha
    refine st_imul hf (by decide) (wantY hf rfl rfl hb182) rfl rfl ?_
    clear hf; intro a ha hf; clear ha
    obtain ⟨q184, hcall185, hz181⟩ := bnd hz181
    refine st_call hf (by decide) Try.func15 rfl rfl (wantY hf rfl rfl hb182) rfl rfl (f_plane_Turn_c hp _ _ _ (show Fl.rep v5 (q3).1 from y7) (show Fl.rep v6 (q3).2 from y8) _ hcall185) ?_
    rintro _ w ⟨v186, v187, rfl, y188, y189, hp0⟩
    clear hp; have hp := hp0; clear hp0
    replace hp : Hp _ _ _ (Res.obj 38 v1 [.int .i16 xx0_A_0, .int .i16 xx0_A_1, .int .i16 xx0_B_0, .int .i16 xx0_B_1, .int .i16 xx0_C_0, .int .i16 xx0_C_1, .int .i64 xx0_N, .int .i64 xx0_M] :: ow) := hp
    refine ⟨_, rfl, ?_⟩
    clear hf; intro a hf
    refine st_move hf (wantY hf rfl rfl hb182) rfl (by decide) ?_
    clear hf; intro a ha hf; clear ha
    refine st_ccmp (r_cne (x := q184) (y := q3) y188 y189 y7 y8) hf (by decide) (wantY hf rfl rfl hb182) rfl rfl ?_
    clear hf; intro a ha hf; clear ha
    obtain rfl := Option.some.inj hz181
    refine st_pick (v := .bool (!ceq q184 q3)) hf rfl rfl (fun hb' => ?_) (fun hb' => ?_) (by decide) ?_
    · exact absurd (hb182.symm.trans hb') (by decide)
    · rfl
    clear hf; intro a ha hf; clear ha
    refine st_nil hf (th_n ?_)
    exact ⟨hf.sub ⟨rfl, rfl, rfl, rfl, trivial⟩, hp⟩
  rintro a w ⟨hf, hp⟩
  refine st_nil hf ?_
  refine th_n ?_
  refine wp_if hf rfl (fun hb => ?_) (fun hb => ?_)
  · replace h := ifT h hb
    refine wp_seq ?_
    refine wp_reg ?_
    refine st_assign hf rfl rfl (by decide) ?_
    clear hf; intro a ha hf; clear ha
    refine st_nil hf ?_
    refine th_n ?_
    refine wp_ret ?_
    refine th_r ?_
    obtain rfl := Option.some.inj h
    have hp : Hp _ _ _ (ow) := Hp.sel (pre := [Res.obj 38 v1 [.int .i16 xx0_A_0, .int .i16 xx0_A_1, .int .i16 xx0_B_0, .int .i16 xx0_B_1, .int .i16 xx0_C_0, .int .i16 xx0_C_1, .int .i64 xx0_N, .int .i64 xx0_M]]) (tail := ow) (rs' := []) hp [] (by decide) (by simp) rfl
    exact ⟨rfl, ⟨hf.sub ⟨rfl, trivial⟩, hp⟩⟩
  replace h := ifF h hb
  refine wp_skip ?_
  refine th_n ?_
  refine wp_seq ?_
  refine wp_reg ?_
  refine st_move hf rfl rfl (by decide) ?_
  clear hf; intro a ha hf; clear ha
  obtain ⟨q190, hcall191, h⟩ := bnd h
  refine st_call hf (by decide) Try.func20 rfl rfl rfl rfl rfl (f_plane_Norm_c hp _ _ _ (show Fl.rep v23 (q21).1 from y25) (show Fl.rep v24 (q21).2 from y26) hcall191) ?_
  rintro _ w ⟨v192, rfl, y193, hp0⟩
  clear hp; have hp := hp0; clear hp0
  replace hp : Hp _ _ _ (Res.obj 38 v1 [.int .i16 xx0_A_0, .int .i16 xx0_A_1, .int .i16 xx0_B_0, .int .i16 xx0_B_1, .int .i16 xx0_C_0, .int .i16 xx0_C_1, .int .i64 xx0_N, .int .i64 xx0_M] :: ow) := hp
  refine ⟨_, rfl, ?_⟩
  clear hf; intro a hf
  refine st_move hf rfl rfl (by decide) ?_
  clear hf; intro a ha hf; clear ha
  obtain ⟨q194, hcall195, h⟩ := bnd h
  refine st_call hf (by decide) Try.func20 rfl rfl rfl rfl rfl (f_plane_Norm_c hp _ _ _ (show Fl.rep v5 (q3).1 from y7) (show Fl.rep v6 (q3).2 from y8) hcall195) ?_
  rintro _ w ⟨v196, rfl, y197, hp0⟩
  clear hp; have hp := hp0; clear hp0
  replace hp : Hp _ _ _ (Res.obj 38 v1 [.int .i16 xx0_A_0, .int .i16 xx0_A_1, .int .i16 xx0_B_0, .int .i16 xx0_B_1, .int .i16 xx0_C_0, .int .i16 xx0_C_1, .int .i64 xx0_N, .int .i64 xx0_M] :: ow) := hp
  refine ⟨_, rfl, ?_⟩
  clear hf; intro a hf
  refine st_move hf rfl rfl (by decide) ?_
  clear hf; intro a ha hf; clear ha
  obtain ⟨q198, hcall199, h⟩ := bnd h
  refine st_call hf (by decide) Try.func20 rfl rfl rfl rfl rfl (f_plane_Norm_c hp _ _ _ (show Fl.rep v11 (q9).1 from y13) (show Fl.rep v12 (q9).2 from y14) hcall199) ?_
  rintro _ w ⟨v200, rfl, y201, hp0⟩
  clear hp; have hp := hp0; clear hp0
  replace hp : Hp _ _ _ (Res.obj 38 v1 [.int .i16 xx0_A_0, .int .i16 xx0_A_1, .int .i16 xx0_B_0, .int .i16 xx0_B_1, .int .i16 xx0_C_0, .int .i16 xx0_C_1, .int .i64 xx0_N, .int .i64 xx0_M] :: ow) := hp
  refine ⟨_, rfl, ?_⟩
  clear hf; intro a hf
  refine st_farith (op := .mul) rfl hf (by decide) hp rfl rfl rfl (show Fl.rep v196 q194 from y197) (show Fl.rep v200 q198 from y201) ?_
  clear hf; intro a w bb202 y203 hf hp0; clear hp; have hp := hp0; clear hp0
  replace hp : Hp _ _ _ (Res.obj 38 v1 [.int .i16 xx0_A_0, .int .i16 xx0_A_1, .int .i16 xx0_B_0, .int .i16 xx0_B_1, .int .i16 xx0_C_0, .int .i16 xx0_C_1, .int .i64 xx0_N, .int .i64 xx0_M] :: ow) := hp
  refine st_fcmp (r_feq (fx := q190) (fy := (fmul q194 q198)) y193 y203) hf (by decide) rfl rfl rfl ?_
  clear hf; intro a ha hf; clear ha
  refine st_move hf rfl rfl (by decide) ?_
  clear hf; intro a ha hf; clear ha
  obtain ⟨z206, hz204, h⟩ := bnd h
  refine wpList_cut 9 (fun a w => Fr 158 a [(3, .complex .f64 v5 v6), (4, .complex .f64 v11 v12), (8, .complex .f64 v23 v24), (135, .bool z206)] ∧ Hp S w0 w (Res.obj 38 v1 [.int .i16 xx0_A_0, .int .i16 xx0_A_1, .int .i16 xx0_B_0, .int .i16 xx0_B_1, .int .i16 xx0_C_0, .int .i16 xx0_C_1, .int .i64 xx0_N, .int .i64 xx0_M] :: ow)) ?_ ?_
  · rcases Bool.eq_false_or_eq_true (feq q190 (fmul q194 q198)) with hb205 | hb205
    · skip
      replace hz204 := ifT hz204 hb205
      refine st_move hf (wantY hf rfl rfl hb205) rfl (by decide) ?_
      clear hf; intro a ha hf; clear ha
      refine st_move hf (wantY hf rfl rfl hb205) rfl (by decide) ?_
      clear hf; intro a ha hf; clear ha
      obtain ⟨q207, hcall208, hz204⟩ := bnd hz204
      refine st_call hf (by decide) Try.func17 rfl rfl (wantY hf rfl rfl hb205) rfl rfl (f_plane_Conj_c hp _ _ _ (show Fl.rep v5 (q3).1 from y7) (show Fl.rep v6 (q3).2 from y8) hcall208) ?_
      rintro _ w ⟨v209, v210, rfl, y211, y212, hp0⟩
      clear hp; have hp := hp0; clear hp0
      replace hp : Hp _ _ _ (Res.obj 38 v1 [.int .i16 xx0_A_0, .int .i16 xx0_A_1, .int .i16 xx0_B_0, .int .i16 xx0_B_1, .int .i16 xx0_C_0, .int .i16 xx0_C_1, .int .i64 xx0_N, .int .i64 xx0_M] :: ow) := hp
      refine ⟨_, rfl, ?_⟩
      clear hf; intro a hf
      obtain ⟨q213, hcall214, hz204⟩ := bnd hz204
      refine st_call hf (by decide) Try.func13 rfl rfl (wantY hf rfl rfl hb205) rfl rfl (f_plane_Mul_c hp _ _ _ (show Fl.rep v5 (q3).1 from y7) (show Fl.rep v6 (q3).2 from y8) _ _ _ (show Fl.rep v209 (q207).1 from y211) (show Fl.rep v210 (q207).2 from y212) hcall214) ?_
      rintro _ w ⟨v215, v216, rfl, y217, y218, hp0⟩
      clear hp; have hp := hp0; clear hp0
      replace hp : Hp _ _ _ (Res.obj 38 v1 [.int .i16 xx0_A_0, .int .i16 xx0_A_1, .int .i16 xx0_B_0, .int .i16 xx0_B_1, .int .i16 xx0_C_0, .int .i16 xx0_C_1, .int .i64 xx0_N, .int .i64 xx0_M] :: ow) := hp
      refine ⟨_, rfl, ?_⟩
      clear hf; intro a hf
      refine st_move hf (wantY hf rfl rfl hb205) rfl (by decide) ?_
      clear hf; intro a ha hf; clear ha
      obtain ⟨q219, hcall220, hz204⟩ := bnd hz204
      refine st_call hf (by decide) Try.func20 rfl rfl (wantY hf rfl rfl hb205) rfl rfl (f_plane_Norm_c hp _ _ _ (show Fl.rep v5 (q3).1 from y7) (show Fl.rep v6 (q3).2 from y8) hcall220) ?_
      rintro _ w ⟨v221, rfl, y222, hp0⟩
      clear hp; have hp := hp0; clear hp0
      replace hp : Hp _ _ _ (Res.obj 38 v1 [.int .i16 xx0_A_0, .int .i16 xx0_A_1, .int .i16 xx0_B_0, .int .i16 xx0_B_1, .int .i16 xx0_C_0, .int .i16 xx0_C_1, .int .i64 xx0_N, .int .i64 xx0_M] :: ow) := hp
      refine ⟨_, rfl, ?_⟩
      clear hf; intro a hf
      refine st_complex hf (by decide) (wantY hf rfl rfl hb205) rfl rfl ?_
      clear hf; intro a ha hf; clear ha
      refine st_ccmp (r_ceq (x := q213) (y := (q219, (Fl.bits 0))) y217 y218 y222 rfl) hf (by decide) (wantY hf rfl rfl hb205) rfl rfl ?_
      clear hf; intro a ha hf; clear ha
      obtain rfl := Option.some.inj hz204
      refine st_pick (v := .bool (ceq q213 (q219, (Fl.bits 0)))) hf rfl rfl (fun hb' => ?_) (fun hb' => ?_) (by decide) ?_
      · rfl
      · exact absurd (hb205.symm.trans hb') (by decide)
      clear hf; intro a ha hf; clear ha
      refine st_nil hf (th_n ?_)
      exact ⟨hf.sub ⟨rfl, rfl, rfl, rfl, trivial⟩, hp⟩
    replace hz204 := ifF hz204 hb205
    refine st_skip hf (wantN hf rfl rfl hb205) rfl (by decide) ?_ rfl
    clear hf; intro a hf
    refine st_skip hf (wantN hf rfl rfl hb205) rfl (by decide) ?_ rfl
    clear hf; intro a hf
    refine st_skip hf (wantN hf rfl rfl hb205) rfl (by decide) ?_ rfl
    clear hf; intro a hf
    refine st_skip hf (wantN hf rfl rfl hb205) rfl (by decide) ?_ rfl
    clear hf; intro a hf
    refine st_skip hf (wantN hf rfl rfl hb205) rfl (by decide) ?_ rfl
    clear hf; intro a hf
    refine st_skip hf (wantN hf rfl rfl hb205) rfl (by decide) ?_ rfl
    clear hf; intro a hf
    refine st_skip hf (wantN hf rfl rfl hb205) rfl (by decide) ?_ rfl
    clear hf; intro a hf
    refine st_skip hf (wantN hf rfl rfl hb205) rfl (by decide) ?_ rfl
    clear hf; intro a hf
    obtain rfl := Option.some.inj hz204
    refine st_pick (v := .bool false) hf rfl rfl (fun hb' => ?_) (fun hb' => ?_) (by decide) ?_
    · exact absurd (hb205.symm.trans hb') (by decide)
    · rfl
    clear hf; intro a ha hf; clear ha
    refine st_nil hf (th_n ?_)
    exact ⟨hf.sub ⟨rfl, rfl, rfl, rfl, trivial⟩, hp⟩
  rintro a w ⟨hf, hp⟩
  refine st_move hf rfl rfl (by decide) ?_
  clear hf; intro a ha hf; clear ha
  obtain ⟨z225, hz223, h⟩ := bnd h
  refine wpList_cut 8 (fun a w => Fr 158 a [(3, .complex .f64 v5 v6), (4, .complex .f64 v11 v12), (8, .complex .f64 v23 v24), (144, .bool z225)] ∧ Hp S w0 w (Res.obj 38 v1 [.int .i16 xx0_A_0, .int .i16 xx0_A_1, .int .i16 xx0_B_0, .int .i16 xx0_B_1, .int .i16 xx0_C_0, .int .i16 xx0_C_1, .int .i64 xx0_N, .int .i64 xx0_M] :: ow)) ?_ ?_
  · rcases Bool.eq_false_or_eq_true z206 with hb224 | hb224
    · skip
      replace hz223 := ifT hz223 hb224
      refine st_move hf (wantY hf rfl rfl hb224) rfl (by decide) ?_
      clear hf; intro a ha hf; clear ha
      refine st_move hf (wantY hf rfl rfl hb224) rfl (by decide) ?_
      clear hf; intro a ha hf; clear ha
      obtain ⟨q226, hcall227, hz223⟩ := bnd hz223
      refine st_call hf (by decide) Try.func22 rfl rfl (wantY hf rfl rfl hb224) rfl rfl (f_plane_Apart_c hp _ _ _ (show Fl.rep v5 (q3).1 from y7) (show Fl.rep v6 (q3).2 from y8) _ _ _ (show Fl.rep v11 (q9).1 from y13) (show Fl.rep v12 (q9).2 from y14) hcall227) ?_
      rintro _ w ⟨v228, rfl, y229, hp0⟩
      clear hp; have hp := hp0; clear hp0
      replace hp : Hp _ _ _ (Res.obj 38 v1 [.int .i16 xx0_A_0, .int .i16 xx0_A_1, .int .i16 xx0_B_0, .int .i16 xx0_B_1, .int .i16 xx0_C_0, .int .i16 xx0_C_1, .int .i64 xx0_N, .int .i64 xx0_M] :: ow) := hp
      refine ⟨_, rfl, ?_⟩
      clear hf; intro a hf
      refine st_move hf (wantY hf rfl rfl hb224) rfl (by decide) ?_
      clear hf; intro a ha hf; clear ha
      refine st_move hf (wantY hf rfl rfl hb224) rfl (by decide) ?_
      clear hf; intro a ha hf; clear ha
      obtain ⟨q230, hcall231, hz223⟩ := bnd hz223
      refine st_call hf (by decide) Try.func22 rfl rfl (wantY hf rfl rfl hb224) rfl rfl (f_plane_Apart_c hp _ _ _ (show Fl.rep v11 (q9).1 from y13) (show Fl.rep v12 (q9).2 from y14) _ _ _ (show Fl.rep v5 (q3).1 from y7) (show Fl.rep v6 (q3).2 from y8) hcall231) ?_
      rintro _ w ⟨v232, rfl, y233, hp0⟩
      clear hp; have hp := hp0; clear hp0
      replace hp : Hp _ _ _ (Res.obj 38 v1 [.int .i16 xx0_A_0, .int .i16 xx0_A_1, .int .i16 xx0_B_0, .int .i16 xx0_B_1, .int .i16 xx0_C_0, .int .i16 xx0_C_1, .int .i64 xx0_N, .int .i64 xx0_M] :: ow) := hp
      refine ⟨_, rfl, ?_⟩
      clear hf; intro a hf
      refine st_fcmp (r_feq (fx := q226) (fy := q230) y229 y233) hf (by decide) (wantY hf rfl rfl hb224) rfl rfl ?_
      clear hf; intro a ha hf; clear ha
      obtain rfl := Option.some.inj hz223
      refine st_pick (v := .bool (feq q226 q230)) hf rfl rfl (fun hb' => ?_) (fun hb' => ?_) (by decide) ?_
      · rfl
      · exact absurd (hb224.symm.trans hb') (by decide)
      clear hf; intro a ha hf; clear ha
      refine st_nil hf (th_n ?_)
      exact ⟨hf.sub ⟨rfl, rfl, rfl, rfl, trivial⟩, hp⟩
    replace hz223 := ifF hz223 hb224
    refine st_skip hf (wantN hf rfl rfl hb224) rfl (by decide) ?_ rfl
    clear hf; intro a hf
    refine st_skip hf (wantN hf rfl rfl hb224) rfl (by decide) ?_ rfl
    clear hf; intro a hf
    refine st_skip hf (wantN hf rfl rfl hb224) rfl (by decide) ?_ rfl
    clear hf; intro a hf
    refine st_skip hf (wantN hf rfl rfl hb224) rfl (by decide) ?_ rfl
    clear hf; intro a hf
    refine st_skip hf (wantN hf rfl rfl hb224) rfl (by decide) ?_ rfl
    clear hf; intro a hf
    refine st_skip hf (wantN hf rfl rfl hb224) rfl (by decide) ?_ rfl
    clear hf; intro a hf
    refine st_skip hf (wantN hf rfl rfl hb224) rfl (by decide) ?_ rfl
    clear hf; intro a hf
    obtain rfl := Option.some.inj hz223
    refine st_pick (v := .bool false) hf rfl rfl (fun hb' => ?_) (fun hb' => ?_) (by decide) ?_
    · exact absurd (hb224.symm.trans hb') (by decide)
    · rfl
    clear hf; intro a ha hf; clear ha
    refine st_nil hf (th_n ?_)
    exact ⟨hf.sub ⟨rfl, rfl, rfl, rfl, trivial⟩, hp⟩
  rintro a w ⟨hf, hp⟩
  refine st_move hf rfl rfl (by decide) ?_
  clear hf; intro a ha hf; clear ha
  obtain ⟨z236, hz234, h⟩ := bnd h
  refine wpList_cut 9 (fun a w => Fr 158 a [(154, .bool z236)] ∧ Hp S w0 w (Res.obj 38 v1 [.int .i16 xx0_A_0, .int .i16 xx0_A_1, .int .i16 xx0_B_0, .int .i16 xx0_B_1, .int .i16 xx0_C_0, .int .i16 xx0_C_1, .int .i64 xx0_N, .int .i64 xx0_M] :: ow)) ?_ ?_
  · rcases Bool.eq_false_or_eq_true z225 with hb235 | hb235
    · skip
      replace hz234 := ifT hz234 hb235
      refine st_move hf (wantY hf rfl rfl hb235) rfl (by decide) ?_
      clear hf; intro a ha hf; clear ha
      obtain ⟨q237, hcall238, hz234⟩ := bnd hz234
      refine st_call hf (by decide) Try.func17 rfl rfl (wantY hf rfl rfl hb235) rfl rfl (f_plane_Conj_c hp _ _ _ (show Fl.rep v23 (q21).1 from y25) (show Fl.rep v24 (q21).2 from y26) hcall238) ?_
      rintro _ w ⟨v239, v240, rfl, y241, y242, hp0⟩
      clear hp; have hp := hp0; clear hp0
      replace hp : Hp _ _ _ (Res.obj 38 v1 [.int .i16 xx0_A_0, .int .i16 xx0_A_1, .int .i16 xx0_B_0, .int .i16 xx0_B_1, .int .i16 xx0_C_0, .int .i16 xx0_C_1, .int .i64 xx0_N, .int .i64 xx0_M] :: ow) := hp
      refine ⟨_, rfl, ?_⟩
      clear hf; intro a hf
      refine st_move hf (wantY hf rfl rfl hb235) rfl (by decide) ?_
      clear hf; intro a ha hf; clear ha
      obtain ⟨q243, hcall244, hz234⟩ := bnd hz234
      refine st_call hf (by decide) Try.func17 rfl rfl (wantY hf rfl rfl hb235) rfl rfl (f_plane_Conj_c hp _ _ _ (show Fl.rep v5 (q3).1 from y7) (show Fl.rep v6 (q3).2 from y8) hcall244) ?_
      rintro _ w ⟨v245, v246, rfl, y247, y248, hp0⟩
      clear hp; have hp := hp0; clear hp0
      replace hp : Hp _ _ _ (Res.obj 38 v1 [.int .i16 xx0_A_0, .int .i16 xx0_A_1, .int .i16 xx0_B_0, .int .i16 xx0_B_1, .int .i16 xx0_C_0, .int .i16 xx0_C_1, .int .i64 xx0_N, .int .i64 xx0_M] :: ow) := hp
      refine ⟨_, rfl, ?_⟩
      clear hf; intro a hf
      refine st_move hf (wantY hf rfl rfl hb235) rfl (by decide) ?_
      clear hf; intro a ha hf; clear ha
      obtain ⟨q249, hcall250, hz234⟩ := bnd hz234
      refine st_call hf (by decide) Try.func17 rfl rfl (wantY hf rfl rfl hb235) rfl rfl (f_plane_Conj_c hp _ _ _ (show Fl.rep v11 (q9).1 from y13) (show Fl.rep v12 (q9).2 from y14) hcall250) ?_
      rintro _ w ⟨v251, v252, rfl, y253, y254, hp0⟩
      clear hp; have hp := hp0; clear hp0
      replace hp : Hp _ _ _ (Res.obj 38 v1 [.int .i16 xx0_A_0, .int .i16 xx0_A_1, .int .i16 xx0_B_0, .int .i16 xx0_B_1, .int .i16 xx0_C_0, .int .i16 xx0_C_1, .int .i64 xx0_N, .int .i64 xx0_M] :: ow) := hp
      refine ⟨_, rfl, ?_⟩
      clear hf; intro a hf
      obtain ⟨q255, hcall256, hz234⟩ := bnd hz234
      refine st_call hf (by decide) Try.func13 rfl rfl (wantY hf rfl rfl hb235) rfl rfl (f_plane_Mul_c hp _ _ _ (show Fl.rep v245 (q243).1 from y247) (show Fl.rep v246 (q243).2 from y248) _ _ _ (show Fl.rep v251 (q249).1 from y253) (show Fl.rep v252 (q249).2 from y254) hcall256) ?_
      rintro _ w ⟨v257, v258, rfl, y259, y260, hp0⟩
      clear hp; have hp := hp0; clear hp0
      replace hp : Hp _ _ _ (Res.obj 38 v1 [.int .i16 xx0_A_0, .int .i16 xx0_A_1, .int .i16 xx0_B_0, .int .i16 xx0_B_1, .int .i16 xx0_C_0, .int .i16 xx0_C_1, .int .i64 xx0_N, .int .i64 xx0_M] :: ow) := hp
      refine ⟨_, rfl, ?_⟩
      clear hf; intro a hf
      refine st_ccmp (r_ceq (x := q237) (y := q255) y241 y242 y259 y260) hf (by decide) (wantY hf rfl rfl hb235) rfl rfl ?_
      clear hf; intro a ha hf; clear ha
      obtain rfl := Option.some.inj hz234
      refine st_pick (v := .bool (ceq q237 q255)) hf rfl rfl (fun hb' => ?_) (fun hb' => ?_) (by decide) ?_
      · rfl
      · exact absurd (hb235.symm.trans hb') (by decide)
      clear hf; intro a ha hf; clear ha
      refine st_nil hf (th_n ?_)
      exact ⟨hf.sub ⟨rfl, trivial⟩, hp⟩
    replace hz234 := ifF hz234 hb235
    refine st_skip hf (wantN hf rfl rfl hb235) rfl (by decide) ?_ rfl
    clear hf; intro a hf
    refine st_skip hf (wantN hf rfl rfl hb235) rfl (by decide) ?_ rfl
    clear hf; intro a hf
    refine st_skip hf (wantN hf rfl rfl hb235) rfl (by decide) ?_ rfl
    clear hf; intro a hf
    refine st_skip hf (wantN hf rfl rfl hb235) rfl (by decide) ?_ rfl
    clear hf; intro a hf
    refine st_skip hf (wantN hf rfl rfl hb235) rfl (by decide) ?_ rfl
    clear hf; intro a hf
    refine st_skip hf (wantN hf rfl rfl hb235) rfl (by decide) ?_ rfl
    clear hf; intro a hf
    refine st_skip hf (wantN hf rfl rfl hb235) rfl (by decide) ?_ rfl
    clear hf; intro a hf
    refine st_skip hf (wantN hf rfl rfl hb235) rfl (by decide) ?_ rfl
    clear hf; intro a hf
    obtain rfl := Option.some.inj hz234
    refine st_pick (v := .bool false) hf rfl rfl (fun hb' => ?_) (fun hb' => ?_) (by decide) ?_
    · exact absurd (hb235.symm.trans hb') (by decide)
    · rfl
    clear hf; intro a ha hf; clear ha
    refine st_nil hf (th_n ?_)
    exact ⟨hf.sub ⟨rfl, trivial⟩, hp⟩
  rintro a w ⟨hf, hp⟩
  refine st_move hf rfl rfl (by decide) ?_
  clear hf; intro a ha hf; clear ha
  obtain ⟨z263, hz261, h⟩ := bnd h
  refine wpList_cut 2 (fun a w => Fr 158 a [(157, .bool z263)] ∧ Hp S w0 w (Res.obj 38 v1 [.int .i16 xx0_A_0, .int .i16 xx0_A_1, .int .i16 xx0_B_0, .int .i16 xx0_B_1, .int .i16 xx0_C_0, .int .i16 xx0_C_1, .int .i64 xx0_N, .int .i64 xx0_M] :: ow)) ?_ ?_
  · rcases Bool.eq_false_or_eq_true z236 with hb262 | hb262
    · skip
      replace hz261 := ifT hz261 hb262
      obtain ⟨q264, hcall265, hz261⟩ := bnd hz261
      refine st_call hf (by decide) Try.func24 rfl rfl (wantY hf rfl rfl hb262) rfl rfl (f_foghornlaw03_awake_c hp  hcall265) ?_
      rintro _ w ⟨rfl, hp0⟩
      clear hp; have hp := hp0; clear hp0
      replace hp : Hp _ _ _ (Res.obj 38 v1 [.int .i16 xx0_A_0, .int .i16 xx0_A_1, .int .i16 xx0_B_0, .int .i16 xx0_B_1, .int .i16 xx0_C_0, .int .i16 xx0_C_1, .int .i64 xx0_N, .int .i64 xx0_M] :: ow) := hp
      refine ⟨_, rfl, ?_⟩
      clear hf; intro a hf
      obtain rfl := Option.some.inj hz261
      refine st_pick (v := .bool q264) hf rfl rfl (fun hb' => ?_) (fun hb' => ?_) (by decide) ?_
      · rfl
      · exact absurd (hb262.symm.trans hb') (by decide)
      clear hf; intro a ha hf; clear ha
      refine st_nil hf (th_n ?_)
      exact ⟨hf.sub ⟨rfl, trivial⟩, hp⟩
    replace hz261 := ifF hz261 hb262
    refine st_skip hf (wantN hf rfl rfl hb262) rfl (by decide) ?_ rfl
    clear hf; intro a hf
    obtain rfl := Option.some.inj hz261
    refine st_pick (v := .bool false) hf rfl rfl (fun hb' => ?_) (fun hb' => ?_) (by decide) ?_
    · exact absurd (hb262.symm.trans hb') (by decide)
    · rfl
    clear hf; intro a ha hf; clear ha
    refine st_nil hf (th_n ?_)
    exact ⟨hf.sub ⟨rfl, trivial⟩, hp⟩
  rintro a w ⟨hf, hp⟩
  refine st_assign hf rfl rfl (by decide) ?_
  clear hf; intro a ha hf; clear ha
  refine st_nil hf ?_
  refine th_n ?_
  refine wp_ret ?_
  obtain rfl := Option.some.inj h
  have hp : Hp _ _ _ (ow) := Hp.sel (pre := [Res.obj 38 v1 [.int .i16 xx0_A_0, .int .i16 xx0_A_1, .int .i16 xx0_B_0, .int .i16 xx0_B_1, .int .i16 xx0_C_0, .int .i16 xx0_C_1, .int .i64 xx0_N, .int .i64 xx0_M]]) (tail := ow) (rs' := []) hp [] (by decide) (by simp) rfl
  exact ⟨rfl, ⟨hf.sub ⟨rfl, trivial⟩, hp⟩⟩

end Go.Proofs.Yteifkccomfdciaa
