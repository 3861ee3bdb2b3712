/- The functions foghorn foghornlaw03.PlaneNone: what each answers, as a plain function, and that its call answers it; printed by gen.py. -/
import Derived.Test.YteifkccomfdciaaProg
import Derived.Test.YteifkccomfdciaaGlU
import Derived.KernelRfl
set_option linter.unusedVariables false
set_option linter.unusedSimpArgs false
set_option maxRecDepth 100000
set_option maxHeartbeats 4000000
namespace Go.Proofs.Yteifkccomfdciaa
open GL
theorem elt24 : ElT Try.prog Ek.c128 24 16 (Fl.bits 0, Fl.bits 0) := ElT.of (z := .complex .f64 0 0) (by kernel_rfl) ⟨_, _, rfl, rfl, rfl⟩
theorem pl2 : Plain Try.prog 2 := ⟨⟨_, Try.underlying2, trivial⟩⟩
theorem pl24 : Plain Try.prog 24 := ⟨⟨_, Try.underlying24, trivial⟩⟩
noncomputable def f_plane_Mul (ax0 : (Fl × Fl)) (bx1 : (Fl × Fl)) : Option (Fl × Fl) := (some ((fsub (fmul ax0.1 bx1.1) (fmul ax0.2 bx1.2)), (fadd (fmul ax0.1 bx1.2) (fmul ax0.2 bx1.1))))
theorem f_plane_Mul_c {S : Nat → Prop} {w0 w : World} {ow : List Res} (hp : Hp S w0 w ow) (bax0 cax0 : Nat) (ax0 : Fl × Fl) (hax0 : ax0.1.rep bax0) (kax0 : ax0.2.rep cax0) (bbx1 cbx1 : Nat) (bx1 : Fl × Fl) (hbx1 : bx1.1.rep bbx1) (kbx1 : bx1.2.rep cbx1) {r : (Fl × Fl)} (h : f_plane_Mul ax0 bx1 = some r) :
    Calls Try.prog 13 #[.complex .f64 bax0 cax0, .complex .f64 bbx1 cbx1] w (fun e w' => ∃ (b0 : Nat) (b1 : Nat), e = .returned (.complex .f64 b0 b1) ∧ Fl.rep b0 r.1 ∧ Fl.rep b1 r.2 ∧ Hp S w0 w' (ow)) := by
  unfold f_plane_Mul at h
  refine enter (n := 32) (args := [.complex .f64 bax0 cax0, .complex .f64 bbx1 cbx1]) Try.func13 rfl rfl (Nat.le_of_ble_eq_true rfl) fun a hf => ?_
  replace hf : Fr 32 a [(0, .complex .f64 bax0 cax0), (1, .complex .f64 bbx1 cbx1)] := hf
  refine wp_mono (Q := fun e a w => e = .ret ∧ ∃ (b0 : Nat) (b1 : Nat), Fr 32 a [(4, .complex .f64 b0 b1)] ∧ Fl.rep b0 r.1 ∧ Fl.rep b1 r.2 ∧ Hp S w0 w (ow)) ?_ ?_
  rotate_left
  · rintro e a w ⟨rfl, x0, x1, hf, y0, y1, hp⟩
    exact ret1 hf rfl rfl ⟨x0, x1, rfl, y0, y1, hp⟩
  refine wp_seq ?_
  refine wp_reg ?_
  refine st_assign hf rfl rfl (by decide) ?_
  clear hf; intro a ha hf; clear ha
  refine st_nil hf ?_
  refine th_n ?_
  refine wp_seq ?_
  refine wp_reg ?_
  refine st_move hf rfl rfl (by decide) ?_
  clear hf; intro a ha hf; clear ha
  refine st_real hf (by decide) rfl rfl ?_
  clear hf; intro a ha hf; clear ha
  refine st_move hf rfl rfl (by decide) ?_
  clear hf; intro a ha hf; clear ha
  refine st_real hf (by decide) rfl rfl ?_
  clear hf; intro a ha hf; clear ha
  refine st_farith (op := .mul) rfl hf (by decide) hp rfl rfl rfl (show Fl.rep bax0 ax0.1 from hax0) (show Fl.rep bbx1 bx1.1 from hbx1) ?_
  clear hf; intro a w bb1 y2 hf hp0; clear hp; have hp := hp0; clear hp0
  replace hp : Hp _ _ _ (ow) := hp
  refine st_move hf rfl rfl (by decide) ?_
  clear hf; intro a ha hf; clear ha
  refine st_imag hf (by decide) rfl rfl ?_
  clear hf; intro a ha hf; clear ha
  refine st_move hf rfl rfl (by decide) ?_
  clear hf; intro a ha hf; clear ha
  refine st_imag hf (by decide) rfl rfl ?_
  clear hf; intro a ha hf; clear ha
  refine st_farith (op := .mul) rfl hf (by decide) hp rfl rfl rfl (show Fl.rep cax0 ax0.2 from kax0) (show Fl.rep cbx1 bx1.2 from kbx1) ?_
  clear hf; intro a w bb3 y4 hf hp0; clear hp; have hp := hp0; clear hp0
  replace hp : Hp _ _ _ (ow) := hp
  refine st_farith (op := .sub) rfl hf (by decide) hp rfl rfl rfl (show Fl.rep bb1 (fmul ax0.1 bx1.1) from y2) (show Fl.rep bb3 (fmul ax0.2 bx1.2) from y4) ?_
  clear hf; intro a w bb5 y6 hf hp0; clear hp; have hp := hp0; clear hp0
  replace hp : Hp _ _ _ (ow) := hp
  refine st_assign hf rfl rfl (by decide) ?_
  clear hf; intro a ha hf; clear ha
  refine st_nil hf ?_
  refine th_n ?_
  refine wp_seq ?_
  refine wp_reg ?_
  refine st_move hf rfl rfl (by decide) ?_
  clear hf; intro a ha hf; clear ha
  refine st_real hf (by decide) rfl rfl ?_
  clear hf; intro a ha hf; clear ha
  refine st_move hf rfl rfl (by decide) ?_
  clear hf; intro a ha hf; clear ha
  refine st_imag hf (by decide) rfl rfl ?_
  clear hf; intro a ha hf; clear ha
  refine st_farith (op := .mul) rfl hf (by decide) hp rfl rfl rfl (show Fl.rep bax0 ax0.1 from hax0) (show Fl.rep cbx1 bx1.2 from kbx1) ?_
  clear hf; intro a w bb7 y8 hf hp0; clear hp; have hp := hp0; clear hp0
  replace hp : Hp _ _ _ (ow) := hp
  refine st_move hf rfl rfl (by decide) ?_
  clear hf; intro a ha hf; clear ha
  refine st_imag hf (by decide) rfl rfl ?_
  clear hf; intro a ha hf; clear ha
  refine st_move hf rfl rfl (by decide) ?_
  clear hf; intro a ha hf; clear ha
  refine st_real hf (by decide) rfl rfl ?_
  clear hf; intro a ha hf; clear ha
  refine st_farith (op := .mul) rfl hf (by decide) hp rfl rfl rfl (show Fl.rep cax0 ax0.2 from kax0) (show Fl.rep bbx1 bx1.1 from hbx1) ?_
  clear hf; intro a w bb9 y10 hf hp0; clear hp; have hp := hp0; clear hp0
  replace hp : Hp _ _ _ (ow) := hp
  refine st_farith (op := .add) rfl hf (by decide) hp rfl rfl rfl (show Fl.rep bb7 (fmul ax0.1 bx1.2) from y8) (show Fl.rep bb9 (fmul ax0.2 bx1.1) from y10) ?_
  clear hf; intro a w bb11 y12 hf hp0; clear hp; have hp := hp0; clear hp0
  replace hp : Hp _ _ _ (ow) := hp
  refine st_assign hf rfl rfl (by decide) ?_
  clear hf; intro a ha hf; clear ha
  refine st_nil hf ?_
  refine th_n ?_
  refine wp_seq ?_
  refine wp_reg ?_
  refine st_move hf rfl rfl (by decide) ?_
  clear hf; intro a ha hf; clear ha
  refine st_move hf rfl rfl (by decide) ?_
  clear hf; intro a ha hf; clear ha
  refine st_complex hf (by decide) rfl rfl rfl ?_
  clear hf; intro a ha hf; clear ha
  refine st_assign hf rfl rfl (by decide) ?_
  clear hf; intro a ha hf; clear ha
  refine st_nil hf ?_
  refine th_n ?_
  refine wp_ret ?_
  obtain rfl := Option.some.inj h
  exact ⟨rfl, ⟨_, _, hf.sub ⟨rfl, trivial⟩, y6, y12, hp⟩⟩

noncomputable def f_plane_Filter.s2c (hx0 : (List (Fl × Fl))) (row1 : (List (Fl × Fl))) (t27 : Int) (out6 : (List (Fl × Fl))) (t35 : Int) : Option (((List (Fl × Fl)) × Int) ⊕ (List (Fl × Fl))) := (if (decide (t35 < (imin (hx0.length : Int) (IntKind.i64.wrap (t27 + (1 : Int)))))) = true then (if 0 ≤ t27 ∧ t27 < (out6.length : Int) then (if 0 ≤ t35 ∧ t35 < (hx0.length : Int) then (if 0 ≤ (IntKind.i64.wrap (t27 - t35)) ∧ (IntKind.i64.wrap (t27 - t35)) < (row1.length : Int) then ((f_plane_Mul (gt hx0 t35) (gt row1 (IntKind.i64.wrap (t27 - t35)))).bind fun q43 => (if 0 ≤ t27 ∧ t27 < (out6.length : Int) then (some (Sum.inl ((out6.set (t27).toNat (cadd (gt out6 t27) q43)), (IntKind.i64.wrap (t35 + (1 : Int)))))) else none)) else none) else none) else none) else (some (Sum.inr out6)))
noncomputable def f_plane_Filter.s2 (hx0 : (List (Fl × Fl))) (row1 : (List (Fl × Fl))) (t27 : Int) (s : ((List (Fl × Fl)) × Int)) : Option (((List (Fl × Fl)) × Int) ⊕ (List (Fl × Fl))) := f_plane_Filter.s2c hx0 row1 t27 s.1 s.2
noncomputable def f_plane_Filter.s1c (hx0 : (List (Fl × Fl))) (row1 : (List (Fl × Fl))) (out6 : (List (Fl × Fl))) (t27 : Int) : Option (((List (Fl × Fl)) × Int) ⊕ (List (Fl × Fl))) := (if (decide (t27 < (row1.length : Int))) = true then ((loop (f_plane_Filter.s2 hx0 row1 t27) (out6, (0 : Int))).bind (fun q54 => (some (Sum.inl (q54, (IntKind.i64.wrap (t27 + (1 : Int)))))))) else (some (Sum.inr out6)))
noncomputable def f_plane_Filter.s1 (hx0 : (List (Fl × Fl))) (row1 : (List (Fl × Fl))) (s : ((List (Fl × Fl)) × Int)) : Option (((List (Fl × Fl)) × Int) ⊕ (List (Fl × Fl))) := f_plane_Filter.s1c hx0 row1 s.1 s.2
noncomputable def f_plane_Filter (hx0 : (List (Fl × Fl))) (row1 : (List (Fl × Fl))) : Option ((List (Fl × Fl)) × Int) := (if ((((hx0.length : Int) == (0 : Int)) || (decide ((64 : Int) < (hx0.length : Int)))) || (decide ((65536 : Int) < (row1.length : Int)))) = true then (some ([], (1 : Int))) else (if 0 ≤ (row1.length : Int) ∧ (row1.length : Int) ≤ (row1.length : Int) ∧ (row1.length : Int) * 16 ≤ 281474976710656 then ((loop (f_plane_Filter.s1 hx0 row1) ((List.replicate ((row1.length : Int)).toNat (Fl.bits 0, Fl.bits 0)), (0 : Int))).bind (fun q55 => (some (q55, (0 : Int))))) else none))
theorem f_plane_Filter_c {S : Nat → Prop} {w0 w : World} {ow : List Res} (hp : Hp S w0 w ow) (vhx0 : Value) (hx0 : (List (Fl × Fl))) (hhx0 : RdS Ek.c128 S w0 vhx0 hx0) (vrow1 : Value) (row1 : (List (Fl × Fl))) (hrow1 : RdS Ek.c128 S w0 vrow1 row1) {r : ((List (Fl × Fl)) × Int)} (h : f_plane_Filter hx0 row1 = some r) :
    Calls Try.prog 28 #[vhx0, vrow1] w (fun e w' => ∃ (u0 : Value), e = .returned (.tuple #[u0, .int .i64 r.2]) ∧ Hp S w0 w' (Res.sl Ek.c128 24 u0 r.1 :: ow)) := by
  unfold f_plane_Filter at h
  refine enter (n := 58) (args := [vhx0, vrow1]) Try.func28 rfl rfl (Nat.le_of_ble_eq_true rfl) fun a hf => ?_
  replace hf : Fr 58 a [(0, vhx0), (1, vrow1)] := hf
  refine wp_mono (Q := fun e a w => e = .ret ∧ ∃ (u0 : Value), Fr 58 a [(4, u0), (5, .int .i64 r.2)] ∧ Hp S w0 w (Res.sl Ek.c128 24 u0 r.1 :: ow)) ?_ ?_
  rotate_left
  · rintro e a w ⟨rfl, x0, hf, hp⟩
    exact ret2 hf rfl rfl rfl ⟨x0, rfl, hp⟩
  refine wp_seq ?_
  refine wp_reg ?_
  refine st_assign hf rfl rfl (by decide) ?_
  clear hf; intro a ha hf; clear ha
  refine st_assign hf rfl rfl (by decide) ?_
  clear hf; intro a ha hf; clear ha
  refine st_nil hf ?_
  refine th_n ?_
  refine wp_seq ?_
  refine wp_seq ?_
  refine wp_reg ?_
  refine st_move hf rfl rfl (by decide) ?_
  clear hf; intro a ha hf; clear ha
  refine st_len (E := Ek.c128) hf (by decide) Try.underlying41 rfl rfl (hhx0.sl hp) ?_
  clear hf; intro a ha hf; clear ha
  refine st_ieql hf (by decide) rfl rfl rfl ?_
  clear hf; intro a ha hf; clear ha
  refine st_move hf rfl rfl (by decide) ?_
  clear hf; intro a ha hf; clear ha
  refine wpList_cut 4 (fun a w => Fr 58 a [(0, vhx0), (1, vrow1), (16, .bool (((hx0.length : Int) == (0 : Int)) || (decide ((64 : Int) < (hx0.length : Int)))))] ∧ Hp S w0 w (ow)) ?_ ?_
  · rcases Bool.eq_false_or_eq_true ((hx0.length : Int) == (0 : Int)) with hb2 | hb2
    · skip
      refine st_skip hf (wantN hf rfl rfl hb2) rfl (by decide) ?_ rfl
      clear hf; intro a hf
      refine st_skip hf (wantN hf rfl rfl hb2) rfl (by decide) ?_ rfl
      clear hf; intro a hf
      refine st_skip hf (wantN hf rfl rfl hb2) rfl (by decide) ?_ rfl
      clear hf; intro a hf
      refine st_pick (v := .bool true) hf rfl rfl (fun hb' => ?_) (fun hb' => ?_) (by decide) ?_
      · rfl
      · exact absurd (hb2.symm.trans hb') (by decide)
      clear hf; intro a ha hf; clear ha
      refine st_nil hf (th_n ?_)
      exact ⟨hf.sub ⟨rfl, rfl, (by rw [hb2]; rfl), trivial⟩, hp⟩
    refine st_move hf (wantY hf rfl rfl hb2) rfl (by decide) ?_
    clear hf; intro a ha hf; clear ha
    refine st_len (E := Ek.c128) hf (by decide) Try.underlying41 (wantY hf rfl rfl hb2) rfl (hhx0.sl hp) ?_
    clear hf; intro a ha hf; clear ha
    refine st_igtr hf (by decide) (wantY hf rfl rfl hb2) rfl rfl ?_
    clear hf; intro a ha hf; clear ha
    refine st_pick (v := .bool (decide ((64 : Int) < (hx0.length : Int)))) hf rfl rfl (fun hb' => ?_) (fun hb' => ?_) (by decide) ?_
    · exact absurd (hb2.symm.trans hb') (by decide)
    · rfl
    clear hf; intro a ha hf; clear ha
    refine st_nil hf (th_n ?_)
    exact ⟨hf.sub ⟨rfl, rfl, (by rw [hb2]; rfl), trivial⟩, hp⟩
  rintro a w ⟨hf, hp⟩
  refine st_move hf rfl rfl (by decide) ?_
  clear hf; intro a ha hf; clear ha
  refine wpList_cut 4 (fun a w => Fr 58 a [(0, vhx0), (1, vrow1), (21, .bool ((((hx0.length : Int) == (0 : Int)) || (decide ((64 : Int) < (hx0.length : Int)))) || (decide ((65536 : Int) < (row1.length : Int)))))] ∧ Hp S w0 w (ow)) ?_ ?_
  · rcases Bool.eq_false_or_eq_true (((hx0.length : Int) == (0 : Int)) || (decide ((64 : Int) < (hx0.length : Int)))) with hb4 | hb4
    · skip
      refine st_skip hf (wantN hf rfl rfl hb4) rfl (by decide) ?_ rfl
      clear hf; intro a hf
      refine st_skip hf (wantN hf rfl rfl hb4) rfl (by decide) ?_ rfl
      clear hf; intro a hf
      refine st_skip hf (wantN hf rfl rfl hb4) rfl (by decide) ?_ rfl
      clear hf; intro a hf
      refine st_pick (v := .bool true) hf rfl rfl (fun hb' => ?_) (fun hb' => ?_) (by decide) ?_
      · rfl
      · exact absurd (hb4.symm.trans hb') (by decide)
      clear hf; intro a ha hf; clear ha
      refine st_nil hf (th_n ?_)
      exact ⟨hf.sub ⟨rfl, rfl, (by rw [hb4]; rfl), trivial⟩, hp⟩
    refine st_move hf (wantY hf rfl rfl hb4) rfl (by decide) ?_
    clear hf; intro a ha hf; clear ha
    refine st_len (E := Ek.c128) hf (by decide) Try.underlying41 (wantY hf rfl rfl hb4) rfl (hrow1.sl hp) ?_
    clear hf; intro a ha hf; clear ha
    refine st_igtr hf (by decide) (wantY hf rfl rfl hb4) rfl rfl ?_
    clear hf; intro a ha hf; clear ha
    refine st_pick (v := .bool (decide ((65536 : Int) < (row1.length : Int)))) hf rfl rfl (fun hb' => ?_) (fun hb' => ?_) (by decide) ?_
    · exact absurd (hb4.symm.trans hb') (by decide)
    · rfl
    clear hf; intro a ha hf; clear ha
    refine st_nil hf (th_n ?_)
    exact ⟨hf.sub ⟨rfl, rfl, (by rw [hb4]; rfl), trivial⟩, hp⟩
  rintro a w ⟨hf, hp⟩
  refine st_nil hf ?_
  refine th_n ?_
  refine wp_if hf rfl (fun hb => ?_) (fun hb => ?_)
  · replace h := ifT h hb
    refine wp_seq ?_
    refine wp_reg ?_
    refine st_assign hf rfl rfl (by decide) ?_
    clear hf; intro a ha hf; clear ha
    refine st_assign hf rfl rfl (by decide) ?_
    clear hf; intro a ha hf; clear ha
    refine st_nil hf ?_
    refine th_n ?_
    refine wp_ret ?_
    refine th_r ?_
    obtain rfl := Option.some.inj h
    have hp := hp.nil Ek.c128 24
    exact ⟨rfl, ⟨_, hf.sub ⟨rfl, rfl, trivial⟩, hp⟩⟩
  replace h := ifF h hb
  refine wp_skip ?_
  refine th_n ?_
  refine wp_seq ?_
  refine wp_reg ?_
  refine st_move hf rfl rfl (by decide) ?_
  clear hf; intro a ha hf; clear ha
  refine st_len (E := Ek.c128) hf (by decide) Try.underlying41 rfl rfl (hrow1.sl hp) ?_
  clear hf; intro a ha hf; clear ha
  obtain ⟨hc6, h⟩ := chk h
  refine st_make (E := Ek.c128) hf (by decide) elt24 Try.underlying41 (by decide) hp rfl rfl rfl hc6.1 hc6.2.1 hc6.2.2 ?_
  clear hf; intro a w v7 hf hp0; clear hp; have hp := hp0; clear hp0
  replace hp : Hp _ _ _ (Res.sl Ek.c128 24 v7 (List.replicate ((row1.length : Int)).toNat (Fl.bits 0, Fl.bits 0)) :: ow) := hp
  refine st_assign hf rfl rfl (by decide) ?_
  clear hf; intro a ha hf; clear ha
  refine st_nil hf ?_
  refine th_n ?_
  refine wp_seq ?_
  refine wp_seq ?_
  refine wp_reg ?_
  refine st_move hf rfl rfl (by decide) ?_
  clear hf; intro a ha hf; clear ha
  refine st_len (E := Ek.c128) hf (by decide) Try.underlying41 rfl rfl (hrow1.sl hp) ?_
  clear hf; intro a ha hf; clear ha
  refine st_move hf rfl rfl (by decide) ?_
  clear hf; intro a ha hf; clear ha
  refine st_nil hf ?_
  refine th_n ?_
  refine wp_block ?_
  obtain ⟨q55, hl, h⟩ := bnd h
  refine wp_loop_pure (f := (f_plane_Filter.s1 hx0 row1)) (s := ((List.replicate ((row1.length : Int)).toNat (Fl.bits 0, Fl.bits 0)), (0 : Int))) (fun s a w => ∃ (v9 : Value), Fr 58 a [(0, vhx0), (1, vrow1), (6, v9), (26, .int .i64 (row1.length : Int)), (27, .int .i64 s.2)] ∧ Hp S w0 w (Res.sl Ek.c128 24 v9 s.1 :: ow)) (fun q e a w => e = .exit 0 ∧ ∃ (v11 : Value), Fr 58 a [(6, v11)] ∧ Hp S w0 w (Res.sl Ek.c128 24 v11 q :: ow)) ?_ hl ⟨_, hf.sub ⟨rfl, rfl, rfl, rfl, rfl, trivial⟩, hp⟩ ?_
  · clear hl hf hp
    intro s x a w h hI
    obtain ⟨out6, t27⟩ := s
    obtain ⟨v9, hf, hp⟩ : ∃ (v9 : Value), Fr 58 a [(0, vhx0), (1, vrow1), (6, v9), (26, .int .i64 (row1.length : Int)), (27, .int .i64 t27)] ∧ Hp S w0 w (Res.sl Ek.c128 24 v9 out6 :: ow) := hI
    replace h : f_plane_Filter.s1c hx0 row1 out6 t27 = some x := h
    unfold f_plane_Filter.s1c at h
    refine wp_seq ?_
    refine wp_reg ?_
    refine st_ilss hf (by decide) rfl rfl rfl ?_
    clear hf; intro a ha hf; clear ha
    refine st_nil hf ?_
    refine th_n ?_
    refine wp_seq ?_
    refine wp_if hf rfl (fun hb => ?_) (fun hb => ?_)
    · replace h := ifT h hb
      refine wp_skip ?_
      refine th_n ?_
      refine wp_seq ?_
      refine wp_block ?_
      refine wp_seq ?_
      refine wp_reg ?_
      refine st_move hf rfl rfl (by decide) ?_
      clear hf; intro a ha hf; clear ha
      refine st_assign hf rfl rfl (by decide) ?_
      clear hf; intro a ha hf; clear ha
      refine st_nil hf ?_
      refine th_n ?_
      refine wp_seq ?_
      refine wp_reg ?_
      refine st_move hf rfl rfl (by decide) ?_
      clear hf; intro a ha hf; clear ha
      refine st_len (E := Ek.c128) hf (by decide) Try.underlying41 rfl rfl (hhx0.sl hp) ?_
      clear hf; intro a ha hf; clear ha
      refine st_move hf rfl rfl (by decide) ?_
      clear hf; intro a ha hf; clear ha
      refine st_iadd hf (by decide) rfl rfl rfl ?_
      clear hf; intro a ha hf; clear ha
      refine st_imin hf (by decide) rfl rfl rfl ?_
      clear hf; intro a ha hf; clear ha
      refine st_move hf rfl rfl (by decide) ?_
      clear hf; intro a ha hf; clear ha
      refine st_nil hf ?_
      refine th_n ?_
      refine wp_block ?_
      obtain ⟨q54, hl, h⟩ := bnd h
      refine wp_loop_pure (f := (f_plane_Filter.s2 hx0 row1 t27)) (s := (out6, (0 : Int))) (fun s a w => ∃ (v13 : Value), Fr 58 a [(0, vhx0), (1, vrow1), (6, v13), (7, .int .i64 t27), (26, .int .i64 (row1.length : Int)), (27, .int .i64 t27), (34, .int .i64 (imin (hx0.length : Int) (IntKind.i64.wrap (t27 + (1 : Int))))), (35, .int .i64 s.2)] ∧ Hp S w0 w (Res.sl Ek.c128 24 v13 s.1 :: ow)) (fun q e a w => e = .exit 2 ∧ ∃ (v15 : Value), Fr 58 a [(0, vhx0), (1, vrow1), (6, v15), (26, .int .i64 (row1.length : Int)), (27, .int .i64 t27)] ∧ Hp S w0 w (Res.sl Ek.c128 24 v15 q :: ow)) ?_ hl ⟨_, hf.sub ⟨rfl, rfl, rfl, rfl, rfl, rfl, rfl, rfl, trivial⟩, hp⟩ ?_
      · clear hl hf hp
        intro s x a w h hI
        obtain ⟨out6, t35⟩ := s
        obtain ⟨v13, hf, hp⟩ : ∃ (v13 : Value), Fr 58 a [(0, vhx0), (1, vrow1), (6, v13), (7, .int .i64 t27), (26, .int .i64 (row1.length : Int)), (27, .int .i64 t27), (34, .int .i64 (imin (hx0.length : Int) (IntKind.i64.wrap (t27 + (1 : Int))))), (35, .int .i64 t35)] ∧ Hp S w0 w (Res.sl Ek.c128 24 v13 out6 :: ow) := hI
        replace h : f_plane_Filter.s2c hx0 row1 t27 out6 t35 = some x := h
        unfold f_plane_Filter.s2c at h
        refine wp_seq ?_
        refine wp_reg ?_
        refine st_ilss hf (by decide) rfl rfl rfl ?_
        clear hf; intro a ha hf; clear ha
        refine st_nil hf ?_
        refine th_n ?_
        refine wp_seq ?_
        refine wp_if hf rfl (fun hb => ?_) (fun hb => ?_)
        · replace h := ifT h hb
          refine wp_skip ?_
          refine th_n ?_
          refine wp_seq ?_
          refine wp_block ?_
          refine wp_seq ?_
          refine wp_reg ?_
          refine st_move hf rfl rfl (by decide) ?_
          clear hf; intro a ha hf; clear ha
          refine st_assign hf rfl rfl (by decide) ?_
          clear hf; intro a ha hf; clear ha
          refine st_nil hf ?_
          refine th_n ?_
          obtain ⟨S17, hp18, rd19, up20, bk21⟩ := Hp.lendS hp (i := 0) rfl
          have rl22 := ((hhx0.now hp).mono up20)
          have rl23 := ((hrow1.now hp).mono up20)
          have rl24 := rd19
          obtain ⟨hc25, h⟩ := chk h
          obtain ⟨bb27, bb28, y29, y30, hl26⟩ := RdS.pinC (p := t27) rl24 hc25.1 hc25.2
          obtain ⟨hc31, h⟩ := chk h
          obtain ⟨bb33, bb34, y35, y36, hl32⟩ := RdS.pinC (p := t35) rl22 hc31.1 hc31.2
          obtain ⟨hc37, h⟩ := chk h
          obtain ⟨bb39, bb40, y41, y42, hl38⟩ := RdS.pinC (p := (IntKind.i64.wrap (t27 - t35))) rl23 hc37.1 hc37.2
          obtain ⟨q43, hcall44, h⟩ := bnd h
          obtain ⟨hc53, h⟩ := chk h
          refine wp_cutN (fun a w => Fr 58 a [(0, vhx0), (1, vrow1), (6, v13), (7, .int .i64 t27), (26, .int .i64 (row1.length : Int)), (27, .int .i64 t27), (34, .int .i64 (imin (hx0.length : Int) (IntKind.i64.wrap (t27 + (1 : Int))))), (35, .int .i64 t35)] ∧ Hp S w0 w (Res.sl Ek.c128 24 v13 (out6.set (t27).toNat (cadd (gt out6 t27) q43)) :: ow)) ?_ ?_
          · have hp := hp18.same (Same.drew w)
            refine dr_begin' (fun a w => Fr 58 a [(0, vhx0), (1, vrow1), (6, v13), (7, .int .i64 t27), (26, .int .i64 (row1.length : Int)), (27, .int .i64 t27), (34, .int .i64 (imin (hx0.length : Int) (IntKind.i64.wrap (t27 + (1 : Int))))), (35, .int .i64 t35)] ∧ Hp S w0 w (Res.sl Ek.c128 24 v13 (out6.set (t27).toNat (cadd (gt out6 t27) q43)) :: ow)) (fun w' => ∃ l, Hp S17 w w' l) [17] (by kernel_rfl) ?_
            refine dr_takeP 0 (v13) rfl (by kernel_rfl) (by kernel_rfl) (by kernel_rfl) rfl rfl hf (by decide) rfl (fun w => ?_) ?_
            · skip
              refine st_move hf rfl rfl (by decide) ?_
              clear hf; intro a ha hf
              exact st_nil hf (th_n ⟨ha, rfl⟩)
            clear hf; intro a hf
            refine dr_takeP 1 (.int .i64 t27) rfl (by kernel_rfl) (by kernel_rfl) (by kernel_rfl) rfl rfl hf (by decide) rfl (fun w => ?_) ?_
            · skip
              refine st_move hf rfl rfl (by decide) ?_
              clear hf; intro a ha hf
              exact st_nil hf (th_n ⟨ha, rfl⟩)
            clear hf; intro a hf
            refine dr_takeP 2 (eptr v13 t27 1) rfl (by kernel_rfl) (by kernel_rfl) (by kernel_rfl) rfl rfl hf (by decide) rfl (fun w => ?_) ?_
            · skip
              refine st_index (E := Ek.c128) hf (by decide) Try.underlying41 elt24 rfl rfl rfl rl24.any hc25.1 hc25.2 ?_
              clear hf; intro a ha hf
              exact st_nil hf (th_n ⟨ha, rfl⟩)
            clear hf; intro a hf
            refine dr_take2 3 (.complex .f64 bb27 bb28) rfl (by kernel_rfl) (by kernel_rfl) (by kernel_rfl) (by kernel_rfl) (by kernel_rfl) rfl rfl hf (by decide) rfl (fun w hp => ?_) ⟨_, hp⟩ ?_
            · obtain ⟨_, hp⟩ := hp
              refine st_ldP hf (by decide) pl24 rfl rfl (hl26 _ _ hp) ?_
              clear hf; intro a ha hf
              exact st_nil hf (th_n ⟨ha, rfl⟩)
            clear hf; intro a hf
            refine dr_takeP 4 (vhx0) rfl (by kernel_rfl) (by kernel_rfl) (by kernel_rfl) rfl rfl hf (by decide) rfl (fun w => ?_) ?_
            · skip
              refine st_move hf rfl rfl (by decide) ?_
              clear hf; intro a ha hf
              exact st_nil hf (th_n ⟨ha, rfl⟩)
            clear hf; intro a hf
            refine dr_takeP 5 (.int .i64 t35) rfl (by kernel_rfl) (by kernel_rfl) (by kernel_rfl) rfl rfl hf (by decide) rfl (fun w => ?_) ?_
            · skip
              refine st_move hf rfl rfl (by decide) ?_
              clear hf; intro a ha hf
              exact st_nil hf (th_n ⟨ha, rfl⟩)
            clear hf; intro a hf
            refine dr_takeP 6 (eptr vhx0 t35 1) rfl (by kernel_rfl) (by kernel_rfl) (by kernel_rfl) rfl rfl hf (by decide) rfl (fun w => ?_) ?_
            · skip
              refine st_index (E := Ek.c128) hf (by decide) Try.underlying41 elt24 rfl rfl rfl rl22.any hc31.1 hc31.2 ?_
              clear hf; intro a ha hf
              exact st_nil hf (th_n ⟨ha, rfl⟩)
            clear hf; intro a hf
            refine dr_take2 7 (.complex .f64 bb33 bb34) rfl (by kernel_rfl) (by kernel_rfl) (by kernel_rfl) (by kernel_rfl) (by kernel_rfl) rfl rfl hf (by decide) rfl (fun w hp => ?_) ⟨_, hp⟩ ?_
            · obtain ⟨_, hp⟩ := hp
              refine st_ldP hf (by decide) pl24 rfl rfl (hl32 _ _ hp) ?_
              clear hf; intro a ha hf
              exact st_nil hf (th_n ⟨ha, rfl⟩)
            clear hf; intro a hf
            refine dr_takeP 8 (vrow1) rfl (by kernel_rfl) (by kernel_rfl) (by kernel_rfl) rfl rfl hf (by decide) rfl (fun w => ?_) ?_
            · skip
              refine st_move hf rfl rfl (by decide) ?_
              clear hf; intro a ha hf
              exact st_nil hf (th_n ⟨ha, rfl⟩)
            clear hf; intro a hf
            refine dr_takeP 9 (.int .i64 t27) rfl (by kernel_rfl) (by kernel_rfl) (by kernel_rfl) rfl rfl hf (by decide) rfl (fun w => ?_) ?_
            · skip
              refine st_move hf rfl rfl (by decide) ?_
              clear hf; intro a ha hf
              exact st_nil hf (th_n ⟨ha, rfl⟩)
            clear hf; intro a hf
            refine dr_takeP 10 (.int .i64 t35) rfl (by kernel_rfl) (by kernel_rfl) (by kernel_rfl) rfl rfl hf (by decide) rfl (fun w => ?_) ?_
            · skip
              refine st_move hf rfl rfl (by decide) ?_
              clear hf; intro a ha hf
              exact st_nil hf (th_n ⟨ha, rfl⟩)
            clear hf; intro a hf
            refine dr_takeP 11 (.int .i64 (IntKind.i64.wrap (t27 - t35))) rfl (by kernel_rfl) (by kernel_rfl) (by kernel_rfl) rfl rfl hf (by decide) rfl (fun w => ?_) ?_
            · skip
              refine st_isub hf (by decide) rfl rfl rfl ?_
              clear hf; intro a ha hf
              exact st_nil hf (th_n ⟨ha, rfl⟩)
            clear hf; intro a hf
            refine dr_takeP 12 (eptr vrow1 (IntKind.i64.wrap (t27 - t35)) 1) rfl (by kernel_rfl) (by kernel_rfl) (by kernel_rfl) rfl rfl hf (by decide) rfl (fun w => ?_) ?_
            · skip
              refine st_index (E := Ek.c128) hf (by decide) Try.underlying41 elt24 rfl rfl rfl rl23.any hc37.1 hc37.2 ?_
              clear hf; intro a ha hf
              exact st_nil hf (th_n ⟨ha, rfl⟩)
            clear hf; intro a hf
            refine dr_take2 13 (.complex .f64 bb39 bb40) rfl (by kernel_rfl) (by kernel_rfl) (by kernel_rfl) (by kernel_rfl) (by kernel_rfl) rfl rfl hf (by decide) rfl (fun w hp => ?_) ⟨_, hp⟩ ?_
            · obtain ⟨_, hp⟩ := hp
              refine st_ldP hf (by decide) pl24 rfl rfl (hl38 _ _ hp) ?_
              clear hf; intro a ha hf
              exact st_nil hf (th_n ⟨ha, rfl⟩)
            clear hf; intro a hf
            refine dr_one 14 rfl (by kernel_rfl) ?_
            refine st_call hf (by decide) Try.func13 rfl rfl rfl rfl rfl (f_plane_Mul_c hp _ _ _ (show Fl.rep bb33 ((gt hx0 t35)).1 from y35) (show Fl.rep bb34 ((gt hx0 t35)).2 from y36) _ _ _ (show Fl.rep bb39 ((gt row1 (IntKind.i64.wrap (t27 - t35)))).1 from y41) (show Fl.rep bb40 ((gt row1 (IntKind.i64.wrap (t27 - t35)))).2 from y42) hcall44) ?_
            rintro _ w ⟨v45, v46, rfl, y47, y48, hp0⟩
            clear hp; have hp := hp0; clear hp0
            replace hp : Hp _ _ _ (ow) := hp
            refine ⟨_, rfl, ?_⟩
            clear hf; intro a hf
            refine st_nil hf (th_n ⟨fun _ _ => ⟨_, hp⟩, ?_⟩)
            refine dr_one 15 rfl (by kernel_rfl) ?_
            refine st_carith (op := .add) (zx := (gt out6 t27)) (zy := q43) rfl hf (by decide) hp rfl rfl rfl y29 y30 y47 y48 ?_
            clear hf; intro a w bb49 bb50 y51 y52 hf hp0; clear hp; have hp := hp0; clear hp0
            replace hp : Hp _ _ _ (ow) := hp
            refine st_nil hf (th_n ⟨fun _ _ => ⟨_, hp⟩, ?_⟩)
            refine dr_takeP 16 (eptr v13 t27 1) rfl (by kernel_rfl) (by kernel_rfl) (by kernel_rfl) rfl rfl hf (by decide) rfl (fun w => ?_) ?_
            · skip
              refine st_index (E := Ek.c128) hf (by decide) Try.underlying41 elt24 rfl rfl rfl rl24.any hc53.1 hc53.2 ?_
              clear hf; intro a ha hf
              exact st_nil hf (th_n ⟨ha, rfl⟩)
            clear hf; intro a hf
            have hp := bk21 _ _ hp
            refine dr_one 17 rfl (by kernel_rfl) ?_
            refine st_store (E := Ek.c128) hf elt24 hp (i := 0) rfl rfl rfl rfl (show Ek.c128.rep [.complex .f64 bb49 bb50] (cadd (gt out6 t27) q43) from ⟨_, _, rfl, y51, y52⟩) hc53.1 hc53.2 ?_
            clear hf; intro a w hf hp0; clear hp; have hp := hp0; clear hp0
            replace hp : Hp _ _ _ (Res.sl Ek.c128 24 v13 (out6.set (t27).toNat (cadd (gt out6 t27) q43)) :: ow) := hp
            refine st_nil hf (th_n ⟨fun hn => absurd hn (by decide), ?_⟩)
            refine dr_end (by kernel_rfl) ?_ _
            exact ⟨hf.sub ⟨rfl, rfl, rfl, rfl, rfl, rfl, rfl, rfl, trivial⟩, hp⟩
          rintro a w ⟨hf, hp⟩
          refine ib_n ?_
          refine th_n ?_
          refine wp_reg ?_
          refine st_iadd hf (by decide) rfl rfl rfl ?_
          clear hf; intro a ha hf; clear ha
          refine st_move hf rfl rfl (by decide) ?_
          clear hf; intro a ha hf; clear ha
          refine st_nil hf ?_
          obtain rfl := Option.some.inj h
          exact rnd_l ⟨_, hf.sub ⟨rfl, rfl, rfl, rfl, rfl, rfl, rfl, rfl, trivial⟩, hp⟩
        replace h := ifF h hb
        refine wp_exit ?_
        refine th_e ?_
        obtain rfl := Option.some.inj h
        exact rnd_r (by simp) ⟨rfl, _, hf.sub ⟨rfl, rfl, rfl, rfl, rfl, trivial⟩, hp⟩
      clear hl hf hp
      intro e a w hne hO
      obtain ⟨rfl, v15, hf, hp⟩ := hO
      refine ib_same ?_
      refine ib_n ?_
      refine th_n ?_
      refine wp_reg ?_
      refine st_iadd hf (by decide) rfl rfl rfl ?_
      clear hf; intro a ha hf; clear ha
      refine st_move hf rfl rfl (by decide) ?_
      clear hf; intro a ha hf; clear ha
      refine st_nil hf ?_
      obtain rfl := Option.some.inj h
      exact rnd_l ⟨_, hf.sub ⟨rfl, rfl, rfl, rfl, rfl, trivial⟩, hp⟩
    replace h := ifF h hb
    refine wp_exit ?_
    refine th_e ?_
    obtain rfl := Option.some.inj h
    exact rnd_r (by simp) ⟨rfl, _, hf.sub ⟨rfl, trivial⟩, hp⟩
  clear hl hf hp
  intro e a w hne hO
  obtain ⟨rfl, v11, hf, hp⟩ := hO
  refine ib_same ?_
  refine th_n ?_
  refine wp_seq ?_
  refine wp_reg ?_
  refine st_move hf rfl rfl (by decide) ?_
  clear hf; intro a ha hf; clear ha
  refine st_assign hf rfl rfl (by decide) ?_
  clear hf; intro a ha hf; clear ha
  refine st_assign hf rfl rfl (by decide) ?_
  clear hf; intro a ha hf; clear ha
  refine st_nil hf ?_
  refine th_n ?_
  refine wp_ret ?_
  obtain rfl := Option.some.inj h
  exact ⟨rfl, ⟨_, hf.sub ⟨rfl, rfl, trivial⟩, hp⟩⟩

noncomputable def f_plane_Gauss_may (g0_Re : Int) (g0_Im : Int) : Option Bool := (some ((((decide ((-1073741824 : Int) ≤ g0_Re)) && (decide (g0_Re ≤ (1073741824 : Int)))) && (decide ((-1073741824 : Int) ≤ g0_Im))) && (decide (g0_Im ≤ (1073741824 : Int)))))
theorem f_plane_Gauss_may_c {S : Nat → Prop} {w0 w : World} {ow : List Res} (hp : Hp S w0 w ow) (g0_Re : Int) (g0_Im : Int) {r : Bool} (h : f_plane_Gauss_may g0_Re g0_Im = some r) :
    Calls Try.prog 55 #[.agg #[.int .i64 g0_Re, .int .i64 g0_Im]] w (fun e w' => e = .returned (.bool r) ∧ Hp S w0 w' (ow)) := by
  unfold f_plane_Gauss_may at h
  refine enter (n := 21) (args := [.agg #[.int .i64 g0_Re, .int .i64 g0_Im]]) Try.func55 rfl rfl (Nat.le_of_ble_eq_true rfl) fun a hf => ?_
  replace hf : Fr 21 a [(0, .agg #[.int .i64 g0_Re, .int .i64 g0_Im])] := hf
  refine wp_mono (Q := fun e a w => e = .ret ∧ Fr 21 a [(2, .bool r)] ∧ Hp S w0 w (ow)) ?_ ?_
  rotate_left
  · rintro e a w ⟨rfl, hf, hp⟩
    exact ret1 hf rfl rfl ⟨rfl, hp⟩
  refine wp_seq ?_
  refine wp_reg ?_
  refine st_boxO (cs := [.int .i64 g0_Re, .int .i64 g0_Im]) hf (by decide) hp rfl rfl rfl ?_
  clear hf; intro a w v1 hf hp0; clear hp; have hp := hp0; clear hp0
  replace hp : Hp _ _ _ (Res.obj 56 v1 [.int .i64 g0_Re, .int .i64 g0_Im] :: ow) := hp
  refine st_assign hf rfl rfl (by decide) ?_
  clear hf; intro a ha hf; clear ha
  refine st_nil hf ?_
  refine th_n ?_
  refine wp_seq ?_
  refine wp_reg ?_
  refine st_fa (o' := 0) hf (by decide) (off := 0) (sz := 1) (by kernel_rfl) (by decide) rfl rfl (hp.ob (i := 0) rfl) rfl ?_
  clear hf; intro a ha hf; clear ha
  refine st_ldO (u := .int .i64 g0_Re) hf (by decide) pl2 rfl rfl (hp.ob (i := 0) rfl) rfl ?_
  clear hf; intro a ha hf; clear ha
  refine st_igeq hf (by decide) rfl rfl rfl ?_
  clear hf; intro a ha hf; clear ha
  refine st_move hf rfl rfl (by decide) ?_
  clear hf; intro a ha hf; clear ha
  refine wpList_cut 4 (fun a w => Fr 21 a [(1, optr v1 0), (10, .bool ((decide ((-1073741824 : Int) ≤ g0_Re)) && (decide (g0_Re ≤ (1073741824 : Int)))))] ∧ Hp S w0 w (Res.obj 56 v1 [.int .i64 g0_Re, .int .i64 g0_Im] :: ow)) ?_ ?_
  · rcases Bool.eq_false_or_eq_true (decide ((-1073741824 : Int) ≤ g0_Re)) with hb4 | hb4
    · skip
      refine st_fa (o' := 0) hf (by decide) (off := 0) (sz := 1) (by kernel_rfl) (by decide) (wantY hf rfl rfl hb4) rfl (hp.ob (i := 0) rfl) rfl ?_
      clear hf; intro a ha hf; clear ha
      refine st_ldO (u := .int .i64 g0_Re) hf (by decide) pl2 (wantY hf rfl rfl hb4) rfl (hp.ob (i := 0) rfl) rfl ?_
      clear hf; intro a ha hf; clear ha
      refine st_ileq hf (by decide) (wantY hf rfl rfl hb4) rfl rfl ?_
      clear hf; intro a ha hf; clear ha
      refine st_pick (v := .bool (decide (g0_Re ≤ (1073741824 : Int)))) hf rfl rfl (fun hb' => ?_) (fun hb' => ?_) (by decide) ?_
      · rfl
      · exact absurd (hb4.symm.trans hb') (by decide)
      clear hf; intro a ha hf; clear ha
      refine st_nil hf (th_n ?_)
      exact ⟨hf.sub ⟨rfl, (by rw [hb4]; rfl), trivial⟩, hp⟩
    refine st_skip hf (wantN hf rfl rfl hb4) rfl (by decide) ?_ rfl
    clear hf; intro a hf
    refine st_skip hf (wantN hf rfl rfl hb4) rfl (by decide) ?_ rfl
    clear hf; intro a hf
    refine st_skip hf (wantN hf rfl rfl hb4) rfl (by decide) ?_ rfl
    clear hf; intro a hf
    refine st_pick (v := .bool false) hf rfl rfl (fun hb' => ?_) (fun hb' => ?_) (by decide) ?_
    · exact absurd (hb4.symm.trans hb') (by decide)
    · rfl
    clear hf; intro a ha hf; clear ha
    refine st_nil hf (th_n ?_)
    exact ⟨hf.sub ⟨rfl, (by rw [hb4]; rfl), trivial⟩, hp⟩
  rintro a w ⟨hf, hp⟩
  refine st_move hf rfl rfl (by decide) ?_
  clear hf; intro a ha hf; clear ha
  refine wpList_cut 4 (fun a w => Fr 21 a [(1, optr v1 0), (15, .bool (((decide ((-1073741824 : Int) ≤ g0_Re)) && (decide (g0_Re ≤ (1073741824 : Int)))) && (decide ((-1073741824 : Int) ≤ g0_Im))))] ∧ Hp S w0 w (Res.obj 56 v1 [.int .i64 g0_Re, .int .i64 g0_Im] :: ow)) ?_ ?_
  · rcases Bool.eq_false_or_eq_true ((decide ((-1073741824 : Int) ≤ g0_Re)) && (decide (g0_Re ≤ (1073741824 : Int)))) with hb6 | hb6
    · skip
      refine st_fa (o' := 1) hf (by decide) (off := 1) (sz := 1) (by kernel_rfl) (by decide) (wantY hf rfl rfl hb6) rfl (hp.ob (i := 0) rfl) rfl ?_
      clear hf; intro a ha hf; clear ha
      refine st_ldO (u := .int .i64 g0_Im) hf (by decide) pl2 (wantY hf rfl rfl hb6) rfl (hp.ob (i := 0) rfl) rfl ?_
      clear hf; intro a ha hf; clear ha
      refine st_igeq hf (by decide) (wantY hf rfl rfl hb6) rfl rfl ?_
      clear hf; intro a ha hf; clear ha
      refine st_pick (v := .bool (decide ((-1073741824 : Int) ≤ g0_Im))) hf rfl rfl (fun hb' => ?_) (fun hb' => ?_) (by decide) ?_
      · rfl
      · exact absurd (hb6.symm.trans hb') (by decide)
      clear hf; intro a ha hf; clear ha
      refine st_nil hf (th_n ?_)
      exact ⟨hf.sub ⟨rfl, (by rw [hb6]; rfl), trivial⟩, hp⟩
    refine st_skip hf (wantN hf rfl rfl hb6) rfl (by decide) ?_ rfl
    clear hf; intro a hf
    refine st_skip hf (wantN hf rfl rfl hb6) rfl (by decide) ?_ rfl
    clear hf; intro a hf
    refine st_skip hf (wantN hf rfl rfl hb6) rfl (by decide) ?_ rfl
    clear hf; intro a hf
    refine st_pick (v := .bool false) hf rfl rfl (fun hb' => ?_) (fun hb' => ?_) (by decide) ?_
    · exact absurd (hb6.symm.trans hb') (by decide)
    · rfl
    clear hf; intro a ha hf; clear ha
    refine st_nil hf (th_n ?_)
    exact ⟨hf.sub ⟨rfl, (by rw [hb6]; rfl), trivial⟩, hp⟩
  rintro a w ⟨hf, hp⟩
  refine st_move hf rfl rfl (by decide) ?_
  clear hf; intro a ha hf; clear ha
  refine wpList_cut 4 (fun a w => Fr 21 a [(20, .bool ((((decide ((-1073741824 : Int) ≤ g0_Re)) && (decide (g0_Re ≤ (1073741824 : Int)))) && (decide ((-1073741824 : Int) ≤ g0_Im))) && (decide (g0_Im ≤ (1073741824 : Int)))))] ∧ Hp S w0 w (Res.obj 56 v1 [.int .i64 g0_Re, .int .i64 g0_Im] :: ow)) ?_ ?_
  · rcases Bool.eq_false_or_eq_true (((decide ((-1073741824 : Int) ≤ g0_Re)) && (decide (g0_Re ≤ (1073741824 : Int)))) && (decide ((-1073741824 : Int) ≤ g0_Im))) with hb8 | hb8
    · skip
      refine st_fa (o' := 1) hf (by decide) (off := 1) (sz := 1) (by kernel_rfl) (by decide) (wantY hf rfl rfl hb8) rfl (hp.ob (i := 0) rfl) rfl ?_
      clear hf; intro a ha hf; clear ha
      refine st_ldO (u := .int .i64 g0_Im) hf (by decide) pl2 (wantY hf rfl rfl hb8) rfl (hp.ob (i := 0) rfl) rfl ?_
      clear hf; intro a ha hf; clear ha
      refine st_ileq hf (by decide) (wantY hf rfl rfl hb8) rfl rfl ?_
      clear hf; intro a ha hf; clear ha
      refine st_pick (v := .bool (decide (g0_Im ≤ (1073741824 : Int)))) hf rfl rfl (fun hb' => ?_) (fun hb' => ?_) (by decide) ?_
      · rfl
      · exact absurd (hb8.symm.trans hb') (by decide)
      clear hf; intro a ha hf; clear ha
      refine st_nil hf (th_n ?_)
      exact ⟨hf.sub ⟨(by rw [hb8]; rfl), trivial⟩, hp⟩
    refine st_skip hf (wantN hf rfl rfl hb8) rfl (by decide) ?_ rfl
    clear hf; intro a hf
    refine st_skip hf (wantN hf rfl rfl hb8) rfl (by decide) ?_ rfl
    clear hf; intro a hf
    refine st_skip hf (wantN hf rfl rfl hb8) rfl (by decide) ?_ rfl
    clear hf; intro a hf
    refine st_pick (v := .bool false) hf rfl rfl (fun hb' => ?_) (fun hb' => ?_) (by decide) ?_
    · exact absurd (hb8.symm.trans hb') (by decide)
    · rfl
    clear hf; intro a ha hf; clear ha
    refine st_nil hf (th_n ?_)
    exact ⟨hf.sub ⟨(by rw [hb8]; rfl), trivial⟩, hp⟩
  rintro a w ⟨hf, hp⟩
  refine st_assign hf rfl rfl (by decide) ?_
  clear hf; intro a ha hf; clear ha
  refine st_nil hf ?_
  refine th_n ?_
  refine wp_ret ?_
  obtain rfl := Option.some.inj h
  have hp : Hp _ _ _ (ow) := Hp.sel (pre := [Res.obj 56 v1 [.int .i64 g0_Re, .int .i64 g0_Im]]) (tail := ow) (rs' := []) hp [] (by decide) (by simp) rfl
  exact ⟨rfl, ⟨hf.sub ⟨rfl, trivial⟩, hp⟩⟩

noncomputable def f_plane_Gauss_norm (g0_Re : Int) (g0_Im : Int) : Option Int := (some (IntKind.i64.wrap ((IntKind.i64.wrap (g0_Re * g0_Re)) + (IntKind.i64.wrap (g0_Im * g0_Im)))))
theorem f_plane_Gauss_norm_c {S : Nat → Prop} {w0 w : World} {ow : List Res} (hp : Hp S w0 w ow) (g0_Re : Int) (g0_Im : Int) {r : Int} (h : f_plane_Gauss_norm g0_Re g0_Im = some r) :
    Calls Try.prog 58 #[.agg #[.int .i64 g0_Re, .int .i64 g0_Im]] w (fun e w' => e = .returned (.int .i64 r) ∧ Hp S w0 w' (ow)) := by
  unfold f_plane_Gauss_norm at h
  refine enter (n := 14) (args := [.agg #[.int .i64 g0_Re, .int .i64 g0_Im]]) Try.func58 rfl rfl (Nat.le_of_ble_eq_true rfl) fun a hf => ?_
  replace hf : Fr 14 a [(0, .agg #[.int .i64 g0_Re, .int .i64 g0_Im])] := hf
  refine wp_mono (Q := fun e a w => e = .ret ∧ Fr 14 a [(2, .int .i64 r)] ∧ Hp S w0 w (ow)) ?_ ?_
  rotate_left
  · rintro e a w ⟨rfl, hf, hp⟩
    exact ret1 hf rfl rfl ⟨rfl, hp⟩
  refine wp_seq ?_
  refine wp_reg ?_
  refine st_boxO (cs := [.int .i64 g0_Re, .int .i64 g0_Im]) hf (by decide) hp rfl rfl rfl ?_
  clear hf; intro a w v1 hf hp0; clear hp; have hp := hp0; clear hp0
  replace hp : Hp _ _ _ (Res.obj 56 v1 [.int .i64 g0_Re, .int .i64 g0_Im] :: ow) := hp
  refine st_assign hf rfl rfl (by decide) ?_
  clear hf; intro a ha hf; clear ha
  refine st_nil hf ?_
  refine th_n ?_
  refine wp_seq ?_
  refine wp_reg ?_
  refine st_fa (o' := 0) hf (by decide) (off := 0) (sz := 1) (by kernel_rfl) (by decide) rfl rfl (hp.ob (i := 0) rfl) rfl ?_
  clear hf; intro a ha hf; clear ha
  refine st_ldO (u := .int .i64 g0_Re) hf (by decide) pl2 rfl rfl (hp.ob (i := 0) rfl) rfl ?_
  clear hf; intro a ha hf; clear ha
  refine st_fa (o' := 0) hf (by decide) (off := 0) (sz := 1) (by kernel_rfl) (by decide) rfl rfl (hp.ob (i := 0) rfl) rfl ?_
  clear hf; intro a ha hf; clear ha
  refine st_ldO (u := .int .i64 g0_Re) hf (by decide) pl2 rfl rfl (hp.ob (i := 0) rfl) rfl ?_
  clear hf; intro a ha hf; clear ha
  refine st_imul hf (by decide) rfl rfl rfl ?_
  clear hf; intro a ha hf; clear ha
  refine st_fa (o' := 1) hf (by decide) (off := 1) (sz := 1) (by kernel_rfl) (by decide) rfl rfl (hp.ob (i := 0) rfl) rfl ?_
  clear hf; intro a ha hf; clear ha
  refine st_ldO (u := .int .i64 g0_Im) hf (by decide) pl2 rfl rfl (hp.ob (i := 0) rfl) rfl ?_
  clear hf; intro a ha hf; clear ha
  refine st_fa (o' := 1) hf (by decide) (off := 1) (sz := 1) (by kernel_rfl) (by decide) rfl rfl (hp.ob (i := 0) rfl) rfl ?_
  clear hf; intro a ha hf; clear ha
  refine st_ldO (u := .int .i64 g0_Im) hf (by decide) pl2 rfl rfl (hp.ob (i := 0) rfl) rfl ?_
  clear hf; intro a ha hf; clear ha
  refine st_imul hf (by decide) rfl rfl rfl ?_
  clear hf; intro a ha hf; clear ha
  refine st_iadd hf (by decide) rfl rfl rfl ?_
  clear hf; intro a ha hf; clear ha
  refine st_assign hf rfl rfl (by decide) ?_
  clear hf; intro a ha hf; clear ha
  refine st_nil hf ?_
  refine th_n ?_
  refine wp_ret ?_
  obtain rfl := Option.some.inj h
  have hp : Hp _ _ _ (ow) := Hp.sel (pre := [Res.obj 56 v1 [.int .i64 g0_Re, .int .i64 g0_Im]]) (tail := ow) (rs' := []) hp [] (by decide) (by simp) rfl
  exact ⟨rfl, ⟨hf.sub ⟨rfl, trivial⟩, hp⟩⟩

noncomputable def f_plane_Gauss_Norm (g0_Re : Int) (g0_Im : Int) : Option (Int × Int) := ((f_plane_Gauss_may g0_Re g0_Im).bind fun q3 => (if (!q3) = true then (some ((0 : Int), (1 : Int))) else ((f_plane_Gauss_norm g0_Re g0_Im).bind fun q5 => (some (q5, (0 : Int))))))
theorem f_plane_Gauss_Norm_c {S : Nat → Prop} {w0 w : World} {ow : List Res} (hp : Hp S w0 w ow) (g0_Re : Int) (g0_Im : Int) {r : (Int × Int)} (h : f_plane_Gauss_Norm g0_Re g0_Im = some r) :
    Calls Try.prog 35 #[.agg #[.int .i64 g0_Re, .int .i64 g0_Im]] w (fun e w' => e = .returned (.tuple #[.int .i64 r.1, .int .i64 r.2]) ∧ Hp S w0 w' (ow)) := by
  unfold f_plane_Gauss_Norm at h
  refine enter (n := 9) (args := [.agg #[.int .i64 g0_Re, .int .i64 g0_Im]]) Try.func35 rfl rfl (Nat.le_of_ble_eq_true rfl) fun a hf => ?_
  replace hf : Fr 9 a [(0, .agg #[.int .i64 g0_Re, .int .i64 g0_Im])] := hf
  refine wp_mono (Q := fun e a w => e = .ret ∧ Fr 9 a [(2, .int .i64 r.1), (3, .int .i64 r.2)] ∧ Hp S w0 w (ow)) ?_ ?_
  rotate_left
  · rintro e a w ⟨rfl, hf, hp⟩
    exact ret2 hf rfl rfl rfl ⟨rfl, hp⟩
  refine wp_seq ?_
  refine wp_reg ?_
  refine st_boxO (cs := [.int .i64 g0_Re, .int .i64 g0_Im]) hf (by decide) hp rfl rfl rfl ?_
  clear hf; intro a w v1 hf hp0; clear hp; have hp := hp0; clear hp0
  replace hp : Hp _ _ _ (Res.obj 56 v1 [.int .i64 g0_Re, .int .i64 g0_Im] :: ow) := hp
  refine st_assign hf rfl rfl (by decide) ?_
  clear hf; intro a ha hf; clear ha
  refine st_assign hf rfl rfl (by decide) ?_
  clear hf; intro a ha hf; clear ha
  refine st_nil hf ?_
  refine th_n ?_
  refine wp_seq ?_
  refine wp_seq ?_
  refine wp_reg ?_
  refine st_ldOA (m := 2) (us := [.int .i64 g0_Re, .int .i64 g0_Im]) hf (by decide) (by kernel_rfl) rfl rfl (hp.ob (i := 0) rfl) rfl rfl ?_
  clear hf; intro a ha hf; clear ha
  obtain ⟨q3, hcall4, h⟩ := bnd h
  refine st_call hf (by decide) Try.func55 rfl rfl rfl rfl rfl (f_plane_Gauss_may_c hp _ _ hcall4) ?_
  rintro _ w ⟨rfl, hp0⟩
  clear hp; have hp := hp0; clear hp0
  replace hp : Hp _ _ _ (Res.obj 56 v1 [.int .i64 g0_Re, .int .i64 g0_Im] :: ow) := hp
  refine ⟨_, rfl, ?_⟩
  clear hf; intro a hf
  refine st_not hf (by decide) rfl rfl ?_
  clear hf; intro a ha hf; clear ha
  refine st_nil hf ?_
  refine th_n ?_
  refine wp_if hf rfl (fun hb => ?_) (fun hb => ?_)
  · replace h := ifT h hb
    refine wp_seq ?_
    refine wp_reg ?_
    refine st_assign hf rfl rfl (by decide) ?_
    clear hf; intro a ha hf; clear ha
    refine st_assign hf rfl rfl (by decide) ?_
    clear hf; intro a ha hf; clear ha
    refine st_nil hf ?_
    refine th_n ?_
    refine wp_ret ?_
    refine th_r ?_
    obtain rfl := Option.some.inj h
    have hp : Hp _ _ _ (ow) := Hp.sel (pre := [Res.obj 56 v1 [.int .i64 g0_Re, .int .i64 g0_Im]]) (tail := ow) (rs' := []) hp [] (by decide) (by simp) rfl
    exact ⟨rfl, ⟨hf.sub ⟨rfl, rfl, trivial⟩, hp⟩⟩
  replace h := ifF h hb
  refine wp_skip ?_
  refine th_n ?_
  refine wp_seq ?_
  refine wp_reg ?_
  refine st_ldOA (m := 2) (us := [.int .i64 g0_Re, .int .i64 g0_Im]) hf (by decide) (by kernel_rfl) rfl rfl (hp.ob (i := 0) rfl) rfl rfl ?_
  clear hf; intro a ha hf; clear ha
  obtain ⟨q5, hcall6, h⟩ := bnd h
  refine st_call hf (by decide) Try.func58 rfl rfl rfl rfl rfl (f_plane_Gauss_norm_c hp _ _ hcall6) ?_
  rintro _ w ⟨rfl, hp0⟩
  clear hp; have hp := hp0; clear hp0
  replace hp : Hp _ _ _ (Res.obj 56 v1 [.int .i64 g0_Re, .int .i64 g0_Im] :: ow) := hp
  refine ⟨_, rfl, ?_⟩
  clear hf; intro a hf
  refine st_assign hf rfl rfl (by decide) ?_
  clear hf; intro a ha hf; clear ha
  refine st_assign hf rfl rfl (by decide) ?_
  clear hf; intro a ha hf; clear ha
  refine st_nil hf ?_
  refine th_n ?_
  refine wp_ret ?_
  obtain rfl := Option.some.inj h
  have hp : Hp _ _ _ (ow) := Hp.sel (pre := [Res.obj 56 v1 [.int .i64 g0_Re, .int .i64 g0_Im]]) (tail := ow) (rs' := []) hp [] (by decide) (by simp) rfl
  exact ⟨rfl, ⟨hf.sub ⟨rfl, rfl, trivial⟩, hp⟩⟩

noncomputable def f_plane_Gauss_times (g0_Re : Int) (g0_Im : Int) (o1_Re : Int) (o1_Im : Int) : Option (Int × Int) := (some ((IntKind.i64.wrap ((IntKind.i64.wrap (g0_Re * o1_Re)) - (IntKind.i64.wrap (g0_Im * o1_Im)))), (IntKind.i64.wrap ((IntKind.i64.wrap (g0_Re * o1_Im)) + (IntKind.i64.wrap (g0_Im * o1_Re))))))
theorem f_plane_Gauss_times_c {S : Nat → Prop} {w0 w : World} {ow : List Res} (hp : Hp S w0 w ow) (g0_Re : Int) (g0_Im : Int) (o1_Re : Int) (o1_Im : Int) {r : (Int × Int)} (h : f_plane_Gauss_times g0_Re g0_Im o1_Re o1_Im = some r) :
    Calls Try.prog 56 #[.agg #[.int .i64 g0_Re, .int .i64 g0_Im], .agg #[.int .i64 o1_Re, .int .i64 o1_Im]] w (fun e w' => e = .returned (.agg #[.int .i64 r.1, .int .i64 r.2]) ∧ Hp S w0 w' (ow)) := by
  unfold f_plane_Gauss_times at h
  refine enter (n := 28) (args := [.agg #[.int .i64 g0_Re, .int .i64 g0_Im], .agg #[.int .i64 o1_Re, .int .i64 o1_Im]]) Try.func56 rfl rfl (Nat.le_of_ble_eq_true rfl) fun a hf => ?_
  replace hf : Fr 28 a [(0, .agg #[.int .i64 g0_Re, .int .i64 g0_Im]), (1, .agg #[.int .i64 o1_Re, .int .i64 o1_Im])] := hf
  refine wp_mono (Q := fun e a w => e = .ret ∧ ∃ (c0 : Value), Fr 28 a [(4, optr c0 0)] ∧ Hp S w0 w (Res.obj 56 c0 [.int .i64 r.1, .int .i64 r.2] :: ow)) ?_ ?_
  rotate_left
  · rintro e a w ⟨rfl, c0, hf, hp⟩
    exact retG1 hf rfl ⟨_, _, rfl, hp.ob (i := 0) rfl, .inr ⟨by kernel_rfl, rfl⟩⟩ ⟨rfl, hp.drop⟩
  refine wp_seq ?_
  refine wp_reg ?_
  refine st_boxO (cs := [.int .i64 g0_Re, .int .i64 g0_Im]) hf (by decide) hp rfl rfl rfl ?_
  clear hf; intro a w v1 hf hp0; clear hp; have hp := hp0; clear hp0
  replace hp : Hp _ _ _ (Res.obj 56 v1 [.int .i64 g0_Re, .int .i64 g0_Im] :: ow) := hp
  refine st_boxO (cs := [.int .i64 o1_Re, .int .i64 o1_Im]) hf (by decide) hp rfl rfl rfl ?_
  clear hf; intro a w v3 hf hp0; clear hp; have hp := hp0; clear hp0
  replace hp : Hp _ _ _ (Res.obj 56 v3 [.int .i64 o1_Re, .int .i64 o1_Im] :: Res.obj 56 v1 [.int .i64 g0_Re, .int .i64 g0_Im] :: ow) := hp
  refine st_alloc (cs := [.int .i64 (0 : Int), .int .i64 (0 : Int)]) (zv := .agg #[.int .i64 (0 : Int), .int .i64 (0 : Int)]) hf (by decide) (by kernel_rfl) rfl hp rfl ?_
  clear hf; intro a w v5 hf hp0; clear hp; have hp := hp0; clear hp0
  replace hp : Hp _ _ _ (Res.obj 56 v5 [.int .i64 (0 : Int), .int .i64 (0 : Int)] :: Res.obj 56 v3 [.int .i64 o1_Re, .int .i64 o1_Im] :: Res.obj 56 v1 [.int .i64 g0_Re, .int .i64 g0_Im] :: ow) := hp
  refine st_nil hf ?_
  refine th_n ?_
  refine wp_seq ?_
  refine wp_reg ?_
  refine st_fa (o' := 0) hf (by decide) (off := 0) (sz := 1) (by kernel_rfl) (by decide) rfl rfl (hp.ob (i := 2) rfl) rfl ?_
  clear hf; intro a ha hf; clear ha
  refine st_ldO (u := .int .i64 g0_Re) hf (by decide) pl2 rfl rfl (hp.ob (i := 2) rfl) rfl ?_
  clear hf; intro a ha hf; clear ha
  refine st_fa (o' := 0) hf (by decide) (off := 0) (sz := 1) (by kernel_rfl) (by decide) rfl rfl (hp.ob (i := 1) rfl) rfl ?_
  clear hf; intro a ha hf; clear ha
  refine st_ldO (u := .int .i64 o1_Re) hf (by decide) pl2 rfl rfl (hp.ob (i := 1) rfl) rfl ?_
  clear hf; intro a ha hf; clear ha
  refine st_imul hf (by decide) rfl rfl rfl ?_
  clear hf; intro a ha hf; clear ha
  refine st_fa (o' := 1) hf (by decide) (off := 1) (sz := 1) (by kernel_rfl) (by decide) rfl rfl (hp.ob (i := 2) rfl) rfl ?_
  clear hf; intro a ha hf; clear ha
  refine st_ldO (u := .int .i64 g0_Im) hf (by decide) pl2 rfl rfl (hp.ob (i := 2) rfl) rfl ?_
  clear hf; intro a ha hf; clear ha
  refine st_fa (o' := 1) hf (by decide) (off := 1) (sz := 1) (by kernel_rfl) (by decide) rfl rfl (hp.ob (i := 1) rfl) rfl ?_
  clear hf; intro a ha hf; clear ha
  refine st_ldO (u := .int .i64 o1_Im) hf (by decide) pl2 rfl rfl (hp.ob (i := 1) rfl) rfl ?_
  clear hf; intro a ha hf; clear ha
  refine st_imul hf (by decide) rfl rfl rfl ?_
  clear hf; intro a ha hf; clear ha
  refine st_isub hf (by decide) rfl rfl rfl ?_
  clear hf; intro a ha hf; clear ha
  refine st_fa (o' := 0) hf (by decide) (off := 0) (sz := 1) (by kernel_rfl) (by decide) rfl rfl (hp.ob (i := 2) rfl) rfl ?_
  clear hf; intro a ha hf; clear ha
  refine st_ldO (u := .int .i64 g0_Re) hf (by decide) pl2 rfl rfl (hp.ob (i := 2) rfl) rfl ?_
  clear hf; intro a ha hf; clear ha
  refine st_fa (o' := 1) hf (by decide) (off := 1) (sz := 1) (by kernel_rfl) (by decide) rfl rfl (hp.ob (i := 1) rfl) rfl ?_
  clear hf; intro a ha hf; clear ha
  refine st_ldO (u := .int .i64 o1_Im) hf (by decide) pl2 rfl rfl (hp.ob (i := 1) rfl) rfl ?_
  clear hf; intro a ha hf; clear ha
  refine st_imul hf (by decide) rfl rfl rfl ?_
  clear hf; intro a ha hf; clear ha
  refine st_fa (o' := 1) hf (by decide) (off := 1) (sz := 1) (by kernel_rfl) (by decide) rfl rfl (hp.ob (i := 2) rfl) rfl ?_
  clear hf; intro a ha hf; clear ha
  refine st_ldO (u := .int .i64 g0_Im) hf (by decide) pl2 rfl rfl (hp.ob (i := 2) rfl) rfl ?_
  clear hf; intro a ha hf; clear ha
  refine st_fa (o' := 0) hf (by decide) (off := 0) (sz := 1) (by kernel_rfl) (by decide) rfl rfl (hp.ob (i := 1) rfl) rfl ?_
  clear hf; intro a ha hf; clear ha
  refine st_ldO (u := .int .i64 o1_Re) hf (by decide) pl2 rfl rfl (hp.ob (i := 1) rfl) rfl ?_
  clear hf; intro a ha hf; clear ha
  refine st_imul hf (by decide) rfl rfl rfl ?_
  clear hf; intro a ha hf; clear ha
  refine st_iadd hf (by decide) rfl rfl rfl ?_
  clear hf; intro a ha hf; clear ha
  refine st_buildA (vals := [(0, .int .i64 (IntKind.i64.wrap ((IntKind.i64.wrap (g0_Re * o1_Re)) - (IntKind.i64.wrap (g0_Im * o1_Im))))), (1, .int .i64 (IntKind.i64.wrap ((IntKind.i64.wrap (g0_Re * o1_Im)) + (IntKind.i64.wrap (g0_Im * o1_Re)))))]) (cells := [.int .i64 (IntKind.i64.wrap ((IntKind.i64.wrap (g0_Re * o1_Re)) - (IntKind.i64.wrap (g0_Im * o1_Im)))), .int .i64 (IntKind.i64.wrap ((IntKind.i64.wrap (g0_Re * o1_Im)) + (IntKind.i64.wrap (g0_Im * o1_Re))))]) hf (by decide) rfl (by simp [hf.ev (x := (Operand.tmp 15)) rfl, hf.ev (x := (Operand.tmp 26)) rfl]) (fun w => by kernel_rfl) ?_
  clear hf; intro a ha hf; clear ha
  refine st_stO (us := [.int .i64 (IntKind.i64.wrap ((IntKind.i64.wrap (g0_Re * o1_Re)) - (IntKind.i64.wrap (g0_Im * o1_Im)))), .int .i64 (IntKind.i64.wrap ((IntKind.i64.wrap (g0_Re * o1_Im)) + (IntKind.i64.wrap (g0_Im * o1_Re))))]) hf hp (i := 0) rfl rfl rfl rfl rfl (by rfl) (by kernel_rfl) (Nat.le_of_ble_eq_true rfl) ?_
  clear hf; intro a w hf hp0; clear hp; have hp := hp0; clear hp0
  replace hp : Hp _ _ _ (Res.obj 56 v5 [.int .i64 (IntKind.i64.wrap ((IntKind.i64.wrap (g0_Re * o1_Re)) - (IntKind.i64.wrap (g0_Im * o1_Im)))), .int .i64 (IntKind.i64.wrap ((IntKind.i64.wrap (g0_Re * o1_Im)) + (IntKind.i64.wrap (g0_Im * o1_Re))))] :: Res.obj 56 v3 [.int .i64 o1_Re, .int .i64 o1_Im] :: Res.obj 56 v1 [.int .i64 g0_Re, .int .i64 g0_Im] :: ow) := hp
  refine st_nil hf ?_
  refine th_n ?_
  refine wp_ret ?_
  obtain rfl := Option.some.inj h
  have hp : Hp _ _ _ (Res.obj 56 v5 [.int .i64 (IntKind.i64.wrap ((IntKind.i64.wrap (g0_Re * o1_Re)) - (IntKind.i64.wrap (g0_Im * o1_Im)))), .int .i64 (IntKind.i64.wrap ((IntKind.i64.wrap (g0_Re * o1_Im)) + (IntKind.i64.wrap (g0_Im * o1_Re))))] :: ow) := Hp.sel (pre := [Res.obj 56 v5 [.int .i64 (IntKind.i64.wrap ((IntKind.i64.wrap (g0_Re * o1_Re)) - (IntKind.i64.wrap (g0_Im * o1_Im)))), .int .i64 (IntKind.i64.wrap ((IntKind.i64.wrap (g0_Re * o1_Im)) + (IntKind.i64.wrap (g0_Im * o1_Re))))], Res.obj 56 v3 [.int .i64 o1_Re, .int .i64 o1_Im], Res.obj 56 v1 [.int .i64 g0_Re, .int .i64 g0_Im]]) (tail := ow) (rs' := [Res.obj 56 v5 [.int .i64 (IntKind.i64.wrap ((IntKind.i64.wrap (g0_Re * o1_Re)) - (IntKind.i64.wrap (g0_Im * o1_Im)))), .int .i64 (IntKind.i64.wrap ((IntKind.i64.wrap (g0_Re * o1_Im)) + (IntKind.i64.wrap (g0_Im * o1_Re))))]]) hp [0] (by decide) (by simp) rfl
  exact ⟨rfl, ⟨_, hf.sub ⟨rfl, trivial⟩, hp⟩⟩

noncomputable def f_plane_nearest.j1 (d1 : Int) (qx5 : Int) (rest6 : Int) : Option Int := (if (decide ((IntKind.i64.wrap (d1 - rest6)) < rest6)) = true then (some (IntKind.i64.wrap (qx5 + (1 : Int)))) else (some qx5))
noncomputable def f_plane_nearest (n0 : Int) (d1 : Int) : Option Int := (if d1 ≠ 0 then (if d1 ≠ 0 then (if (decide (((n0).tmod d1) < (0 : Int))) = true then (f_plane_nearest.j1 d1 (IntKind.i64.wrap ((IntKind.i64.wrap ((n0).tdiv d1)) - (1 : Int))) (IntKind.i64.wrap (((n0).tmod d1) + d1))) else (f_plane_nearest.j1 d1 (IntKind.i64.wrap ((n0).tdiv d1)) ((n0).tmod d1))) else none) else none)
theorem f_plane_nearest_c {S : Nat → Prop} {w0 w : World} {ow : List Res} (hp : Hp S w0 w ow) (n0 : Int) (d1 : Int) {r : Int} (h : f_plane_nearest n0 d1 = some r) :
    Calls Try.prog 71 #[.int .i64 n0, .int .i64 d1] w (fun e w' => e = .returned (.int .i64 r) ∧ Hp S w0 w' (ow)) := by
  unfold f_plane_nearest at h
  refine enter (n := 28) (args := [.int .i64 n0, .int .i64 d1]) Try.func71 rfl rfl (Nat.le_of_ble_eq_true rfl) fun a hf => ?_
  replace hf : Fr 28 a [(0, .int .i64 n0), (1, .int .i64 d1)] := hf
  refine wp_mono (Q := fun e a w => e = .ret ∧ Fr 28 a [(4, .int .i64 r)] ∧ Hp S w0 w (ow)) ?_ ?_
  rotate_left
  · rintro e a w ⟨rfl, hf, hp⟩
    exact ret1 hf rfl rfl ⟨rfl, hp⟩
  refine wp_seq ?_
  refine wp_reg ?_
  refine st_assign hf rfl rfl (by decide) ?_
  clear hf; intro a ha hf; clear ha
  refine st_nil hf ?_
  refine th_n ?_
  refine wp_seq ?_
  obtain ⟨hc1, h⟩ := chk h
  obtain ⟨hc2, h⟩ := chk h
  refine wp_cutN (fun a w => Fr 28 a [(1, .int .i64 d1), (5, .int .i64 (IntKind.i64.wrap ((n0).tdiv d1))), (6, .int .i64 ((n0).tmod d1))] ∧ Hp S w0 w (ow)) ?_ ?_
  · have hp := hp.same (Same.drew w)
    refine dr_begin' (fun a w => Fr 28 a [(1, .int .i64 d1), (5, .int .i64 (IntKind.i64.wrap ((n0).tdiv d1))), (6, .int .i64 ((n0).tmod d1))] ∧ Hp S w0 w (ow)) (fun w' => ∃ l, Hp S w0 w' l) [] (by kernel_rfl) ?_
    refine dr_take 0 (.int .i64 n0) rfl (by kernel_rfl) (by kernel_rfl) (by kernel_rfl) (by kernel_rfl) rfl rfl hf (by decide) rfl (fun w hp => ?_) ⟨_, hp⟩ ?_
    · obtain ⟨_, hp⟩ := hp
      refine st_move hf rfl rfl (by decide) ?_
      clear hf; intro a ha hf
      exact st_nil hf (th_n ⟨ha, rfl⟩)
    clear hf; intro a hf
    refine dr_take 1 (.int .i64 d1) rfl (by kernel_rfl) (by kernel_rfl) (by kernel_rfl) (by kernel_rfl) rfl rfl hf (by decide) rfl (fun w hp => ?_) ⟨_, hp⟩ ?_
    · obtain ⟨_, hp⟩ := hp
      refine st_move hf rfl rfl (by decide) ?_
      clear hf; intro a ha hf
      exact st_nil hf (th_n ⟨ha, rfl⟩)
    clear hf; intro a hf
    refine dr_take 2 (.int .i64 (IntKind.i64.wrap ((n0).tdiv d1))) rfl (by kernel_rfl) (by kernel_rfl) (by kernel_rfl) (by kernel_rfl) rfl rfl hf (by decide) rfl (fun w hp => ?_) ⟨_, hp⟩ ?_
    · obtain ⟨_, hp⟩ := hp
      refine st_iquo hf (by decide) rfl rfl rfl hc1 ?_
      clear hf; intro a ha hf
      exact st_nil hf (th_n ⟨ha, rfl⟩)
    clear hf; intro a hf
    refine dr_take 3 (.int .i64 n0) rfl (by kernel_rfl) (by kernel_rfl) (by kernel_rfl) (by kernel_rfl) rfl rfl hf (by decide) rfl (fun w hp => ?_) ⟨_, hp⟩ ?_
    · obtain ⟨_, hp⟩ := hp
      refine st_move hf rfl rfl (by decide) ?_
      clear hf; intro a ha hf
      exact st_nil hf (th_n ⟨ha, rfl⟩)
    clear hf; intro a hf
    refine dr_take 4 (.int .i64 d1) rfl (by kernel_rfl) (by kernel_rfl) (by kernel_rfl) (by kernel_rfl) rfl rfl hf (by decide) rfl (fun w hp => ?_) ⟨_, hp⟩ ?_
    · obtain ⟨_, hp⟩ := hp
      refine st_move hf rfl rfl (by decide) ?_
      clear hf; intro a ha hf
      exact st_nil hf (th_n ⟨ha, rfl⟩)
    clear hf; intro a hf
    refine dr_take 5 (.int .i64 ((n0).tmod d1)) rfl (by kernel_rfl) (by kernel_rfl) (by kernel_rfl) (by kernel_rfl) rfl rfl hf (by decide) rfl (fun w hp => ?_) ⟨_, hp⟩ ?_
    · obtain ⟨_, hp⟩ := hp
      refine st_irem hf (by decide) rfl rfl rfl hc2 ?_
      clear hf; intro a ha hf
      exact st_nil hf (th_n ⟨ha, rfl⟩)
    clear hf; intro a hf
    refine dr_take 6 (.int .i64 (IntKind.i64.wrap ((n0).tdiv d1))) rfl (by kernel_rfl) (by kernel_rfl) (by kernel_rfl) (by kernel_rfl) rfl rfl hf (by decide) rfl (fun w hp => ?_) ⟨_, hp⟩ ?_
    · obtain ⟨_, hp⟩ := hp
      refine st_assign hf rfl rfl (by decide) ?_
      clear hf; intro a ha hf
      exact st_nil hf (th_n ⟨ha, rfl⟩)
    clear hf; intro a hf
    refine dr_take 7 (.int .i64 ((n0).tmod d1)) rfl (by kernel_rfl) (by kernel_rfl) (by kernel_rfl) (by kernel_rfl) rfl rfl hf (by decide) rfl (fun w hp => ?_) ⟨_, hp⟩ ?_
    · obtain ⟨_, hp⟩ := hp
      refine st_assign hf rfl rfl (by decide) ?_
      clear hf; intro a ha hf
      exact st_nil hf (th_n ⟨ha, rfl⟩)
    clear hf; intro a hf
    refine dr_end (by kernel_rfl) ?_ _
    exact ⟨hf.sub ⟨rfl, rfl, rfl, trivial⟩, hp⟩
  rintro a w ⟨hf, hp⟩
  refine th_n ?_
  refine wp_seq_cut (fun a w => ∃ (qx5 : Int) (rest6 : Int), f_plane_nearest.j1 d1 qx5 rest6 = some r ∧ Fr 28 a [(1, .int .i64 d1), (5, .int .i64 qx5), (6, .int .i64 rest6)] ∧ Hp S w0 w (ow)) ?_ ?_
  · skip
    refine wp_seq ?_
    refine wp_reg ?_
    refine st_move hf rfl rfl (by decide) ?_
    clear hf; intro a ha hf; clear ha
    refine st_ilss hf (by decide) rfl rfl rfl ?_
    clear hf; intro a ha hf; clear ha
    refine st_nil hf ?_
    refine th_n ?_
    refine wp_if hf rfl (fun hb => ?_) (fun hb => ?_)
    · replace h := ifT h hb
      refine wp_reg ?_
      refine st_move hf rfl rfl (by decide) ?_
      clear hf; intro a ha hf; clear ha
      refine st_isub hf (by decide) rfl rfl rfl ?_
      clear hf; intro a ha hf; clear ha
      refine st_move hf rfl rfl (by decide) ?_
      clear hf; intro a ha hf; clear ha
      refine st_move hf rfl rfl (by decide) ?_
      clear hf; intro a ha hf; clear ha
      refine st_iadd hf (by decide) rfl rfl rfl ?_
      clear hf; intro a ha hf; clear ha
      refine st_assign hf rfl rfl (by decide) ?_
      clear hf; intro a ha hf; clear ha
      refine st_assign hf rfl rfl (by decide) ?_
      clear hf; intro a ha hf; clear ha
      refine st_nil hf ?_
      refine th_n ?_
      exact ⟨_, _, h, hf.sub ⟨rfl, rfl, rfl, trivial⟩, hp⟩
    replace h := ifF h hb
    refine wp_skip ?_
    refine th_n ?_
    exact ⟨_, _, h, hf.sub ⟨rfl, rfl, rfl, trivial⟩, hp⟩
  rintro a w ⟨qx5, rest6, h, hf, hp⟩
  unfold f_plane_nearest.j1 at h
  refine wp_seq ?_
  refine wp_seq ?_
  refine wp_reg ?_
  refine st_move hf rfl rfl (by decide) ?_
  clear hf; intro a ha hf; clear ha
  refine st_move hf rfl rfl (by decide) ?_
  clear hf; intro a ha hf; clear ha
  refine st_move hf rfl rfl (by decide) ?_
  clear hf; intro a ha hf; clear ha
  refine st_isub hf (by decide) rfl rfl rfl ?_
  clear hf; intro a ha hf; clear ha
  refine st_igtr hf (by decide) rfl rfl rfl ?_
  clear hf; intro a ha hf; clear ha
  refine st_nil hf ?_
  refine th_n ?_
  refine wp_if hf rfl (fun hb => ?_) (fun hb => ?_)
  · replace h := ifT h hb
    refine wp_reg ?_
    refine st_move hf rfl rfl (by decide) ?_
    clear hf; intro a ha hf; clear ha
    refine st_iadd hf (by decide) rfl rfl rfl ?_
    clear hf; intro a ha hf; clear ha
    refine st_assign hf rfl rfl (by decide) ?_
    clear hf; intro a ha hf; clear ha
    refine st_nil hf ?_
    refine th_n ?_
    refine wp_seq ?_
    refine wp_reg ?_
    refine st_move hf rfl rfl (by decide) ?_
    clear hf; intro a ha hf; clear ha
    refine st_assign hf rfl rfl (by decide) ?_
    clear hf; intro a ha hf; clear ha
    refine st_nil hf ?_
    refine th_n ?_
    refine wp_ret ?_
    obtain rfl := Option.some.inj h
    exact ⟨rfl, ⟨hf.sub ⟨rfl, trivial⟩, hp⟩⟩
  replace h := ifF h hb
  refine wp_skip ?_
  refine th_n ?_
  refine wp_seq ?_
  refine wp_reg ?_
  refine st_move hf rfl rfl (by decide) ?_
  clear hf; intro a ha hf; clear ha
  refine st_assign hf rfl rfl (by decide) ?_
  clear hf; intro a ha hf; clear ha
  refine st_nil hf ?_
  refine th_n ?_
  refine wp_ret ?_
  obtain rfl := Option.some.inj h
  exact ⟨rfl, ⟨hf.sub ⟨rfl, trivial⟩, hp⟩⟩

noncomputable def f_plane_Gauss_by (g0_Re : Int) (g0_Im : Int) (o1_Re : Int) (o1_Im : Int) : Option ((Int × Int) × (Int × Int)) := ((f_plane_Gauss_times g0_Re g0_Im o1_Re (IntKind.i64.wrap (0 - o1_Im))).bind fun q9 => ((f_plane_Gauss_norm o1_Re o1_Im).bind fun q25 => ((f_plane_nearest q9.1 q25).bind fun q27 => ((f_plane_Gauss_norm o1_Re o1_Im).bind fun q29 => ((f_plane_nearest q9.2 q29).bind fun q31 => ((f_plane_Gauss_times q27 q31 o1_Re o1_Im).bind fun q33 => (some ((q27, q31), ((IntKind.i64.wrap (g0_Re - q33.1)), (IntKind.i64.wrap (g0_Im - q33.2)))))))))))
theorem f_plane_Gauss_by_c {S : Nat → Prop} {w0 w : World} {ow : List Res} (hp : Hp S w0 w ow) (g0_Re : Int) (g0_Im : Int) (o1_Re : Int) (o1_Im : Int) {r : ((Int × Int) × (Int × Int))} (h : f_plane_Gauss_by g0_Re g0_Im o1_Re o1_Im = some r) :
    Calls Try.prog 57 #[.agg #[.int .i64 g0_Re, .int .i64 g0_Im], .agg #[.int .i64 o1_Re, .int .i64 o1_Im]] w (fun e w' => e = .returned (.tuple #[.agg #[.int .i64 r.1.1, .int .i64 r.1.2], .agg #[.int .i64 r.2.1, .int .i64 r.2.2]]) ∧ Hp S w0 w' (ow)) := by
  unfold f_plane_Gauss_by at h
  refine enter (n := 42) (args := [.agg #[.int .i64 g0_Re, .int .i64 g0_Im], .agg #[.int .i64 o1_Re, .int .i64 o1_Im]]) Try.func57 rfl rfl (Nat.le_of_ble_eq_true rfl) fun a hf => ?_
  replace hf : Fr 42 a [(0, .agg #[.int .i64 g0_Re, .int .i64 g0_Im]), (1, .agg #[.int .i64 o1_Re, .int .i64 o1_Im])] := hf
  refine wp_mono (Q := fun e a w => e = .ret ∧ ∃ (c0 : Value) (c1 : Value), Fr 42 a [(4, optr c0 0), (5, optr c1 0)] ∧ Hp S w0 w (Res.obj 56 c0 [.int .i64 r.1.1, .int .i64 r.1.2] :: Res.obj 56 c1 [.int .i64 r.2.1, .int .i64 r.2.2] :: ow)) ?_ ?_
  rotate_left
  · rintro e a w ⟨rfl, c0, c1, hf, hp⟩
    exact retG2 hf rfl ⟨_, _, rfl, hp.ob (i := 0) rfl, .inr ⟨by kernel_rfl, rfl⟩⟩ ⟨_, _, rfl, hp.ob (i := 1) rfl, .inr ⟨by kernel_rfl, rfl⟩⟩ ⟨rfl, hp.drop.drop⟩
  refine wp_seq ?_
  refine wp_reg ?_
  refine st_boxO (cs := [.int .i64 g0_Re, .int .i64 g0_Im]) hf (by decide) hp rfl rfl rfl ?_
  clear hf; intro a w v1 hf hp0; clear hp; have hp := hp0; clear hp0
  replace hp : Hp _ _ _ (Res.obj 56 v1 [.int .i64 g0_Re, .int .i64 g0_Im] :: ow) := hp
  refine st_boxO (cs := [.int .i64 o1_Re, .int .i64 o1_Im]) hf (by decide) hp rfl rfl rfl ?_
  clear hf; intro a w v3 hf hp0; clear hp; have hp := hp0; clear hp0
  replace hp : Hp _ _ _ (Res.obj 56 v3 [.int .i64 o1_Re, .int .i64 o1_Im] :: Res.obj 56 v1 [.int .i64 g0_Re, .int .i64 g0_Im] :: ow) := hp
  refine st_alloc (cs := [.int .i64 (0 : Int), .int .i64 (0 : Int)]) (zv := .agg #[.int .i64 (0 : Int), .int .i64 (0 : Int)]) hf (by decide) (by kernel_rfl) rfl hp rfl ?_
  clear hf; intro a w v5 hf hp0; clear hp; have hp := hp0; clear hp0
  replace hp : Hp _ _ _ (Res.obj 56 v5 [.int .i64 (0 : Int), .int .i64 (0 : Int)] :: Res.obj 56 v3 [.int .i64 o1_Re, .int .i64 o1_Im] :: Res.obj 56 v1 [.int .i64 g0_Re, .int .i64 g0_Im] :: ow) := hp
  refine st_alloc (cs := [.int .i64 (0 : Int), .int .i64 (0 : Int)]) (zv := .agg #[.int .i64 (0 : Int), .int .i64 (0 : Int)]) hf (by decide) (by kernel_rfl) rfl hp rfl ?_
  clear hf; intro a w v7 hf hp0; clear hp; have hp := hp0; clear hp0
  replace hp : Hp _ _ _ (Res.obj 56 v7 [.int .i64 (0 : Int), .int .i64 (0 : Int)] :: Res.obj 56 v5 [.int .i64 (0 : Int), .int .i64 (0 : Int)] :: Res.obj 56 v3 [.int .i64 o1_Re, .int .i64 o1_Im] :: Res.obj 56 v1 [.int .i64 g0_Re, .int .i64 g0_Im] :: ow) := hp
  refine st_nil hf ?_
  refine th_n ?_
  refine wp_seq ?_
  refine wp_reg ?_
  refine st_ldOA (m := 2) (us := [.int .i64 g0_Re, .int .i64 g0_Im]) hf (by decide) (by kernel_rfl) rfl rfl (hp.ob (i := 3) rfl) rfl rfl ?_
  clear hf; intro a ha hf; clear ha
  refine st_fa (o' := 0) hf (by decide) (off := 0) (sz := 1) (by kernel_rfl) (by decide) rfl rfl (hp.ob (i := 2) rfl) rfl ?_
  clear hf; intro a ha hf; clear ha
  refine st_ldO (u := .int .i64 o1_Re) hf (by decide) pl2 rfl rfl (hp.ob (i := 2) rfl) rfl ?_
  clear hf; intro a ha hf; clear ha
  refine st_fa (o' := 1) hf (by decide) (off := 1) (sz := 1) (by kernel_rfl) (by decide) rfl rfl (hp.ob (i := 2) rfl) rfl ?_
  clear hf; intro a ha hf; clear ha
  refine st_ldO (u := .int .i64 o1_Im) hf (by decide) pl2 rfl rfl (hp.ob (i := 2) rfl) rfl ?_
  clear hf; intro a ha hf; clear ha
  refine st_ineg hf (by decide) rfl rfl ?_
  clear hf; intro a ha hf; clear ha
  refine st_buildA (vals := [(0, .int .i64 o1_Re), (1, .int .i64 (IntKind.i64.wrap (0 - o1_Im)))]) (cells := [.int .i64 o1_Re, .int .i64 (IntKind.i64.wrap (0 - o1_Im))]) hf (by decide) rfl (by simp [hf.ev (x := (Operand.tmp 10)) rfl, hf.ev (x := (Operand.tmp 13)) rfl]) (fun w => by kernel_rfl) ?_
  clear hf; intro a ha hf; clear ha
  obtain ⟨q9, hcall10, h⟩ := bnd h
  refine st_call hf (by decide) Try.func56 rfl rfl rfl rfl rfl (f_plane_Gauss_times_c hp _ _ _ _ hcall10) ?_
  rintro _ w ⟨rfl, hp0⟩
  clear hp; have hp := hp0; clear hp0
  replace hp : Hp _ _ _ (Res.obj 56 v7 [.int .i64 (0 : Int), .int .i64 (0 : Int)] :: Res.obj 56 v5 [.int .i64 (0 : Int), .int .i64 (0 : Int)] :: Res.obj 56 v3 [.int .i64 o1_Re, .int .i64 o1_Im] :: Res.obj 56 v1 [.int .i64 g0_Re, .int .i64 g0_Im] :: ow) := hp
  refine ⟨_, rfl, ?_⟩
  clear hf; intro a hf
  refine st_alloc (cs := [.int .i64 (0 : Int), .int .i64 (0 : Int)]) (zv := .agg #[.int .i64 (0 : Int), .int .i64 (0 : Int)]) hf (by decide) (by kernel_rfl) rfl hp rfl ?_
  clear hf; intro a w v11 hf hp0; clear hp; have hp := hp0; clear hp0
  replace hp : Hp _ _ _ (Res.obj 56 v11 [.int .i64 (0 : Int), .int .i64 (0 : Int)] :: Res.obj 56 v7 [.int .i64 (0 : Int), .int .i64 (0 : Int)] :: Res.obj 56 v5 [.int .i64 (0 : Int), .int .i64 (0 : Int)] :: Res.obj 56 v3 [.int .i64 o1_Re, .int .i64 o1_Im] :: Res.obj 56 v1 [.int .i64 g0_Re, .int .i64 g0_Im] :: ow) := hp
  refine st_stO (us := [.int .i64 q9.1, .int .i64 q9.2]) hf hp (i := 0) rfl rfl rfl rfl rfl (by rfl) (by kernel_rfl) (Nat.le_of_ble_eq_true rfl) ?_
  clear hf; intro a w hf hp0; clear hp; have hp := hp0; clear hp0
  replace hp : Hp _ _ _ (Res.obj 56 v11 [.int .i64 q9.1, .int .i64 q9.2] :: Res.obj 56 v7 [.int .i64 (0 : Int), .int .i64 (0 : Int)] :: Res.obj 56 v5 [.int .i64 (0 : Int), .int .i64 (0 : Int)] :: Res.obj 56 v3 [.int .i64 o1_Re, .int .i64 o1_Im] :: Res.obj 56 v1 [.int .i64 g0_Re, .int .i64 g0_Im] :: ow) := hp
  refine st_nil hf ?_
  refine th_n ?_
  refine wp_seq ?_
  obtain ⟨S13, hp14, rd15, up16, bk17⟩ := Hp.lendO hp (i := 0) rfl
  obtain ⟨S18, hp19, rd20, up21, bk22⟩ := Hp.lendO hp14 (i := 2) rfl
  have rl23 := rd20
  have rl24 := ((rd15.now hp14).mono up21)
  obtain ⟨q25, hcall26, h⟩ := bnd h
  obtain ⟨q27, hcall28, h⟩ := bnd h
  obtain ⟨q29, hcall30, h⟩ := bnd h
  obtain ⟨q31, hcall32, h⟩ := bnd h
  refine wp_cutN (fun a w => Fr 42 a [(2, optr v1 0), (3, optr v3 0), (4, optr v5 0), (5, optr v7 0)] ∧ Hp S w0 w (Res.obj 56 v11 [.int .i64 q9.1, .int .i64 q9.2] :: Res.obj 56 v3 [.int .i64 o1_Re, .int .i64 o1_Im] :: Res.obj 56 v7 [.int .i64 (0 : Int), .int .i64 (0 : Int)] :: Res.obj 56 v5 [.int .i64 q27, .int .i64 q31] :: Res.obj 56 v1 [.int .i64 g0_Re, .int .i64 g0_Im] :: ow)) ?_ ?_
  · have hp := hp19.same (Same.drew w)
    refine dr_begin' (fun a w => Fr 42 a [(2, optr v1 0), (3, optr v3 0), (4, optr v5 0), (5, optr v7 0)] ∧ Hp S w0 w (Res.obj 56 v11 [.int .i64 q9.1, .int .i64 q9.2] :: Res.obj 56 v3 [.int .i64 o1_Re, .int .i64 o1_Im] :: Res.obj 56 v7 [.int .i64 (0 : Int), .int .i64 (0 : Int)] :: Res.obj 56 v5 [.int .i64 q27, .int .i64 q31] :: Res.obj 56 v1 [.int .i64 g0_Re, .int .i64 g0_Im] :: ow)) (fun w' => ∃ l, Hp S18 w w' l) [] (by kernel_rfl) ?_
    refine dr_take 0 (optr v11 0) rfl (by kernel_rfl) (by kernel_rfl) (by kernel_rfl) (by kernel_rfl) rfl rfl hf (by decide) rfl (fun w hp => ?_) ⟨_, hp⟩ ?_
    · obtain ⟨_, hp⟩ := hp
      refine st_fa (o' := 0) hf (by decide) (off := 0) (sz := 1) (by kernel_rfl) (by decide) rfl rfl (rl24.ob hp) rfl ?_
      clear hf; intro a ha hf
      exact st_nil hf (th_n ⟨ha, rfl⟩)
    clear hf; intro a hf
    refine dr_take 1 (.int .i64 q9.1) rfl (by kernel_rfl) (by kernel_rfl) (by kernel_rfl) (by kernel_rfl) rfl rfl hf (by decide) rfl (fun w hp => ?_) ⟨_, hp⟩ ?_
    · obtain ⟨_, hp⟩ := hp
      refine st_ldO (u := .int .i64 q9.1) hf (by decide) pl2 rfl rfl (rl24.ob hp) rfl ?_
      clear hf; intro a ha hf
      exact st_nil hf (th_n ⟨ha, rfl⟩)
    clear hf; intro a hf
    refine dr_take 2 (.agg #[.int .i64 o1_Re, .int .i64 o1_Im]) rfl (by kernel_rfl) (by kernel_rfl) (by kernel_rfl) (by kernel_rfl) rfl rfl hf (by decide) rfl (fun w hp => ?_) ⟨_, hp⟩ ?_
    · obtain ⟨_, hp⟩ := hp
      refine st_ldOA (m := 2) (us := [.int .i64 o1_Re, .int .i64 o1_Im]) hf (by decide) (by kernel_rfl) rfl rfl (rl23.ob hp) rfl rfl ?_
      clear hf; intro a ha hf
      exact st_nil hf (th_n ⟨ha, rfl⟩)
    clear hf; intro a hf
    refine dr_take 5 (optr v11 1) rfl (by kernel_rfl) (by kernel_rfl) (by kernel_rfl) (by kernel_rfl) rfl rfl hf (by decide) rfl (fun w hp => ?_) ⟨_, hp⟩ ?_
    · obtain ⟨_, hp⟩ := hp
      refine st_fa (o' := 1) hf (by decide) (off := 1) (sz := 1) (by kernel_rfl) (by decide) rfl rfl (rl24.ob hp) rfl ?_
      clear hf; intro a ha hf
      exact st_nil hf (th_n ⟨ha, rfl⟩)
    clear hf; intro a hf
    refine dr_take 6 (.int .i64 q9.2) rfl (by kernel_rfl) (by kernel_rfl) (by kernel_rfl) (by kernel_rfl) rfl rfl hf (by decide) rfl (fun w hp => ?_) ⟨_, hp⟩ ?_
    · obtain ⟨_, hp⟩ := hp
      refine st_ldO (u := .int .i64 q9.2) hf (by decide) pl2 rfl rfl (rl24.ob hp) rfl ?_
      clear hf; intro a ha hf
      exact st_nil hf (th_n ⟨ha, rfl⟩)
    clear hf; intro a hf
    refine dr_take 7 (.agg #[.int .i64 o1_Re, .int .i64 o1_Im]) rfl (by kernel_rfl) (by kernel_rfl) (by kernel_rfl) (by kernel_rfl) rfl rfl hf (by decide) rfl (fun w hp => ?_) ⟨_, hp⟩ ?_
    · obtain ⟨_, hp⟩ := hp
      refine st_ldOA (m := 2) (us := [.int .i64 o1_Re, .int .i64 o1_Im]) hf (by decide) (by kernel_rfl) rfl rfl (rl23.ob hp) rfl rfl ?_
      clear hf; intro a ha hf
      exact st_nil hf (th_n ⟨ha, rfl⟩)
    clear hf; intro a hf
    refine dr_one 3 rfl (by kernel_rfl) ?_
    refine st_call hf (by decide) Try.func58 rfl rfl rfl rfl rfl (f_plane_Gauss_norm_c hp _ _ hcall26) ?_
    rintro _ w ⟨rfl, hp0⟩
    clear hp; have hp := hp0; clear hp0
    replace hp : Hp _ _ _ (Res.obj 56 v7 [.int .i64 (0 : Int), .int .i64 (0 : Int)] :: Res.obj 56 v5 [.int .i64 (0 : Int), .int .i64 (0 : Int)] :: Res.obj 56 v1 [.int .i64 g0_Re, .int .i64 g0_Im] :: ow) := hp
    refine ⟨_, rfl, ?_⟩
    clear hf; intro a hf
    refine st_nil hf (th_n ⟨fun _ _ => ⟨_, hp⟩, ?_⟩)
    refine dr_one 4 rfl (by kernel_rfl) ?_
    refine st_call hf (by decide) Try.func71 rfl rfl rfl rfl rfl (f_plane_nearest_c hp _ _ hcall28) ?_
    rintro _ w ⟨rfl, hp0⟩
    clear hp; have hp := hp0; clear hp0
    replace hp : Hp _ _ _ (Res.obj 56 v7 [.int .i64 (0 : Int), .int .i64 (0 : Int)] :: Res.obj 56 v5 [.int .i64 (0 : Int), .int .i64 (0 : Int)] :: Res.obj 56 v1 [.int .i64 g0_Re, .int .i64 g0_Im] :: ow) := hp
    refine ⟨_, rfl, ?_⟩
    clear hf; intro a hf
    refine st_nil hf (th_n ⟨fun _ _ => ⟨_, hp⟩, ?_⟩)
    refine dr_one 8 rfl (by kernel_rfl) ?_
    refine st_call hf (by decide) Try.func58 rfl rfl rfl rfl rfl (f_plane_Gauss_norm_c hp _ _ hcall30) ?_
    rintro _ w ⟨rfl, hp0⟩
    clear hp; have hp := hp0; clear hp0
    replace hp : Hp _ _ _ (Res.obj 56 v7 [.int .i64 (0 : Int), .int .i64 (0 : Int)] :: Res.obj 56 v5 [.int .i64 (0 : Int), .int .i64 (0 : Int)] :: Res.obj 56 v1 [.int .i64 g0_Re, .int .i64 g0_Im] :: ow) := hp
    refine ⟨_, rfl, ?_⟩
    clear hf; intro a hf
    refine st_nil hf (th_n ⟨fun _ _ => ⟨_, hp⟩, ?_⟩)
    refine dr_one 9 rfl (by kernel_rfl) ?_
    refine st_call hf (by decide) Try.func71 rfl rfl rfl rfl rfl (f_plane_nearest_c hp _ _ hcall32) ?_
    rintro _ w ⟨rfl, hp0⟩
    clear hp; have hp := hp0; clear hp0
    replace hp : Hp _ _ _ (Res.obj 56 v7 [.int .i64 (0 : Int), .int .i64 (0 : Int)] :: Res.obj 56 v5 [.int .i64 (0 : Int), .int .i64 (0 : Int)] :: Res.obj 56 v1 [.int .i64 g0_Re, .int .i64 g0_Im] :: ow) := hp
    refine ⟨_, rfl, ?_⟩
    clear hf; intro a hf
    refine st_nil hf (th_n ⟨fun _ _ => ⟨_, hp⟩, ?_⟩)
    refine dr_take 10 (.agg #[.int .i64 q27, .int .i64 q31]) rfl (by kernel_rfl) (by kernel_rfl) (by kernel_rfl) (by kernel_rfl) rfl rfl hf (by decide) rfl (fun w hp => ?_) ⟨_, hp⟩ ?_
    · obtain ⟨_, hp⟩ := hp
      refine st_buildA (vals := [(0, .int .i64 q27), (1, .int .i64 q31)]) (cells := [.int .i64 q27, .int .i64 q31]) hf (by decide) rfl (by simp [hf.ev (x := (Operand.tmp 20)) rfl, hf.ev (x := (Operand.tmp 25)) rfl]) (fun w => by kernel_rfl) ?_
      clear hf; intro a ha hf
      exact st_nil hf (th_n ⟨ha, rfl⟩)
    clear hf; intro a hf
    refine dr_one 11 rfl (by kernel_rfl) ?_
    refine st_stO (us := [.int .i64 q27, .int .i64 q31]) hf hp (i := 1) rfl rfl rfl rfl rfl (by rfl) (by kernel_rfl) (Nat.le_of_ble_eq_true rfl) ?_
    clear hf; intro a w hf hp0; clear hp; have hp := hp0; clear hp0
    replace hp : Hp _ _ _ (Res.obj 56 v7 [.int .i64 (0 : Int), .int .i64 (0 : Int)] :: Res.obj 56 v5 [.int .i64 q27, .int .i64 q31] :: Res.obj 56 v1 [.int .i64 g0_Re, .int .i64 g0_Im] :: ow) := hp
    refine st_nil hf (th_n ⟨fun _ _ => ⟨_, hp⟩, ?_⟩)
    refine dr_end (by kernel_rfl) ?_ _
    have hp := bk22 _ _ hp
    have hp := bk17 _ _ hp
    exact ⟨hf.sub ⟨rfl, rfl, rfl, rfl, trivial⟩, hp⟩
  rintro a w ⟨hf, hp⟩
  refine th_n ?_
  refine wp_seq ?_
  refine wp_reg ?_
  refine st_ldOA (m := 2) (us := [.int .i64 q27, .int .i64 q31]) hf (by decide) (by kernel_rfl) rfl rfl (hp.ob (i := 3) rfl) rfl rfl ?_
  clear hf; intro a ha hf; clear ha
  refine st_ldOA (m := 2) (us := [.int .i64 o1_Re, .int .i64 o1_Im]) hf (by decide) (by kernel_rfl) rfl rfl (hp.ob (i := 1) rfl) rfl rfl ?_
  clear hf; intro a ha hf; clear ha
  obtain ⟨q33, hcall34, h⟩ := bnd h
  refine st_call hf (by decide) Try.func56 rfl rfl rfl rfl rfl (f_plane_Gauss_times_c hp _ _ _ _ hcall34) ?_
  rintro _ w ⟨rfl, hp0⟩
  clear hp; have hp := hp0; clear hp0
  replace hp : Hp _ _ _ (Res.obj 56 v11 [.int .i64 q9.1, .int .i64 q9.2] :: Res.obj 56 v3 [.int .i64 o1_Re, .int .i64 o1_Im] :: Res.obj 56 v7 [.int .i64 (0 : Int), .int .i64 (0 : Int)] :: Res.obj 56 v5 [.int .i64 q27, .int .i64 q31] :: Res.obj 56 v1 [.int .i64 g0_Re, .int .i64 g0_Im] :: ow) := hp
  refine ⟨_, rfl, ?_⟩
  clear hf; intro a hf
  refine st_alloc (cs := [.int .i64 (0 : Int), .int .i64 (0 : Int)]) (zv := .agg #[.int .i64 (0 : Int), .int .i64 (0 : Int)]) hf (by decide) (by kernel_rfl) rfl hp rfl ?_
  clear hf; intro a w v35 hf hp0; clear hp; have hp := hp0; clear hp0
  replace hp : Hp _ _ _ (Res.obj 56 v35 [.int .i64 (0 : Int), .int .i64 (0 : Int)] :: Res.obj 56 v11 [.int .i64 q9.1, .int .i64 q9.2] :: Res.obj 56 v3 [.int .i64 o1_Re, .int .i64 o1_Im] :: Res.obj 56 v7 [.int .i64 (0 : Int), .int .i64 (0 : Int)] :: Res.obj 56 v5 [.int .i64 q27, .int .i64 q31] :: Res.obj 56 v1 [.int .i64 g0_Re, .int .i64 g0_Im] :: ow) := hp
  refine st_stO (us := [.int .i64 q33.1, .int .i64 q33.2]) hf hp (i := 0) rfl rfl rfl rfl rfl (by rfl) (by kernel_rfl) (Nat.le_of_ble_eq_true rfl) ?_
  clear hf; intro a w hf hp0; clear hp; have hp := hp0; clear hp0
  replace hp : Hp _ _ _ (Res.obj 56 v35 [.int .i64 q33.1, .int .i64 q33.2] :: Res.obj 56 v11 [.int .i64 q9.1, .int .i64 q9.2] :: Res.obj 56 v3 [.int .i64 o1_Re, .int .i64 o1_Im] :: Res.obj 56 v7 [.int .i64 (0 : Int), .int .i64 (0 : Int)] :: Res.obj 56 v5 [.int .i64 q27, .int .i64 q31] :: Res.obj 56 v1 [.int .i64 g0_Re, .int .i64 g0_Im] :: ow) := hp
  refine st_nil hf ?_
  refine th_n ?_
  refine wp_seq ?_
  obtain ⟨S37, hp38, rd39, up40, bk41⟩ := Hp.lendO hp (i := 5) rfl
  obtain ⟨S42, hp43, rd44, up45, bk46⟩ := Hp.lendO hp38 (i := 0) rfl
  have rl47 := ((rd39.now hp38).mono up45)
  have rl48 := rd44
  refine wp_cutN (fun a w => Fr 42 a [(4, optr v5 0), (5, optr v7 0)] ∧ Hp S w0 w (Res.obj 56 v1 [.int .i64 g0_Re, .int .i64 g0_Im] :: Res.obj 56 v35 [.int .i64 q33.1, .int .i64 q33.2] :: Res.obj 56 v11 [.int .i64 q9.1, .int .i64 q9.2] :: Res.obj 56 v3 [.int .i64 o1_Re, .int .i64 o1_Im] :: Res.obj 56 v7 [.int .i64 (IntKind.i64.wrap (g0_Re - q33.1)), .int .i64 (IntKind.i64.wrap (g0_Im - q33.2))] :: Res.obj 56 v5 [.int .i64 q27, .int .i64 q31] :: ow)) ?_ ?_
  · have hp := hp43.same (Same.drew w)
    refine dr_begin' (fun a w => Fr 42 a [(4, optr v5 0), (5, optr v7 0)] ∧ Hp S w0 w (Res.obj 56 v1 [.int .i64 g0_Re, .int .i64 g0_Im] :: Res.obj 56 v35 [.int .i64 q33.1, .int .i64 q33.2] :: Res.obj 56 v11 [.int .i64 q9.1, .int .i64 q9.2] :: Res.obj 56 v3 [.int .i64 o1_Re, .int .i64 o1_Im] :: Res.obj 56 v7 [.int .i64 (IntKind.i64.wrap (g0_Re - q33.1)), .int .i64 (IntKind.i64.wrap (g0_Im - q33.2))] :: Res.obj 56 v5 [.int .i64 q27, .int .i64 q31] :: ow)) (fun w' => ∃ l, Hp S42 w w' l) [] (by kernel_rfl) ?_
    refine dr_take 1 (optr v1 0) rfl (by kernel_rfl) (by kernel_rfl) (by kernel_rfl) (by kernel_rfl) rfl rfl hf (by decide) rfl (fun w hp => ?_) ⟨_, hp⟩ ?_
    · obtain ⟨_, hp⟩ := hp
      refine st_fa (o' := 0) hf (by decide) (off := 0) (sz := 1) (by kernel_rfl) (by decide) rfl rfl (rl47.ob hp) rfl ?_
      clear hf; intro a ha hf
      exact st_nil hf (th_n ⟨ha, rfl⟩)
    clear hf; intro a hf
    refine dr_take 2 (.int .i64 g0_Re) rfl (by kernel_rfl) (by kernel_rfl) (by kernel_rfl) (by kernel_rfl) rfl rfl hf (by decide) rfl (fun w hp => ?_) ⟨_, hp⟩ ?_
    · obtain ⟨_, hp⟩ := hp
      refine st_ldO (u := .int .i64 g0_Re) hf (by decide) pl2 rfl rfl (rl47.ob hp) rfl ?_
      clear hf; intro a ha hf
      exact st_nil hf (th_n ⟨ha, rfl⟩)
    clear hf; intro a hf
    refine dr_take 3 (optr v35 0) rfl (by kernel_rfl) (by kernel_rfl) (by kernel_rfl) (by kernel_rfl) rfl rfl hf (by decide) rfl (fun w hp => ?_) ⟨_, hp⟩ ?_
    · obtain ⟨_, hp⟩ := hp
      refine st_fa (o' := 0) hf (by decide) (off := 0) (sz := 1) (by kernel_rfl) (by decide) rfl rfl (rl48.ob hp) rfl ?_
      clear hf; intro a ha hf
      exact st_nil hf (th_n ⟨ha, rfl⟩)
    clear hf; intro a hf
    refine dr_take 4 (.int .i64 q33.1) rfl (by kernel_rfl) (by kernel_rfl) (by kernel_rfl) (by kernel_rfl) rfl rfl hf (by decide) rfl (fun w hp => ?_) ⟨_, hp⟩ ?_
    · obtain ⟨_, hp⟩ := hp
      refine st_ldO (u := .int .i64 q33.1) hf (by decide) pl2 rfl rfl (rl48.ob hp) rfl ?_
      clear hf; intro a ha hf
      exact st_nil hf (th_n ⟨ha, rfl⟩)
    clear hf; intro a hf
    refine dr_take 5 (.int .i64 (IntKind.i64.wrap (g0_Re - q33.1))) rfl (by kernel_rfl) (by kernel_rfl) (by kernel_rfl) (by kernel_rfl) rfl rfl hf (by decide) rfl (fun w hp => ?_) ⟨_, hp⟩ ?_
    · obtain ⟨_, hp⟩ := hp
      refine st_isub hf (by decide) rfl rfl rfl ?_
      clear hf; intro a ha hf
      exact st_nil hf (th_n ⟨ha, rfl⟩)
    clear hf; intro a hf
    refine dr_take 6 (optr v1 1) rfl (by kernel_rfl) (by kernel_rfl) (by kernel_rfl) (by kernel_rfl) rfl rfl hf (by decide) rfl (fun w hp => ?_) ⟨_, hp⟩ ?_
    · obtain ⟨_, hp⟩ := hp
      refine st_fa (o' := 1) hf (by decide) (off := 1) (sz := 1) (by kernel_rfl) (by decide) rfl rfl (rl47.ob hp) rfl ?_
      clear hf; intro a ha hf
      exact st_nil hf (th_n ⟨ha, rfl⟩)
    clear hf; intro a hf
    refine dr_take 7 (.int .i64 g0_Im) rfl (by kernel_rfl) (by kernel_rfl) (by kernel_rfl) (by kernel_rfl) rfl rfl hf (by decide) rfl (fun w hp => ?_) ⟨_, hp⟩ ?_
    · obtain ⟨_, hp⟩ := hp
      refine st_ldO (u := .int .i64 g0_Im) hf (by decide) pl2 rfl rfl (rl47.ob hp) rfl ?_
      clear hf; intro a ha hf
      exact st_nil hf (th_n ⟨ha, rfl⟩)
    clear hf; intro a hf
    refine dr_take 8 (optr v35 1) rfl (by kernel_rfl) (by kernel_rfl) (by kernel_rfl) (by kernel_rfl) rfl rfl hf (by decide) rfl (fun w hp => ?_) ⟨_, hp⟩ ?_
    · obtain ⟨_, hp⟩ := hp
      refine st_fa (o' := 1) hf (by decide) (off := 1) (sz := 1) (by kernel_rfl) (by decide) rfl rfl (rl48.ob hp) rfl ?_
      clear hf; intro a ha hf
      exact st_nil hf (th_n ⟨ha, rfl⟩)
    clear hf; intro a hf
    refine dr_take 9 (.int .i64 q33.2) rfl (by kernel_rfl) (by kernel_rfl) (by kernel_rfl) (by kernel_rfl) rfl rfl hf (by decide) rfl (fun w hp => ?_) ⟨_, hp⟩ ?_
    · obtain ⟨_, hp⟩ := hp
      refine st_ldO (u := .int .i64 q33.2) hf (by decide) pl2 rfl rfl (rl48.ob hp) rfl ?_
      clear hf; intro a ha hf
      exact st_nil hf (th_n ⟨ha, rfl⟩)
    clear hf; intro a hf
    refine dr_take 10 (.int .i64 (IntKind.i64.wrap (g0_Im - q33.2))) rfl (by kernel_rfl) (by kernel_rfl) (by kernel_rfl) (by kernel_rfl) rfl rfl hf (by decide) rfl (fun w hp => ?_) ⟨_, hp⟩ ?_
    · obtain ⟨_, hp⟩ := hp
      refine st_isub hf (by decide) rfl rfl rfl ?_
      clear hf; intro a ha hf
      exact st_nil hf (th_n ⟨ha, rfl⟩)
    clear hf; intro a hf
    refine dr_take 11 (.agg #[.int .i64 (IntKind.i64.wrap (g0_Re - q33.1)), .int .i64 (IntKind.i64.wrap (g0_Im - q33.2))]) rfl (by kernel_rfl) (by kernel_rfl) (by kernel_rfl) (by kernel_rfl) rfl rfl hf (by decide) rfl (fun w hp => ?_) ⟨_, hp⟩ ?_
    · obtain ⟨_, hp⟩ := hp
      refine st_buildA (vals := [(0, .int .i64 (IntKind.i64.wrap (g0_Re - q33.1))), (1, .int .i64 (IntKind.i64.wrap (g0_Im - q33.2)))]) (cells := [.int .i64 (IntKind.i64.wrap (g0_Re - q33.1)), .int .i64 (IntKind.i64.wrap (g0_Im - q33.2))]) hf (by decide) rfl (by simp [hf.ev (x := (Operand.tmp 35)) rfl, hf.ev (x := (Operand.tmp 40)) rfl]) (fun w => by kernel_rfl) ?_
      clear hf; intro a ha hf
      exact st_nil hf (th_n ⟨ha, rfl⟩)
    clear hf; intro a hf
    refine dr_one 0 rfl (by kernel_rfl) ?_
    refine st_ldOA (m := 2) (us := [.int .i64 q27, .int .i64 q31]) hf (by decide) (by kernel_rfl) rfl rfl (hp.ob (i := 3) rfl) rfl rfl ?_
    clear hf; intro a ha hf; clear ha
    refine st_nil hf (th_n ⟨fun _ _ => ⟨_, hp⟩, ?_⟩)
    refine dr_one 12 rfl (by kernel_rfl) ?_
    refine st_stO (us := [.int .i64 q27, .int .i64 q31]) hf hp (i := 3) rfl rfl rfl rfl rfl (by rfl) (by kernel_rfl) (Nat.le_of_ble_eq_true rfl) ?_
    clear hf; intro a w hf hp0; clear hp; have hp := hp0; clear hp0
    replace hp : Hp _ _ _ (Res.obj 56 v11 [.int .i64 q9.1, .int .i64 q9.2] :: Res.obj 56 v3 [.int .i64 o1_Re, .int .i64 o1_Im] :: Res.obj 56 v7 [.int .i64 (0 : Int), .int .i64 (0 : Int)] :: Res.obj 56 v5 [.int .i64 q27, .int .i64 q31] :: ow) := hp
    refine st_nil hf (th_n ⟨fun _ _ => ⟨_, hp⟩, ?_⟩)
    refine dr_one 13 rfl (by kernel_rfl) ?_
    refine st_stO (us := [.int .i64 (IntKind.i64.wrap (g0_Re - q33.1)), .int .i64 (IntKind.i64.wrap (g0_Im - q33.2))]) hf hp (i := 2) rfl rfl rfl rfl rfl (by rfl) (by kernel_rfl) (Nat.le_of_ble_eq_true rfl) ?_
    clear hf; intro a w hf hp0; clear hp; have hp := hp0; clear hp0
    replace hp : Hp _ _ _ (Res.obj 56 v11 [.int .i64 q9.1, .int .i64 q9.2] :: Res.obj 56 v3 [.int .i64 o1_Re, .int .i64 o1_Im] :: Res.obj 56 v7 [.int .i64 (IntKind.i64.wrap (g0_Re - q33.1)), .int .i64 (IntKind.i64.wrap (g0_Im - q33.2))] :: Res.obj 56 v5 [.int .i64 q27, .int .i64 q31] :: ow) := hp
    refine st_nil hf (th_n ⟨fun _ _ => ⟨_, hp⟩, ?_⟩)
    refine dr_end (by kernel_rfl) ?_ _
    have hp := bk46 _ _ hp
    have hp := bk41 _ _ hp
    exact ⟨hf.sub ⟨rfl, rfl, trivial⟩, hp⟩
  rintro a w ⟨hf, hp⟩
  refine th_n ?_
  refine wp_ret ?_
  obtain rfl := Option.some.inj h
  have hp : Hp _ _ _ (Res.obj 56 v5 [.int .i64 q27, .int .i64 q31] :: Res.obj 56 v7 [.int .i64 (IntKind.i64.wrap (g0_Re - q33.1)), .int .i64 (IntKind.i64.wrap (g0_Im - q33.2))] :: ow) := Hp.sel (pre := [Res.obj 56 v1 [.int .i64 g0_Re, .int .i64 g0_Im], Res.obj 56 v35 [.int .i64 q33.1, .int .i64 q33.2], Res.obj 56 v11 [.int .i64 q9.1, .int .i64 q9.2], Res.obj 56 v3 [.int .i64 o1_Re, .int .i64 o1_Im], Res.obj 56 v7 [.int .i64 (IntKind.i64.wrap (g0_Re - q33.1)), .int .i64 (IntKind.i64.wrap (g0_Im - q33.2))], Res.obj 56 v5 [.int .i64 q27, .int .i64 q31]]) (tail := ow) (rs' := [Res.obj 56 v5 [.int .i64 q27, .int .i64 q31], Res.obj 56 v7 [.int .i64 (IntKind.i64.wrap (g0_Re - q33.1)), .int .i64 (IntKind.i64.wrap (g0_Im - q33.2))]]) hp [5, 4] (by decide) (by simp) rfl
  exact ⟨rfl, ⟨_, _, hf.sub ⟨rfl, rfl, trivial⟩, hp⟩⟩

noncomputable def f_plane_Gcd.s1c (ax2c_0 : Int) (ax2c_1 : Int) (bx3c_0 : Int) (bx3c_1 : Int) : Option ((Int × Int × Int × Int) ⊕ (Int × Int)) := (if ((bx3c_0 == (0 : Int)) && ((bx3c_1 == (0 : Int)) && true)) = true then (some (Sum.inr (ax2c_0, ax2c_1))) else ((f_plane_Gauss_by ax2c_0 ax2c_1 bx3c_0 bx3c_1).bind fun q17 => (some (Sum.inl (bx3c_0, bx3c_1, q17.2.1, q17.2.2)))))
noncomputable def f_plane_Gcd.s1  (s : (Int × Int × Int × Int)) : Option ((Int × Int × Int × Int) ⊕ (Int × Int)) := f_plane_Gcd.s1c s.1 s.2.1 s.2.2.1 s.2.2.2
noncomputable def f_plane_Gcd.s2c (ax2c_0 : Int) (ax2c_1 : Int) : Option ((Int × Int) ⊕ (Int × Int)) := (if ((!((ax2c_0 == (0 : Int)) && ((ax2c_1 == (0 : Int)) && true))) && (!((decide ((0 : Int) < ax2c_0)) && (decide ((0 : Int) ≤ ax2c_1))))) = true then (some (Sum.inl ((IntKind.i64.wrap (0 - ax2c_1)), ax2c_0))) else (some (Sum.inr (ax2c_0, ax2c_1))))
noncomputable def f_plane_Gcd.s2  (s : (Int × Int)) : Option ((Int × Int) ⊕ (Int × Int)) := f_plane_Gcd.s2c s.1 s.2
noncomputable def f_plane_Gcd (ax0_Re : Int) (ax0_Im : Int) (bx1_Re : Int) (bx1_Im : Int) : Option ((Int × Int) × Int) := ((f_plane_Gauss_may ax0_Re ax0_Im).bind fun q7 => ((if (!q7) = true then (some true) else ((f_plane_Gauss_may bx1_Re bx1_Im).bind fun q12 => (some (!q12)))).bind fun z11 => (if z11 = true then (some (((0 : Int), (0 : Int)), (1 : Int))) else ((loop f_plane_Gcd.s1 (ax0_Re, ax0_Im, bx1_Re, bx1_Im)).bind (fun q29 => ((loop f_plane_Gcd.s2 (q29.1, q29.2)).bind (fun q36 => (some ((q36.1, q36.2), (0 : Int))))))))))
theorem f_plane_Gcd_c {S : Nat → Prop} {w0 w : World} {ow : List Res} (hp : Hp S w0 w ow) (ax0_Re : Int) (ax0_Im : Int) (bx1_Re : Int) (bx1_Im : Int) {r : ((Int × Int) × Int)} (h : f_plane_Gcd ax0_Re ax0_Im bx1_Re bx1_Im = some r) :
    Calls Try.prog 32 #[.agg #[.int .i64 ax0_Re, .int .i64 ax0_Im], .agg #[.int .i64 bx1_Re, .int .i64 bx1_Im]] w (fun e w' => e = .returned (.tuple #[.agg #[.int .i64 r.1.1, .int .i64 r.1.2], .int .i64 r.2]) ∧ Hp S w0 w' (ow)) := by
  unfold f_plane_Gcd at h
  refine enter (n := 49) (args := [.agg #[.int .i64 ax0_Re, .int .i64 ax0_Im], .agg #[.int .i64 bx1_Re, .int .i64 bx1_Im]]) Try.func32 rfl rfl (Nat.le_of_ble_eq_true rfl) fun a hf => ?_
  replace hf : Fr 49 a [(0, .agg #[.int .i64 ax0_Re, .int .i64 ax0_Im]), (1, .agg #[.int .i64 bx1_Re, .int .i64 bx1_Im])] := hf
  refine wp_mono (Q := fun e a w => e = .ret ∧ ∃ (c0 : Value), Fr 49 a [(4, optr c0 0), (5, .int .i64 r.2)] ∧ Hp S w0 w (Res.obj 56 c0 [.int .i64 r.1.1, .int .i64 r.1.2] :: ow)) ?_ ?_
  rotate_left
  · rintro e a w ⟨rfl, c0, hf, hp⟩
    exact retG2 hf rfl ⟨_, _, rfl, hp.ob (i := 0) rfl, .inr ⟨by kernel_rfl, rfl⟩⟩ rfl ⟨rfl, hp.drop⟩
  refine wp_seq ?_
  refine wp_reg ?_
  refine st_boxO (cs := [.int .i64 ax0_Re, .int .i64 ax0_Im]) hf (by decide) hp rfl rfl rfl ?_
  clear hf; intro a w v1 hf hp0; clear hp; have hp := hp0; clear hp0
  replace hp : Hp _ _ _ (Res.obj 56 v1 [.int .i64 ax0_Re, .int .i64 ax0_Im] :: ow) := hp
  refine st_boxO (cs := [.int .i64 bx1_Re, .int .i64 bx1_Im]) hf (by decide) hp rfl rfl rfl ?_
  clear hf; intro a w v3 hf hp0; clear hp; have hp := hp0; clear hp0
  replace hp : Hp _ _ _ (Res.obj 56 v3 [.int .i64 bx1_Re, .int .i64 bx1_Im] :: Res.obj 56 v1 [.int .i64 ax0_Re, .int .i64 ax0_Im] :: ow) := hp
  refine st_alloc (cs := [.int .i64 (0 : Int), .int .i64 (0 : Int)]) (zv := .agg #[.int .i64 (0 : Int), .int .i64 (0 : Int)]) hf (by decide) (by kernel_rfl) rfl hp rfl ?_
  clear hf; intro a w v5 hf hp0; clear hp; have hp := hp0; clear hp0
  replace hp : Hp _ _ _ (Res.obj 56 v5 [.int .i64 (0 : Int), .int .i64 (0 : Int)] :: Res.obj 56 v3 [.int .i64 bx1_Re, .int .i64 bx1_Im] :: Res.obj 56 v1 [.int .i64 ax0_Re, .int .i64 ax0_Im] :: ow) := hp
  refine st_assign hf rfl rfl (by decide) ?_
  clear hf; intro a ha hf; clear ha
  refine st_nil hf ?_
  refine th_n ?_
  refine wp_scope_straight ?_
  refine wp_seq ?_
  refine wp_seq ?_
  refine wp_reg ?_
  refine st_ldOA (m := 2) (us := [.int .i64 ax0_Re, .int .i64 ax0_Im]) hf (by decide) (by kernel_rfl) rfl rfl (hp.ob (i := 2) rfl) rfl rfl ?_
  clear hf; intro a ha hf; clear ha
  obtain ⟨q7, hcall8, h⟩ := bnd h
  refine st_call hf (by decide) Try.func55 rfl rfl rfl rfl rfl (f_plane_Gauss_may_c hp _ _ hcall8) ?_
  rintro _ w ⟨rfl, hp0⟩
  clear hp; have hp := hp0; clear hp0
  replace hp : Hp _ _ _ (Res.obj 56 v5 [.int .i64 (0 : Int), .int .i64 (0 : Int)] :: Res.obj 56 v3 [.int .i64 bx1_Re, .int .i64 bx1_Im] :: Res.obj 56 v1 [.int .i64 ax0_Re, .int .i64 ax0_Im] :: ow) := hp
  refine ⟨_, rfl, ?_⟩
  clear hf; intro a hf
  refine st_not hf (by decide) rfl rfl ?_
  clear hf; intro a ha hf; clear ha
  refine st_move hf rfl rfl (by decide) ?_
  clear hf; intro a ha hf; clear ha
  obtain ⟨z11, hz9, h⟩ := bnd h
  refine wpList_cut 4 (fun a w => Fr 49 a [(2, optr v1 0), (3, optr v3 0), (4, optr v5 0), (15, .bool z11)] ∧ Hp S w0 w (Res.obj 56 v5 [.int .i64 (0 : Int), .int .i64 (0 : Int)] :: Res.obj 56 v3 [.int .i64 bx1_Re, .int .i64 bx1_Im] :: Res.obj 56 v1 [.int .i64 ax0_Re, .int .i64 ax0_Im] :: ow)) ?_ ?_
  · rcases Bool.eq_false_or_eq_true (!q7) with hb10 | hb10
    · skip
      replace hz9 := ifT hz9 hb10
      refine st_skip hf (wantN hf rfl rfl hb10) rfl (by decide) ?_ rfl
      clear hf; intro a hf
      refine st_skip hf (wantN hf rfl rfl hb10) rfl (by decide) ?_ rfl
      clear hf; intro a hf
      refine st_skip hf (wantN hf rfl rfl hb10) rfl (by decide) ?_ rfl
      clear hf; intro a hf
      obtain rfl := Option.some.inj hz9
      refine st_pick (v := .bool true) hf rfl rfl (fun hb' => ?_) (fun hb' => ?_) (by decide) ?_
      · rfl
      · exact absurd (hb10.symm.trans hb') (by decide)
      clear hf; intro a ha hf; clear ha
      refine st_nil hf (th_n ?_)
      exact ⟨hf.sub ⟨rfl, rfl, rfl, rfl, trivial⟩, hp⟩
    replace hz9 := ifF hz9 hb10
    refine st_ldOA (m := 2) (us := [.int .i64 bx1_Re, .int .i64 bx1_Im]) hf (by decide) (by kernel_rfl) (wantY hf rfl rfl hb10) rfl (hp.ob (i := 1) rfl) rfl rfl ?_
    clear hf; intro a ha hf; clear ha
    obtain ⟨q12, hcall13, hz9⟩ := bnd hz9
    refine st_call hf (by decide) Try.func55 rfl rfl (wantY hf rfl rfl hb10) rfl rfl (f_plane_Gauss_may_c hp _ _ hcall13) ?_
    rintro _ w ⟨rfl, hp0⟩
    clear hp; have hp := hp0; clear hp0
    replace hp : Hp _ _ _ (Res.obj 56 v5 [.int .i64 (0 : Int), .int .i64 (0 : Int)] :: Res.obj 56 v3 [.int .i64 bx1_Re, .int .i64 bx1_Im] :: Res.obj 56 v1 [.int .i64 ax0_Re, .int .i64 ax0_Im] :: ow) := hp
    refine ⟨_, rfl, ?_⟩
    clear hf; intro a hf
    refine st_not hf (by decide) (wantY hf rfl rfl hb10) rfl ?_
    clear hf; intro a ha hf; clear ha
    obtain rfl := Option.some.inj hz9
    refine st_pick (v := .bool (!q12)) hf rfl rfl (fun hb' => ?_) (fun hb' => ?_) (by decide) ?_
    · exact absurd (hb10.symm.trans hb') (by decide)
    · rfl
    clear hf; intro a ha hf; clear ha
    refine st_nil hf (th_n ?_)
    exact ⟨hf.sub ⟨rfl, rfl, rfl, rfl, trivial⟩, hp⟩
  rintro a w ⟨hf, hp⟩
  refine st_nil hf ?_
  refine th_n ?_
  refine wp_if hf rfl (fun hb => ?_) (fun hb => ?_)
  · replace h := ifT h hb
    refine wp_seq ?_
    refine wp_reg ?_
    refine st_buildA (vals := []) (cells := [.int .i64 (0 : Int), .int .i64 (0 : Int)]) hf (by decide) rfl (by simp []) (fun w => by kernel_rfl) ?_
    clear hf; intro a ha hf; clear ha
    refine st_stO (us := [.int .i64 (0 : Int), .int .i64 (0 : Int)]) hf hp (i := 0) rfl rfl rfl rfl rfl (by rfl) (by kernel_rfl) (Nat.le_of_ble_eq_true rfl) ?_
    clear hf; intro a w hf hp0; clear hp; have hp := hp0; clear hp0
    replace hp : Hp _ _ _ (Res.obj 56 v5 [.int .i64 (0 : Int), .int .i64 (0 : Int)] :: Res.obj 56 v3 [.int .i64 bx1_Re, .int .i64 bx1_Im] :: Res.obj 56 v1 [.int .i64 ax0_Re, .int .i64 ax0_Im] :: ow) := hp
    refine st_assign hf rfl rfl (by decide) ?_
    clear hf; intro a ha hf; clear ha
    refine st_nil hf ?_
    refine th_n ?_
    refine wp_ret ?_
    refine th_r ?_
    refine ng_r ?_
    obtain rfl := Option.some.inj h
    have hp : Hp _ _ _ (Res.obj 56 v5 [.int .i64 (0 : Int), .int .i64 (0 : Int)] :: ow) := Hp.sel (pre := [Res.obj 56 v5 [.int .i64 (0 : Int), .int .i64 (0 : Int)], Res.obj 56 v3 [.int .i64 bx1_Re, .int .i64 bx1_Im], Res.obj 56 v1 [.int .i64 ax0_Re, .int .i64 ax0_Im]]) (tail := ow) (rs' := [Res.obj 56 v5 [.int .i64 (0 : Int), .int .i64 (0 : Int)]]) hp [0] (by decide) (by simp) rfl
    exact ⟨rfl, ⟨_, hf.sub ⟨rfl, rfl, trivial⟩, hp⟩⟩
  replace h := ifF h hb
  refine wp_skip ?_
  refine th_n ?_
  refine wp_seq ?_
  refine wp_label ?_
  refine th_n ?_
  refine wp_seq ?_
  refine wp_block ?_
  obtain ⟨q29, hl, h⟩ := bnd h
  have hp : Hp _ _ _ (Res.obj 56 v1 [.int .i64 ax0_Re, .int .i64 ax0_Im] :: Res.obj 56 v3 [.int .i64 bx1_Re, .int .i64 bx1_Im] :: Res.obj 56 v5 [.int .i64 (0 : Int), .int .i64 (0 : Int)] :: ow) := Hp.sel (pre := [Res.obj 56 v5 [.int .i64 (0 : Int), .int .i64 (0 : Int)], Res.obj 56 v3 [.int .i64 bx1_Re, .int .i64 bx1_Im], Res.obj 56 v1 [.int .i64 ax0_Re, .int .i64 ax0_Im]]) (tail := ow) (rs' := [Res.obj 56 v1 [.int .i64 ax0_Re, .int .i64 ax0_Im], Res.obj 56 v3 [.int .i64 bx1_Re, .int .i64 bx1_Im], Res.obj 56 v5 [.int .i64 (0 : Int), .int .i64 (0 : Int)]]) hp [2, 1, 0] (by decide) (by simp) rfl
  refine wp_loop_pure (f := f_plane_Gcd.s1) (s := (ax0_Re, ax0_Im, bx1_Re, bx1_Im)) (fun s a w => Fr 49 a [(2, optr v1 0), (3, optr v3 0), (4, optr v5 0)] ∧ Hp S w0 w (Res.obj 56 v1 [.int .i64 s.1, .int .i64 s.2.1] :: Res.obj 56 v3 [.int .i64 s.2.2.1, .int .i64 s.2.2.2] :: Res.obj 56 v5 [.int .i64 (0 : Int), .int .i64 (0 : Int)] :: ow)) (fun q e a w => e = .exit 0 ∧ Fr 49 a [(2, optr v1 0), (4, optr v5 0)] ∧ Hp S w0 w (Res.obj 56 v1 [.int .i64 q.1, .int .i64 q.2] :: Res.obj 56 v5 [.int .i64 (0 : Int), .int .i64 (0 : Int)] :: ow)) ?_ hl ⟨hf.sub ⟨rfl, rfl, rfl, trivial⟩, hp⟩ ?_
  · clear hl hf hp
    intro s x a w h hI
    obtain ⟨ax2c_0, ax2c_1, bx3c_0, bx3c_1⟩ := s
    obtain ⟨hf, hp⟩ : Fr 49 a [(2, optr v1 0), (3, optr v3 0), (4, optr v5 0)] ∧ Hp S w0 w (Res.obj 56 v1 [.int .i64 ax2c_0, .int .i64 ax2c_1] :: Res.obj 56 v3 [.int .i64 bx3c_0, .int .i64 bx3c_1] :: Res.obj 56 v5 [.int .i64 (0 : Int), .int .i64 (0 : Int)] :: ow) := hI
    replace h : f_plane_Gcd.s1c ax2c_0 ax2c_1 bx3c_0 bx3c_1 = some x := h
    unfold f_plane_Gcd.s1c at h
    refine wp_block ?_
    refine wp_seq ?_
    refine wp_seq ?_
    refine wp_reg ?_
    refine st_ldOA (m := 2) (us := [.int .i64 bx3c_0, .int .i64 bx3c_1]) hf (by decide) (by kernel_rfl) rfl rfl (hp.ob (i := 1) rfl) rfl rfl ?_
    clear hf; intro a ha hf; clear ha
    refine st_buildA (vals := []) (cells := [.int .i64 (0 : Int), .int .i64 (0 : Int)]) hf (by decide) rfl (by simp []) (fun w => by kernel_rfl) ?_
    clear hf; intro a ha hf; clear ha
    refine st_eqA (xs := [.int .i64 bx3c_0, .int .i64 bx3c_1]) (ys := [.int .i64 (0 : Int), .int .i64 (0 : Int)]) hf (by decide) (by kernel_rfl) (by kernel_rfl) (by kernel_rfl) (by kernel_rfl) rfl rfl rfl (b := ((bx3c_0 == (0 : Int)) && ((bx3c_1 == (0 : Int)) && true))) rfl ?_
    clear hf; intro a ha hf; clear ha
    refine st_nil hf ?_
    refine th_n ?_
    refine wp_if hf rfl (fun hb => ?_) (fun hb => ?_)
    · replace h := ifT h hb
      refine wp_exit ?_
      refine th_e ?_
      refine ib_ne rfl ?_
      obtain rfl := Option.some.inj h
      have hp : Hp _ _ _ (Res.obj 56 v1 [.int .i64 ax2c_0, .int .i64 ax2c_1] :: Res.obj 56 v5 [.int .i64 (0 : Int), .int .i64 (0 : Int)] :: ow) := Hp.sel (pre := [Res.obj 56 v1 [.int .i64 ax2c_0, .int .i64 ax2c_1], Res.obj 56 v3 [.int .i64 bx3c_0, .int .i64 bx3c_1], Res.obj 56 v5 [.int .i64 (0 : Int), .int .i64 (0 : Int)]]) (tail := ow) (rs' := [Res.obj 56 v1 [.int .i64 ax2c_0, .int .i64 ax2c_1], Res.obj 56 v5 [.int .i64 (0 : Int), .int .i64 (0 : Int)]]) hp [0, 2] (by decide) (by simp) rfl
      exact rnd_r (by simp) ⟨rfl, hf.sub ⟨rfl, rfl, trivial⟩, hp⟩
    replace h := ifF h hb
    refine wp_skip ?_
    refine th_n ?_
    refine wp_seq ?_
    refine wp_reg ?_
    refine st_ldOA (m := 2) (us := [.int .i64 ax2c_0, .int .i64 ax2c_1]) hf (by decide) (by kernel_rfl) rfl rfl (hp.ob (i := 0) rfl) rfl rfl ?_
    clear hf; intro a ha hf; clear ha
    refine st_ldOA (m := 2) (us := [.int .i64 bx3c_0, .int .i64 bx3c_1]) hf (by decide) (by kernel_rfl) rfl rfl (hp.ob (i := 1) rfl) rfl rfl ?_
    clear hf; intro a ha hf; clear ha
    obtain ⟨q17, hcall18, h⟩ := bnd h
    refine st_call hf (by decide) Try.func57 rfl rfl rfl rfl rfl (f_plane_Gauss_by_c hp _ _ _ _ hcall18) ?_
    rintro _ w ⟨rfl, hp0⟩
    clear hp; have hp := hp0; clear hp0
    replace hp : Hp _ _ _ (Res.obj 56 v1 [.int .i64 ax2c_0, .int .i64 ax2c_1] :: Res.obj 56 v3 [.int .i64 bx3c_0, .int .i64 bx3c_1] :: Res.obj 56 v5 [.int .i64 (0 : Int), .int .i64 (0 : Int)] :: ow) := hp
    refine ⟨_, rfl, ?_⟩
    clear hf; intro a hf
    refine st_move hf rfl rfl (by decide) ?_
    clear hf; intro a ha hf; clear ha
    refine st_extract hf (by decide) rfl rfl rfl ?_
    clear hf; intro a ha hf; clear ha
    refine st_extract hf (by decide) rfl rfl rfl ?_
    clear hf; intro a ha hf; clear ha
    refine st_alloc (cs := [.int .i64 (0 : Int), .int .i64 (0 : Int)]) (zv := .agg #[.int .i64 (0 : Int), .int .i64 (0 : Int)]) hf (by decide) (by kernel_rfl) rfl hp rfl ?_
    clear hf; intro a w v19 hf hp0; clear hp; have hp := hp0; clear hp0
    replace hp : Hp _ _ _ (Res.obj 56 v19 [.int .i64 (0 : Int), .int .i64 (0 : Int)] :: Res.obj 56 v1 [.int .i64 ax2c_0, .int .i64 ax2c_1] :: Res.obj 56 v3 [.int .i64 bx3c_0, .int .i64 bx3c_1] :: Res.obj 56 v5 [.int .i64 (0 : Int), .int .i64 (0 : Int)] :: ow) := hp
    refine st_alloc (cs := [.int .i64 (0 : Int), .int .i64 (0 : Int)]) (zv := .agg #[.int .i64 (0 : Int), .int .i64 (0 : Int)]) hf (by decide) (by kernel_rfl) rfl hp rfl ?_
    clear hf; intro a w v21 hf hp0; clear hp; have hp := hp0; clear hp0
    replace hp : Hp _ _ _ (Res.obj 56 v21 [.int .i64 (0 : Int), .int .i64 (0 : Int)] :: Res.obj 56 v19 [.int .i64 (0 : Int), .int .i64 (0 : Int)] :: Res.obj 56 v1 [.int .i64 ax2c_0, .int .i64 ax2c_1] :: Res.obj 56 v3 [.int .i64 bx3c_0, .int .i64 bx3c_1] :: Res.obj 56 v5 [.int .i64 (0 : Int), .int .i64 (0 : Int)] :: ow) := hp
    refine st_stO (us := [.int .i64 q17.1.1, .int .i64 q17.1.2]) hf hp (i := 1) rfl rfl rfl rfl rfl (by rfl) (by kernel_rfl) (Nat.le_of_ble_eq_true rfl) ?_
    clear hf; intro a w hf hp0; clear hp; have hp := hp0; clear hp0
    replace hp : Hp _ _ _ (Res.obj 56 v21 [.int .i64 (0 : Int), .int .i64 (0 : Int)] :: Res.obj 56 v19 [.int .i64 q17.1.1, .int .i64 q17.1.2] :: Res.obj 56 v1 [.int .i64 ax2c_0, .int .i64 ax2c_1] :: Res.obj 56 v3 [.int .i64 bx3c_0, .int .i64 bx3c_1] :: Res.obj 56 v5 [.int .i64 (0 : Int), .int .i64 (0 : Int)] :: ow) := hp
    refine st_stO (us := [.int .i64 q17.2.1, .int .i64 q17.2.2]) hf hp (i := 0) rfl rfl rfl rfl rfl (by rfl) (by kernel_rfl) (Nat.le_of_ble_eq_true rfl) ?_
    clear hf; intro a w hf hp0; clear hp; have hp := hp0; clear hp0
    replace hp : Hp _ _ _ (Res.obj 56 v21 [.int .i64 q17.2.1, .int .i64 q17.2.2] :: Res.obj 56 v19 [.int .i64 q17.1.1, .int .i64 q17.1.2] :: Res.obj 56 v1 [.int .i64 ax2c_0, .int .i64 ax2c_1] :: Res.obj 56 v3 [.int .i64 bx3c_0, .int .i64 bx3c_1] :: Res.obj 56 v5 [.int .i64 (0 : Int), .int .i64 (0 : Int)] :: ow) := hp
    refine st_nil hf ?_
    refine th_n ?_
    obtain ⟨S23, hp24, rd25, up26, bk27⟩ := Hp.lendO hp (i := 0) rfl
    have rl28 := rd25
    refine wp_cutN (fun a w => Fr 49 a [(2, optr v1 0), (3, optr v3 0), (4, optr v5 0)] ∧ Hp S w0 w (Res.obj 56 v21 [.int .i64 q17.2.1, .int .i64 q17.2.2] :: Res.obj 56 v19 [.int .i64 q17.1.1, .int .i64 q17.1.2] :: Res.obj 56 v1 [.int .i64 bx3c_0, .int .i64 bx3c_1] :: Res.obj 56 v3 [.int .i64 q17.2.1, .int .i64 q17.2.2] :: Res.obj 56 v5 [.int .i64 (0 : Int), .int .i64 (0 : Int)] :: ow)) ?_ ?_
    · have hp := hp24.same (Same.drew w)
      refine dr_begin' (fun a w => Fr 49 a [(2, optr v1 0), (3, optr v3 0), (4, optr v5 0)] ∧ Hp S w0 w (Res.obj 56 v21 [.int .i64 q17.2.1, .int .i64 q17.2.2] :: Res.obj 56 v19 [.int .i64 q17.1.1, .int .i64 q17.1.2] :: Res.obj 56 v1 [.int .i64 bx3c_0, .int .i64 bx3c_1] :: Res.obj 56 v3 [.int .i64 q17.2.1, .int .i64 q17.2.2] :: Res.obj 56 v5 [.int .i64 (0 : Int), .int .i64 (0 : Int)] :: ow)) (fun w' => ∃ l, Hp S23 w w' l) [] (by kernel_rfl) ?_
      refine dr_take 1 (.agg #[.int .i64 q17.2.1, .int .i64 q17.2.2]) rfl (by kernel_rfl) (by kernel_rfl) (by kernel_rfl) (by kernel_rfl) rfl rfl hf (by decide) rfl (fun w hp => ?_) ⟨_, hp⟩ ?_
      · obtain ⟨_, hp⟩ := hp
        refine st_ldOA (m := 2) (us := [.int .i64 q17.2.1, .int .i64 q17.2.2]) hf (by decide) (by kernel_rfl) rfl rfl (rl28.ob hp) rfl rfl ?_
        clear hf; intro a ha hf
        exact st_nil hf (th_n ⟨ha, rfl⟩)
      clear hf; intro a hf
      refine dr_one 0 rfl (by kernel_rfl) ?_
      refine st_ldOA (m := 2) (us := [.int .i64 bx3c_0, .int .i64 bx3c_1]) hf (by decide) (by kernel_rfl) rfl rfl (hp.ob (i := 2) rfl) rfl rfl ?_
      clear hf; intro a ha hf; clear ha
      refine st_nil hf (th_n ⟨fun _ _ => ⟨_, hp⟩, ?_⟩)
      refine dr_one 2 rfl (by kernel_rfl) ?_
      refine st_stO (us := [.int .i64 bx3c_0, .int .i64 bx3c_1]) hf hp (i := 1) rfl rfl rfl rfl rfl (by rfl) (by kernel_rfl) (Nat.le_of_ble_eq_true rfl) ?_
      clear hf; intro a w hf hp0; clear hp; have hp := hp0; clear hp0
      replace hp : Hp _ _ _ (Res.obj 56 v19 [.int .i64 q17.1.1, .int .i64 q17.1.2] :: Res.obj 56 v1 [.int .i64 bx3c_0, .int .i64 bx3c_1] :: Res.obj 56 v3 [.int .i64 bx3c_0, .int .i64 bx3c_1] :: Res.obj 56 v5 [.int .i64 (0 : Int), .int .i64 (0 : Int)] :: ow) := hp
      refine st_nil hf (th_n ⟨fun _ _ => ⟨_, hp⟩, ?_⟩)
      refine dr_one 3 rfl (by kernel_rfl) ?_
      refine st_stO (us := [.int .i64 q17.2.1, .int .i64 q17.2.2]) hf hp (i := 2) rfl rfl rfl rfl rfl (by rfl) (by kernel_rfl) (Nat.le_of_ble_eq_true rfl) ?_
      clear hf; intro a w hf hp0; clear hp; have hp := hp0; clear hp0
      replace hp : Hp _ _ _ (Res.obj 56 v19 [.int .i64 q17.1.1, .int .i64 q17.1.2] :: Res.obj 56 v1 [.int .i64 bx3c_0, .int .i64 bx3c_1] :: Res.obj 56 v3 [.int .i64 q17.2.1, .int .i64 q17.2.2] :: Res.obj 56 v5 [.int .i64 (0 : Int), .int .i64 (0 : Int)] :: ow) := hp
      refine st_nil hf (th_n ⟨fun _ _ => ⟨_, hp⟩, ?_⟩)
      refine dr_end (by kernel_rfl) ?_ _
      have hp := bk27 _ _ hp
      exact ⟨hf.sub ⟨rfl, rfl, rfl, trivial⟩, hp⟩
    rintro a w ⟨hf, hp⟩
    refine ib_n ?_
    obtain rfl := Option.some.inj h
    have hp : Hp _ _ _ (Res.obj 56 v1 [.int .i64 bx3c_0, .int .i64 bx3c_1] :: Res.obj 56 v3 [.int .i64 q17.2.1, .int .i64 q17.2.2] :: Res.obj 56 v5 [.int .i64 (0 : Int), .int .i64 (0 : Int)] :: ow) := Hp.sel (pre := [Res.obj 56 v21 [.int .i64 q17.2.1, .int .i64 q17.2.2], Res.obj 56 v19 [.int .i64 q17.1.1, .int .i64 q17.1.2], Res.obj 56 v1 [.int .i64 bx3c_0, .int .i64 bx3c_1], Res.obj 56 v3 [.int .i64 q17.2.1, .int .i64 q17.2.2], Res.obj 56 v5 [.int .i64 (0 : Int), .int .i64 (0 : Int)]]) (tail := ow) (rs' := [Res.obj 56 v1 [.int .i64 bx3c_0, .int .i64 bx3c_1], Res.obj 56 v3 [.int .i64 q17.2.1, .int .i64 q17.2.2], Res.obj 56 v5 [.int .i64 (0 : Int), .int .i64 (0 : Int)]]) hp [2, 3, 4] (by decide) (by simp) rfl
    exact rnd_l ⟨hf.sub ⟨rfl, rfl, rfl, trivial⟩, hp⟩
  clear hl hf hp
  intro e a w hne hO
  obtain ⟨rfl, hf, hp⟩ := hO
  refine ib_same ?_
  refine th_n ?_
  refine wp_seq ?_
  refine wp_block ?_
  obtain ⟨q36, hl, h⟩ := bnd h
  refine wp_loop_pure (f := f_plane_Gcd.s2) (s := (q29.1, q29.2)) (fun s a w => Fr 49 a [(2, optr v1 0), (4, optr v5 0)] ∧ Hp S w0 w (Res.obj 56 v1 [.int .i64 s.1, .int .i64 s.2] :: Res.obj 56 v5 [.int .i64 (0 : Int), .int .i64 (0 : Int)] :: ow)) (fun q e a w => e = .exit 2 ∧ Fr 49 a [(2, optr v1 0), (4, optr v5 0)] ∧ Hp S w0 w (Res.obj 56 v1 [.int .i64 q.1, .int .i64 q.2] :: Res.obj 56 v5 [.int .i64 (0 : Int), .int .i64 (0 : Int)] :: ow)) ?_ hl ⟨hf.sub ⟨rfl, rfl, trivial⟩, hp⟩ ?_
  · clear hl hf hp
    intro s x a w h hI
    obtain ⟨ax2c_0, ax2c_1⟩ := s
    obtain ⟨hf, hp⟩ : Fr 49 a [(2, optr v1 0), (4, optr v5 0)] ∧ Hp S w0 w (Res.obj 56 v1 [.int .i64 ax2c_0, .int .i64 ax2c_1] :: Res.obj 56 v5 [.int .i64 (0 : Int), .int .i64 (0 : Int)] :: ow) := hI
    replace h : f_plane_Gcd.s2c ax2c_0 ax2c_1 = some x := h
    unfold f_plane_Gcd.s2c at h
    refine wp_seq ?_
    refine wp_seq ?_
    refine wp_reg ?_
    refine st_ldOA (m := 2) (us := [.int .i64 ax2c_0, .int .i64 ax2c_1]) hf (by decide) (by kernel_rfl) rfl rfl (hp.ob (i := 0) rfl) rfl rfl ?_
    clear hf; intro a ha hf; clear ha
    refine st_buildA (vals := []) (cells := [.int .i64 (0 : Int), .int .i64 (0 : Int)]) hf (by decide) rfl (by simp []) (fun w => by kernel_rfl) ?_
    clear hf; intro a ha hf; clear ha
    refine st_neA (xs := [.int .i64 ax2c_0, .int .i64 ax2c_1]) (ys := [.int .i64 (0 : Int), .int .i64 (0 : Int)]) hf (by decide) (by kernel_rfl) (by kernel_rfl) (by kernel_rfl) (by kernel_rfl) rfl rfl rfl (b := (!((ax2c_0 == (0 : Int)) && ((ax2c_1 == (0 : Int)) && true)))) rfl ?_
    clear hf; intro a ha hf; clear ha
    refine st_move hf rfl rfl (by decide) ?_
    clear hf; intro a ha hf; clear ha
    refine wpList_cut 10 (fun a w => Fr 49 a [(2, optr v1 0), (4, optr v5 0), (41, .bool ((!((ax2c_0 == (0 : Int)) && ((ax2c_1 == (0 : Int)) && true))) && (!((decide ((0 : Int) < ax2c_0)) && (decide ((0 : Int) ≤ ax2c_1))))))] ∧ Hp S w0 w (Res.obj 56 v1 [.int .i64 ax2c_0, .int .i64 ax2c_1] :: Res.obj 56 v5 [.int .i64 (0 : Int), .int .i64 (0 : Int)] :: ow)) ?_ ?_
    · rcases Bool.eq_false_or_eq_true (!((ax2c_0 == (0 : Int)) && ((ax2c_1 == (0 : Int)) && true))) with hb33 | hb33
      · skip
        refine st_fa (o' := 0) hf (by decide) (off := 0) (sz := 1) (by kernel_rfl) (by decide) (wantY hf rfl rfl hb33) rfl (hp.ob (i := 0) rfl) rfl ?_
        clear hf; intro a ha hf; clear ha
        refine st_ldO (u := .int .i64 ax2c_0) hf (by decide) pl2 (wantY hf rfl rfl hb33) rfl (hp.ob (i := 0) rfl) rfl ?_
        clear hf; intro a ha hf; clear ha
        refine st_igtr hf (by decide) (wantY hf rfl rfl hb33) rfl rfl ?_
        clear hf; intro a ha hf; clear ha
        refine st_move hf (wantY hf rfl rfl hb33) rfl (by decide) ?_
        clear hf; intro a ha hf; clear ha
        refine wpList_cut 4 (fun a w => Fr 49 a [(2, optr v1 0), (4, optr v5 0), (31, .bool (!((ax2c_0 == (0 : Int)) && ((ax2c_1 == (0 : Int)) && true)))), (39, .bool ((decide ((0 : Int) < ax2c_0)) && (decide ((0 : Int) ≤ ax2c_1))))] ∧ Hp S w0 w (Res.obj 56 v1 [.int .i64 ax2c_0, .int .i64 ax2c_1] :: Res.obj 56 v5 [.int .i64 (0 : Int), .int .i64 (0 : Int)] :: ow)) ?_ ?_
        · rcases Bool.eq_false_or_eq_true (decide ((0 : Int) < ax2c_0)) with hb35 | hb35
          · skip
            refine st_fa (o' := 1) hf (by decide) (off := 1) (sz := 1) (by kernel_rfl) (by decide) (wantY hf rfl rfl hb35) rfl (hp.ob (i := 0) rfl) rfl ?_
            clear hf; intro a ha hf; clear ha
            refine st_ldO (u := .int .i64 ax2c_1) hf (by decide) pl2 (wantY hf rfl rfl hb35) rfl (hp.ob (i := 0) rfl) rfl ?_
            clear hf; intro a ha hf; clear ha
            refine st_igeq hf (by decide) (wantY hf rfl rfl hb35) rfl rfl ?_
            clear hf; intro a ha hf; clear ha
            refine st_pick (v := .bool (decide ((0 : Int) ≤ ax2c_1))) hf (wantY hf rfl rfl hb33) rfl (fun hb' => ?_) (fun hb' => ?_) (by decide) ?_
            · rfl
            · exact absurd (hb35.symm.trans hb') (by decide)
            clear hf; intro a ha hf; clear ha
            refine st_nil hf (th_n ?_)
            exact ⟨hf.sub ⟨rfl, rfl, rfl, (by rw [hb35]; rfl), trivial⟩, hp⟩
          refine st_skip hf (wantN hf rfl rfl hb35) rfl (by decide) ?_ rfl
          clear hf; intro a hf
          refine st_skip hf (wantN hf rfl rfl hb35) rfl (by decide) ?_ rfl
          clear hf; intro a hf
          refine st_skip hf (wantN hf rfl rfl hb35) rfl (by decide) ?_ rfl
          clear hf; intro a hf
          refine st_pick (v := .bool false) hf (wantY hf rfl rfl hb33) rfl (fun hb' => ?_) (fun hb' => ?_) (by decide) ?_
          · exact absurd (hb35.symm.trans hb') (by decide)
          · rfl
          clear hf; intro a ha hf; clear ha
          refine st_nil hf (th_n ?_)
          exact ⟨hf.sub ⟨rfl, rfl, rfl, (by rw [hb35]; rfl), trivial⟩, hp⟩
        rintro a w ⟨hf, hp⟩
        refine st_not hf (by decide) (wantY hf rfl rfl hb33) rfl ?_
        clear hf; intro a ha hf; clear ha
        refine st_pick (v := .bool (!((decide ((0 : Int) < ax2c_0)) && (decide ((0 : Int) ≤ ax2c_1))))) hf rfl rfl (fun hb' => ?_) (fun hb' => ?_) (by decide) ?_
        · rfl
        · exact absurd (hb33.symm.trans hb') (by decide)
        clear hf; intro a ha hf; clear ha
        refine st_nil hf (th_n ?_)
        exact ⟨hf.sub ⟨rfl, rfl, (by rw [hb33]; rfl), trivial⟩, hp⟩
      refine st_skip hf (wantN hf rfl rfl hb33) rfl (by decide) ?_ rfl
      clear hf; intro a hf
      refine st_skip hf (wantN hf rfl rfl hb33) rfl (by decide) ?_ rfl
      clear hf; intro a hf
      refine st_skip hf (wantN hf rfl rfl hb33) rfl (by decide) ?_ rfl
      clear hf; intro a hf
      refine st_skipU hf (wantN hf rfl rfl hb33) rfl (by decide) ?_
      clear hf; intro a hf
      refine st_skip hf (wantU hf rfl rfl) rfl (by decide) ?_ rfl
      clear hf; intro a hf
      refine st_skip hf (wantU hf rfl rfl) rfl (by decide) ?_ rfl
      clear hf; intro a hf
      refine st_skip hf (wantU hf rfl rfl) rfl (by decide) ?_ rfl
      clear hf; intro a hf
      refine st_skip hf (wantN hf rfl rfl hb33) rfl (by decide) ?_ rfl
      clear hf; intro a hf
      refine st_skip hf (wantN hf rfl rfl hb33) rfl (by decide) ?_ rfl
      clear hf; intro a hf
      refine st_pick (v := .bool false) hf rfl rfl (fun hb' => ?_) (fun hb' => ?_) (by decide) ?_
      · exact absurd (hb33.symm.trans hb') (by decide)
      · rfl
      clear hf; intro a ha hf; clear ha
      refine st_nil hf (th_n ?_)
      exact ⟨hf.sub ⟨rfl, rfl, (by rw [hb33]; rfl), trivial⟩, hp⟩
    rintro a w ⟨hf, hp⟩
    refine st_nil hf ?_
    refine th_n ?_
    refine wp_if hf rfl (fun hb => ?_) (fun hb => ?_)
    · replace h := ifT h hb
      refine wp_skip ?_
      refine th_n ?_
      refine wp_block ?_
      refine wp_reg ?_
      refine st_fa (o' := 1) hf (by decide) (off := 1) (sz := 1) (by kernel_rfl) (by decide) rfl rfl (hp.ob (i := 0) rfl) rfl ?_
      clear hf; intro a ha hf; clear ha
      refine st_ldO (u := .int .i64 ax2c_1) hf (by decide) pl2 rfl rfl (hp.ob (i := 0) rfl) rfl ?_
      clear hf; intro a ha hf; clear ha
      refine st_ineg hf (by decide) rfl rfl ?_
      clear hf; intro a ha hf; clear ha
      refine st_fa (o' := 0) hf (by decide) (off := 0) (sz := 1) (by kernel_rfl) (by decide) rfl rfl (hp.ob (i := 0) rfl) rfl ?_
      clear hf; intro a ha hf; clear ha
      refine st_ldO (u := .int .i64 ax2c_0) hf (by decide) pl2 rfl rfl (hp.ob (i := 0) rfl) rfl ?_
      clear hf; intro a ha hf; clear ha
      refine st_buildA (vals := [(0, .int .i64 (IntKind.i64.wrap (0 - ax2c_1))), (1, .int .i64 ax2c_0)]) (cells := [.int .i64 (IntKind.i64.wrap (0 - ax2c_1)), .int .i64 ax2c_0]) hf (by decide) rfl (by simp [hf.ev (x := (Operand.tmp 44)) rfl, hf.ev (x := (Operand.tmp 46)) rfl]) (fun w => by kernel_rfl) ?_
      clear hf; intro a ha hf; clear ha
      refine st_stO (us := [.int .i64 (IntKind.i64.wrap (0 - ax2c_1)), .int .i64 ax2c_0]) hf hp (i := 0) rfl rfl rfl rfl rfl (by rfl) (by kernel_rfl) (Nat.le_of_ble_eq_true rfl) ?_
      clear hf; intro a w hf hp0; clear hp; have hp := hp0; clear hp0
      replace hp : Hp _ _ _ (Res.obj 56 v1 [.int .i64 (IntKind.i64.wrap (0 - ax2c_1)), .int .i64 ax2c_0] :: Res.obj 56 v5 [.int .i64 (0 : Int), .int .i64 (0 : Int)] :: ow) := hp
      refine st_nil hf ?_
      refine ib_n ?_
      obtain rfl := Option.some.inj h
      exact rnd_l ⟨hf.sub ⟨rfl, rfl, trivial⟩, hp⟩
    replace h := ifF h hb
    refine wp_exit ?_
    refine th_e ?_
    obtain rfl := Option.some.inj h
    exact rnd_r (by simp) ⟨rfl, hf.sub ⟨rfl, rfl, trivial⟩, hp⟩
  clear hl hf hp
  intro e a w hne hO
  obtain ⟨rfl, hf, hp⟩ := hO
  refine ib_same ?_
  refine th_n ?_
  refine wp_seq ?_
  refine wp_reg ?_
  refine st_ldOA (m := 2) (us := [.int .i64 q36.1, .int .i64 q36.2]) hf (by decide) (by kernel_rfl) rfl rfl (hp.ob (i := 0) rfl) rfl rfl ?_
  clear hf; intro a ha hf; clear ha
  refine st_stO (us := [.int .i64 q36.1, .int .i64 q36.2]) hf hp (i := 1) rfl rfl rfl rfl rfl (by rfl) (by kernel_rfl) (Nat.le_of_ble_eq_true rfl) ?_
  clear hf; intro a w hf hp0; clear hp; have hp := hp0; clear hp0
  replace hp : Hp _ _ _ (Res.obj 56 v1 [.int .i64 q36.1, .int .i64 q36.2] :: Res.obj 56 v5 [.int .i64 q36.1, .int .i64 q36.2] :: ow) := hp
  refine st_assign hf rfl rfl (by decide) ?_
  clear hf; intro a ha hf; clear ha
  refine st_nil hf ?_
  refine th_n ?_
  refine wp_ret ?_
  refine ng_r ?_
  obtain rfl := Option.some.inj h
  have hp : Hp _ _ _ (Res.obj 56 v5 [.int .i64 q36.1, .int .i64 q36.2] :: ow) := Hp.sel (pre := [Res.obj 56 v1 [.int .i64 q36.1, .int .i64 q36.2], Res.obj 56 v5 [.int .i64 q36.1, .int .i64 q36.2]]) (tail := ow) (rs' := [Res.obj 56 v5 [.int .i64 q36.1, .int .i64 q36.2]]) hp [1] (by decide) (by simp) rfl
  exact ⟨rfl, ⟨_, hf.sub ⟨rfl, rfl, trivial⟩, hp⟩⟩

noncomputable def f_plane_Gauss_half (g0_Re : Int) (g0_Im : Int) : Option ((Int × Int) × Int) := (some (((IntKind.i64.wrap (((IntKind.i64.wrap ((IntKind.i64.wrap (g0_Re - (iand .i64 (IntKind.i64.wrap (g0_Re + g0_Im)) (1 : Int)))) + g0_Im))).tdiv (2 : Int))), (IntKind.i64.wrap (((IntKind.i64.wrap (g0_Im - (IntKind.i64.wrap (g0_Re - (iand .i64 (IntKind.i64.wrap (g0_Re + g0_Im)) (1 : Int))))))).tdiv (2 : Int)))), (IntKind.u32.wrap (iand .i64 (IntKind.i64.wrap (g0_Re + g0_Im)) (1 : Int)))))
theorem f_plane_Gauss_half_c {S : Nat → Prop} {w0 w : World} {ow : List Res} (hp : Hp S w0 w ow) (g0_Re : Int) (g0_Im : Int) {r : ((Int × Int) × Int)} (h : f_plane_Gauss_half g0_Re g0_Im = some r) :
    Calls Try.prog 59 #[.agg #[.int .i64 g0_Re, .int .i64 g0_Im]] w (fun e w' => e = .returned (.tuple #[.agg #[.int .i64 r.1.1, .int .i64 r.1.2], .int .u32 r.2]) ∧ Hp S w0 w' (ow)) := by
  unfold f_plane_Gauss_half at h
  refine enter (n := 31) (args := [.agg #[.int .i64 g0_Re, .int .i64 g0_Im]]) Try.func59 rfl rfl (Nat.le_of_ble_eq_true rfl) fun a hf => ?_
  replace hf : Fr 31 a [(0, .agg #[.int .i64 g0_Re, .int .i64 g0_Im])] := hf
  refine wp_mono (Q := fun e a w => e = .ret ∧ ∃ (c0 : Value), Fr 31 a [(2, optr c0 0), (3, .int .u32 r.2)] ∧ Hp S w0 w (Res.obj 56 c0 [.int .i64 r.1.1, .int .i64 r.1.2] :: ow)) ?_ ?_
  rotate_left
  · rintro e a w ⟨rfl, c0, hf, hp⟩
    exact retG2 hf rfl ⟨_, _, rfl, hp.ob (i := 0) rfl, .inr ⟨by kernel_rfl, rfl⟩⟩ rfl ⟨rfl, hp.drop⟩
  refine wp_seq ?_
  refine wp_reg ?_
  refine st_boxO (cs := [.int .i64 g0_Re, .int .i64 g0_Im]) hf (by decide) hp rfl rfl rfl ?_
  clear hf; intro a w v1 hf hp0; clear hp; have hp := hp0; clear hp0
  replace hp : Hp _ _ _ (Res.obj 56 v1 [.int .i64 g0_Re, .int .i64 g0_Im] :: ow) := hp
  refine st_alloc (cs := [.int .i64 (0 : Int), .int .i64 (0 : Int)]) (zv := .agg #[.int .i64 (0 : Int), .int .i64 (0 : Int)]) hf (by decide) (by kernel_rfl) rfl hp rfl ?_
  clear hf; intro a w v3 hf hp0; clear hp; have hp := hp0; clear hp0
  replace hp : Hp _ _ _ (Res.obj 56 v3 [.int .i64 (0 : Int), .int .i64 (0 : Int)] :: Res.obj 56 v1 [.int .i64 g0_Re, .int .i64 g0_Im] :: ow) := hp
  refine st_assign hf rfl rfl (by decide) ?_
  clear hf; intro a ha hf; clear ha
  refine st_nil hf ?_
  refine th_n ?_
  refine wp_seq ?_
  refine wp_reg ?_
  refine st_fa (o' := 0) hf (by decide) (off := 0) (sz := 1) (by kernel_rfl) (by decide) rfl rfl (hp.ob (i := 1) rfl) rfl ?_
  clear hf; intro a ha hf; clear ha
  refine st_ldO (u := .int .i64 g0_Re) hf (by decide) pl2 rfl rfl (hp.ob (i := 1) rfl) rfl ?_
  clear hf; intro a ha hf; clear ha
  refine st_fa (o' := 1) hf (by decide) (off := 1) (sz := 1) (by kernel_rfl) (by decide) rfl rfl (hp.ob (i := 1) rfl) rfl ?_
  clear hf; intro a ha hf; clear ha
  refine st_ldO (u := .int .i64 g0_Im) hf (by decide) pl2 rfl rfl (hp.ob (i := 1) rfl) rfl ?_
  clear hf; intro a ha hf; clear ha
  refine st_iadd hf (by decide) rfl rfl rfl ?_
  clear hf; intro a ha hf; clear ha
  refine st_iand hf (by decide) rfl rfl rfl ?_
  clear hf; intro a ha hf; clear ha
  refine st_assign hf rfl rfl (by decide) ?_
  clear hf; intro a ha hf; clear ha
  refine st_nil hf ?_
  refine th_n ?_
  refine wp_seq ?_
  refine wp_reg ?_
  refine st_fa (o' := 0) hf (by decide) (off := 0) (sz := 1) (by kernel_rfl) (by decide) rfl rfl (hp.ob (i := 1) rfl) rfl ?_
  clear hf; intro a ha hf; clear ha
  refine st_ldO (u := .int .i64 g0_Re) hf (by decide) pl2 rfl rfl (hp.ob (i := 1) rfl) rfl ?_
  clear hf; intro a ha hf; clear ha
  refine st_move hf rfl rfl (by decide) ?_
  clear hf; intro a ha hf; clear ha
  refine st_isub hf (by decide) rfl rfl rfl ?_
  clear hf; intro a ha hf; clear ha
  refine st_fa (o' := 0) hf (by decide) (off := 0) (sz := 1) (by kernel_rfl) (by decide) rfl rfl (hp.ob (i := 1) rfl) rfl ?_
  clear hf; intro a ha hf; clear ha
  refine st_stO (us := [.int .i64 (IntKind.i64.wrap (g0_Re - (iand .i64 (IntKind.i64.wrap (g0_Re + g0_Im)) (1 : Int))))]) hf hp (i := 1) rfl rfl rfl rfl rfl (by rfl) (by kernel_rfl) (Nat.le_of_ble_eq_true rfl) ?_
  clear hf; intro a w hf hp0; clear hp; have hp := hp0; clear hp0
  replace hp : Hp _ _ _ (Res.obj 56 v3 [.int .i64 (0 : Int), .int .i64 (0 : Int)] :: Res.obj 56 v1 [.int .i64 (IntKind.i64.wrap (g0_Re - (iand .i64 (IntKind.i64.wrap (g0_Re + g0_Im)) (1 : Int)))), .int .i64 g0_Im] :: ow) := hp
  refine st_nil hf ?_
  refine th_n ?_
  refine wp_seq ?_
  refine wp_reg ?_
  refine st_fa (o' := 0) hf (by decide) (off := 0) (sz := 1) (by kernel_rfl) (by decide) rfl rfl (hp.ob (i := 1) rfl) rfl ?_
  clear hf; intro a ha hf; clear ha
  refine st_ldO (u := .int .i64 (IntKind.i64.wrap (g0_Re - (iand .i64 (IntKind.i64.wrap (g0_Re + g0_Im)) (1 : Int))))) hf (by decide) pl2 rfl rfl (hp.ob (i := 1) rfl) rfl ?_
  clear hf; intro a ha hf; clear ha
  refine st_fa (o' := 1) hf (by decide) (off := 1) (sz := 1) (by kernel_rfl) (by decide) rfl rfl (hp.ob (i := 1) rfl) rfl ?_
  clear hf; intro a ha hf; clear ha
  refine st_ldO (u := .int .i64 g0_Im) hf (by decide) pl2 rfl rfl (hp.ob (i := 1) rfl) rfl ?_
  clear hf; intro a ha hf; clear ha
  refine st_iadd hf (by decide) rfl rfl rfl ?_
  clear hf; intro a ha hf; clear ha
  refine st_iquo hf (by decide) rfl rfl rfl (by decide) ?_
  clear hf; intro a ha hf; clear ha
  refine st_fa (o' := 1) hf (by decide) (off := 1) (sz := 1) (by kernel_rfl) (by decide) rfl rfl (hp.ob (i := 1) rfl) rfl ?_
  clear hf; intro a ha hf; clear ha
  refine st_ldO (u := .int .i64 g0_Im) hf (by decide) pl2 rfl rfl (hp.ob (i := 1) rfl) rfl ?_
  clear hf; intro a ha hf; clear ha
  refine st_fa (o' := 0) hf (by decide) (off := 0) (sz := 1) (by kernel_rfl) (by decide) rfl rfl (hp.ob (i := 1) rfl) rfl ?_
  clear hf; intro a ha hf; clear ha
  refine st_ldO (u := .int .i64 (IntKind.i64.wrap (g0_Re - (iand .i64 (IntKind.i64.wrap (g0_Re + g0_Im)) (1 : Int))))) hf (by decide) pl2 rfl rfl (hp.ob (i := 1) rfl) rfl ?_
  clear hf; intro a ha hf; clear ha
  refine st_isub hf (by decide) rfl rfl rfl ?_
  clear hf; intro a ha hf; clear ha
  refine st_iquo hf (by decide) rfl rfl rfl (by decide) ?_
  clear hf; intro a ha hf; clear ha
  refine st_buildA (vals := [(0, .int .i64 (IntKind.i64.wrap (((IntKind.i64.wrap ((IntKind.i64.wrap (g0_Re - (iand .i64 (IntKind.i64.wrap (g0_Re + g0_Im)) (1 : Int)))) + g0_Im))).tdiv (2 : Int)))), (1, .int .i64 (IntKind.i64.wrap (((IntKind.i64.wrap (g0_Im - (IntKind.i64.wrap (g0_Re - (iand .i64 (IntKind.i64.wrap (g0_Re + g0_Im)) (1 : Int))))))).tdiv (2 : Int))))]) (cells := [.int .i64 (IntKind.i64.wrap (((IntKind.i64.wrap ((IntKind.i64.wrap (g0_Re - (iand .i64 (IntKind.i64.wrap (g0_Re + g0_Im)) (1 : Int)))) + g0_Im))).tdiv (2 : Int))), .int .i64 (IntKind.i64.wrap (((IntKind.i64.wrap (g0_Im - (IntKind.i64.wrap (g0_Re - (iand .i64 (IntKind.i64.wrap (g0_Re + g0_Im)) (1 : Int))))))).tdiv (2 : Int)))]) hf (by decide) rfl (by simp [hf.ev (x := (Operand.tmp 21)) rfl, hf.ev (x := (Operand.tmp 27)) rfl]) (fun w => by kernel_rfl) ?_
  clear hf; intro a ha hf; clear ha
  refine st_move hf rfl rfl (by decide) ?_
  clear hf; intro a ha hf; clear ha
  refine st_conv_ii hf (by decide) (by rw [Try.underlying2]; rfl) Try.underlying66 rfl rfl ?_
  clear hf; intro a ha hf; clear ha
  refine st_stO (us := [.int .i64 (IntKind.i64.wrap (((IntKind.i64.wrap ((IntKind.i64.wrap (g0_Re - (iand .i64 (IntKind.i64.wrap (g0_Re + g0_Im)) (1 : Int)))) + g0_Im))).tdiv (2 : Int))), .int .i64 (IntKind.i64.wrap (((IntKind.i64.wrap (g0_Im - (IntKind.i64.wrap (g0_Re - (iand .i64 (IntKind.i64.wrap (g0_Re + g0_Im)) (1 : Int))))))).tdiv (2 : Int)))]) hf hp (i := 0) rfl rfl rfl rfl rfl (by rfl) (by kernel_rfl) (Nat.le_of_ble_eq_true rfl) ?_
  clear hf; intro a w hf hp0; clear hp; have hp := hp0; clear hp0
  replace hp : Hp _ _ _ (Res.obj 56 v3 [.int .i64 (IntKind.i64.wrap (((IntKind.i64.wrap ((IntKind.i64.wrap (g0_Re - (iand .i64 (IntKind.i64.wrap (g0_Re + g0_Im)) (1 : Int)))) + g0_Im))).tdiv (2 : Int))), .int .i64 (IntKind.i64.wrap (((IntKind.i64.wrap (g0_Im - (IntKind.i64.wrap (g0_Re - (iand .i64 (IntKind.i64.wrap (g0_Re + g0_Im)) (1 : Int))))))).tdiv (2 : Int)))] :: Res.obj 56 v1 [.int .i64 (IntKind.i64.wrap (g0_Re - (iand .i64 (IntKind.i64.wrap (g0_Re + g0_Im)) (1 : Int)))), .int .i64 g0_Im] :: ow) := hp
  refine st_assign hf rfl rfl (by decide) ?_
  clear hf; intro a ha hf; clear ha
  refine st_nil hf ?_
  refine th_n ?_
  refine wp_ret ?_
  obtain rfl := Option.some.inj h
  have hp : Hp _ _ _ (Res.obj 56 v3 [.int .i64 (IntKind.i64.wrap (((IntKind.i64.wrap ((IntKind.i64.wrap (g0_Re - (iand .i64 (IntKind.i64.wrap (g0_Re + g0_Im)) (1 : Int)))) + g0_Im))).tdiv (2 : Int))), .int .i64 (IntKind.i64.wrap (((IntKind.i64.wrap (g0_Im - (IntKind.i64.wrap (g0_Re - (iand .i64 (IntKind.i64.wrap (g0_Re + g0_Im)) (1 : Int))))))).tdiv (2 : Int)))] :: ow) := Hp.sel (pre := [Res.obj 56 v3 [.int .i64 (IntKind.i64.wrap (((IntKind.i64.wrap ((IntKind.i64.wrap (g0_Re - (iand .i64 (IntKind.i64.wrap (g0_Re + g0_Im)) (1 : Int)))) + g0_Im))).tdiv (2 : Int))), .int .i64 (IntKind.i64.wrap (((IntKind.i64.wrap (g0_Im - (IntKind.i64.wrap (g0_Re - (iand .i64 (IntKind.i64.wrap (g0_Re + g0_Im)) (1 : Int))))))).tdiv (2 : Int)))], Res.obj 56 v1 [.int .i64 (IntKind.i64.wrap (g0_Re - (iand .i64 (IntKind.i64.wrap (g0_Re + g0_Im)) (1 : Int)))), .int .i64 g0_Im]]) (tail := ow) (rs' := [Res.obj 56 v3 [.int .i64 (IntKind.i64.wrap (((IntKind.i64.wrap ((IntKind.i64.wrap (g0_Re - (iand .i64 (IntKind.i64.wrap (g0_Re + g0_Im)) (1 : Int)))) + g0_Im))).tdiv (2 : Int))), .int .i64 (IntKind.i64.wrap (((IntKind.i64.wrap (g0_Im - (IntKind.i64.wrap (g0_Re - (iand .i64 (IntKind.i64.wrap (g0_Re + g0_Im)) (1 : Int))))))).tdiv (2 : Int)))]]) hp [0] (by decide) (by simp) rfl
  exact ⟨rfl, ⟨_, hf.sub ⟨rfl, rfl, trivial⟩, hp⟩⟩

noncomputable def f_plane_Gauss_Class.s1c (depth1 : Int) (g2c_0 : Int) (g2c_1 : Int) (class6 : Int) (t21 : Int) : Option ((Int × Int × Int × Int) ⊕ Int) := (if (decide (t21 < depth1)) = true then ((f_plane_Gauss_half g2c_0 g2c_1).bind fun q10 => (if 0 ≤ t21 then (some (Sum.inl (q10.1.1, q10.1.2, (ior .u32 class6 (ishl .u32 q10.2 t21)), (IntKind.i64.wrap (t21 + (1 : Int)))))) else none)) else (some (Sum.inr class6)))
noncomputable def f_plane_Gauss_Class.s1 (depth1 : Int) (s : (Int × Int × Int × Int)) : Option ((Int × Int × Int × Int) ⊕ Int) := f_plane_Gauss_Class.s1c depth1 s.1 s.2.1 s.2.2.1 s.2.2.2
noncomputable def f_plane_Gauss_Class (g0_Re : Int) (g0_Im : Int) (depth1 : Int) : Option (Int × Int) := ((f_plane_Gauss_may g0_Re g0_Im).bind fun q3 => (if (((!q3) || (decide (depth1 < (0 : Int)))) || (decide ((30 : Int) < depth1))) = true then (some ((0 : Int), (1 : Int))) else ((loop (f_plane_Gauss_Class.s1 depth1) (g0_Re, g0_Im, (0 : Int), (0 : Int))).bind (fun q13 => (some (q13, (0 : Int)))))))
theorem f_plane_Gauss_Class_c {S : Nat → Prop} {w0 w : World} {ow : List Res} (hp : Hp S w0 w ow) (g0_Re : Int) (g0_Im : Int) (depth1 : Int) {r : (Int × Int)} (h : f_plane_Gauss_Class g0_Re g0_Im depth1 = some r) :
    Calls Try.prog 36 #[.agg #[.int .i64 g0_Re, .int .i64 g0_Im], .int .i64 depth1] w (fun e w' => e = .returned (.tuple #[.int .u32 r.1, .int .i64 r.2]) ∧ Hp S w0 w' (ow)) := by
  unfold f_plane_Gauss_Class at h
  refine enter (n := 36) (args := [.agg #[.int .i64 g0_Re, .int .i64 g0_Im], .int .i64 depth1]) Try.func36 rfl rfl (Nat.le_of_ble_eq_true rfl) fun a hf => ?_
  replace hf : Fr 36 a [(0, .agg #[.int .i64 g0_Re, .int .i64 g0_Im]), (1, .int .i64 depth1)] := hf
  refine wp_mono (Q := fun e a w => e = .ret ∧ Fr 36 a [(4, .int .u32 r.1), (5, .int .i64 r.2)] ∧ Hp S w0 w (ow)) ?_ ?_
  rotate_left
  · rintro e a w ⟨rfl, hf, hp⟩
    exact ret2 hf rfl rfl rfl ⟨rfl, hp⟩
  refine wp_seq ?_
  refine wp_reg ?_
  refine st_boxO (cs := [.int .i64 g0_Re, .int .i64 g0_Im]) hf (by decide) hp rfl rfl rfl ?_
  clear hf; intro a w v1 hf hp0; clear hp; have hp := hp0; clear hp0
  replace hp : Hp _ _ _ (Res.obj 56 v1 [.int .i64 g0_Re, .int .i64 g0_Im] :: ow) := hp
  refine st_assign hf rfl rfl (by decide) ?_
  clear hf; intro a ha hf; clear ha
  refine st_assign hf rfl rfl (by decide) ?_
  clear hf; intro a ha hf; clear ha
  refine st_nil hf ?_
  refine th_n ?_
  refine wp_seq ?_
  refine wp_seq ?_
  refine wp_reg ?_
  refine st_ldOA (m := 2) (us := [.int .i64 g0_Re, .int .i64 g0_Im]) hf (by decide) (by kernel_rfl) rfl rfl (hp.ob (i := 0) rfl) rfl rfl ?_
  clear hf; intro a ha hf; clear ha
  obtain ⟨q3, hcall4, h⟩ := bnd h
  refine st_call hf (by decide) Try.func55 rfl rfl rfl rfl rfl (f_plane_Gauss_may_c hp _ _ hcall4) ?_
  rintro _ w ⟨rfl, hp0⟩
  clear hp; have hp := hp0; clear hp0
  replace hp : Hp _ _ _ (Res.obj 56 v1 [.int .i64 g0_Re, .int .i64 g0_Im] :: ow) := hp
  refine ⟨_, rfl, ?_⟩
  clear hf; intro a hf
  refine st_not hf (by decide) rfl rfl ?_
  clear hf; intro a ha hf; clear ha
  refine st_move hf rfl rfl (by decide) ?_
  clear hf; intro a ha hf; clear ha
  refine wpList_cut 3 (fun a w => Fr 36 a [(1, .int .i64 depth1), (2, optr v1 0), (15, .bool ((!q3) || (decide (depth1 < (0 : Int)))))] ∧ Hp S w0 w (Res.obj 56 v1 [.int .i64 g0_Re, .int .i64 g0_Im] :: ow)) ?_ ?_
  · rcases Bool.eq_false_or_eq_true (!q3) with hb6 | hb6
    · skip
      refine st_skip hf (wantN hf rfl rfl hb6) rfl (by decide) ?_ rfl
      clear hf; intro a hf
      refine st_skip hf (wantN hf rfl rfl hb6) rfl (by decide) ?_ rfl
      clear hf; intro a hf
      refine st_pick (v := .bool true) hf rfl rfl (fun hb' => ?_) (fun hb' => ?_) (by decide) ?_
      · rfl
      · exact absurd (hb6.symm.trans hb') (by decide)
      clear hf; intro a ha hf; clear ha
      refine st_nil hf (th_n ?_)
      exact ⟨hf.sub ⟨rfl, rfl, (by rw [hb6]; rfl), trivial⟩, hp⟩
    refine st_move hf (wantY hf rfl rfl hb6) rfl (by decide) ?_
    clear hf; intro a ha hf; clear ha
    refine st_ilss hf (by decide) (wantY hf rfl rfl hb6) rfl rfl ?_
    clear hf; intro a ha hf; clear ha
    refine st_pick (v := .bool (decide (depth1 < (0 : Int)))) hf rfl rfl (fun hb' => ?_) (fun hb' => ?_) (by decide) ?_
    · exact absurd (hb6.symm.trans hb') (by decide)
    · rfl
    clear hf; intro a ha hf; clear ha
    refine st_nil hf (th_n ?_)
    exact ⟨hf.sub ⟨rfl, rfl, (by rw [hb6]; rfl), trivial⟩, hp⟩
  rintro a w ⟨hf, hp⟩
  refine st_move hf rfl rfl (by decide) ?_
  clear hf; intro a ha hf; clear ha
  refine wpList_cut 3 (fun a w => Fr 36 a [(1, .int .i64 depth1), (2, optr v1 0), (19, .bool (((!q3) || (decide (depth1 < (0 : Int)))) || (decide ((30 : Int) < depth1))))] ∧ Hp S w0 w (Res.obj 56 v1 [.int .i64 g0_Re, .int .i64 g0_Im] :: ow)) ?_ ?_
  · rcases Bool.eq_false_or_eq_true ((!q3) || (decide (depth1 < (0 : Int)))) with hb8 | hb8
    · skip
      refine st_skip hf (wantN hf rfl rfl hb8) rfl (by decide) ?_ rfl
      clear hf; intro a hf
      refine st_skip hf (wantN hf rfl rfl hb8) rfl (by decide) ?_ rfl
      clear hf; intro a hf
      refine st_pick (v := .bool true) hf rfl rfl (fun hb' => ?_) (fun hb' => ?_) (by decide) ?_
      · rfl
      · exact absurd (hb8.symm.trans hb') (by decide)
      clear hf; intro a ha hf; clear ha
      refine st_nil hf (th_n ?_)
      exact ⟨hf.sub ⟨rfl, rfl, (by rw [hb8]; rfl), trivial⟩, hp⟩
    refine st_move hf (wantY hf rfl rfl hb8) rfl (by decide) ?_
    clear hf; intro a ha hf; clear ha
    refine st_igtr hf (by decide) (wantY hf rfl rfl hb8) rfl rfl ?_
    clear hf; intro a ha hf; clear ha
    refine st_pick (v := .bool (decide ((30 : Int) < depth1))) hf rfl rfl (fun hb' => ?_) (fun hb' => ?_) (by decide) ?_
    · exact absurd (hb8.symm.trans hb') (by decide)
    · rfl
    clear hf; intro a ha hf; clear ha
    refine st_nil hf (th_n ?_)
    exact ⟨hf.sub ⟨rfl, rfl, (by rw [hb8]; rfl), trivial⟩, hp⟩
  rintro a w ⟨hf, hp⟩
  refine st_nil hf ?_
  refine th_n ?_
  refine wp_if hf rfl (fun hb => ?_) (fun hb => ?_)
  · replace h := ifT h hb
    refine wp_seq ?_
    refine wp_reg ?_
    refine st_assign hf rfl rfl (by decide) ?_
    clear hf; intro a ha hf; clear ha
    refine st_assign hf rfl rfl (by decide) ?_
    clear hf; intro a ha hf; clear ha
    refine st_nil hf ?_
    refine th_n ?_
    refine wp_ret ?_
    refine th_r ?_
    obtain rfl := Option.some.inj h
    have hp : Hp _ _ _ (ow) := Hp.sel (pre := [Res.obj 56 v1 [.int .i64 g0_Re, .int .i64 g0_Im]]) (tail := ow) (rs' := []) hp [] (by decide) (by simp) rfl
    exact ⟨rfl, ⟨hf.sub ⟨rfl, rfl, trivial⟩, hp⟩⟩
  replace h := ifF h hb
  refine wp_skip ?_
  refine th_n ?_
  refine wp_seq ?_
  refine wp_reg ?_
  refine st_assign hf rfl rfl (by decide) ?_
  clear hf; intro a ha hf; clear ha
  refine st_nil hf ?_
  refine th_n ?_
  refine wp_seq ?_
  refine wp_seq ?_
  refine wp_reg ?_
  refine st_move hf rfl rfl (by decide) ?_
  clear hf; intro a ha hf; clear ha
  refine st_move hf rfl rfl (by decide) ?_
  clear hf; intro a ha hf; clear ha
  refine st_nil hf ?_
  refine th_n ?_
  refine wp_block ?_
  obtain ⟨q13, hl, h⟩ := bnd h
  refine wp_loop_pure (f := (f_plane_Gauss_Class.s1 depth1)) (s := (g0_Re, g0_Im, (0 : Int), (0 : Int))) (fun s a w => Fr 36 a [(2, optr v1 0), (6, .int .u32 s.2.2.1), (20, .int .i64 depth1), (21, .int .i64 s.2.2.2)] ∧ Hp S w0 w (Res.obj 56 v1 [.int .i64 s.1, .int .i64 s.2.1] :: ow)) (fun q e a w => e = .exit 0 ∧ Fr 36 a [(6, .int .u32 q)] ∧ Hp S w0 w (ow)) ?_ hl ⟨hf.sub ⟨rfl, rfl, rfl, rfl, trivial⟩, hp⟩ ?_
  · clear hl hf hp
    intro s x a w h hI
    obtain ⟨g2c_0, g2c_1, class6, t21⟩ := s
    obtain ⟨hf, hp⟩ : Fr 36 a [(2, optr v1 0), (6, .int .u32 class6), (20, .int .i64 depth1), (21, .int .i64 t21)] ∧ Hp S w0 w (Res.obj 56 v1 [.int .i64 g2c_0, .int .i64 g2c_1] :: ow) := hI
    replace h : f_plane_Gauss_Class.s1c depth1 g2c_0 g2c_1 class6 t21 = some x := h
    unfold f_plane_Gauss_Class.s1c at h
    refine wp_seq ?_
    refine wp_reg ?_
    refine st_ilss hf (by decide) rfl rfl rfl ?_
    clear hf; intro a ha hf; clear ha
    refine st_nil hf ?_
    refine th_n ?_
    refine wp_seq ?_
    refine wp_if hf rfl (fun hb => ?_) (fun hb => ?_)
    · replace h := ifT h hb
      refine wp_skip ?_
      refine th_n ?_
      refine wp_seq ?_
      refine wp_block ?_
      refine wp_seq ?_
      refine wp_reg ?_
      refine st_move hf rfl rfl (by decide) ?_
      clear hf; intro a ha hf; clear ha
      refine st_assign hf rfl rfl (by decide) ?_
      clear hf; intro a ha hf; clear ha
      refine st_nil hf ?_
      refine th_n ?_
      refine wp_seq ?_
      refine wp_reg ?_
      refine st_assign hf rfl rfl (by decide) ?_
      clear hf; intro a ha hf; clear ha
      refine st_nil hf ?_
      refine th_n ?_
      refine wp_seq ?_
      refine wp_reg ?_
      refine st_ldOA (m := 2) (us := [.int .i64 g2c_0, .int .i64 g2c_1]) hf (by decide) (by kernel_rfl) rfl rfl (hp.ob (i := 0) rfl) rfl rfl ?_
      clear hf; intro a ha hf; clear ha
      obtain ⟨q10, hcall11, h⟩ := bnd h
      refine st_call hf (by decide) Try.func59 rfl rfl rfl rfl rfl (f_plane_Gauss_half_c hp _ _ hcall11) ?_
      rintro _ w ⟨rfl, hp0⟩
      clear hp; have hp := hp0; clear hp0
      replace hp : Hp _ _ _ (Res.obj 56 v1 [.int .i64 g2c_0, .int .i64 g2c_1] :: ow) := hp
      refine ⟨_, rfl, ?_⟩
      clear hf; intro a hf
      refine st_move hf rfl rfl (by decide) ?_
      clear hf; intro a ha hf; clear ha
      refine st_extract hf (by decide) rfl rfl rfl ?_
      clear hf; intro a ha hf; clear ha
      refine st_extract hf (by decide) rfl rfl rfl ?_
      clear hf; intro a ha hf; clear ha
      refine st_stO (us := [.int .i64 q10.1.1, .int .i64 q10.1.2]) hf hp (i := 0) rfl rfl rfl rfl rfl (by rfl) (by kernel_rfl) (Nat.le_of_ble_eq_true rfl) ?_
      clear hf; intro a w hf hp0; clear hp; have hp := hp0; clear hp0
      replace hp : Hp _ _ _ (Res.obj 56 v1 [.int .i64 q10.1.1, .int .i64 q10.1.2] :: ow) := hp
      refine st_assign hf rfl rfl (by decide) ?_
      clear hf; intro a ha hf; clear ha
      refine st_nil hf ?_
      refine th_n ?_
      refine wp_reg ?_
      refine st_move hf rfl rfl (by decide) ?_
      clear hf; intro a ha hf; clear ha
      refine st_move hf rfl rfl (by decide) ?_
      clear hf; intro a ha hf; clear ha
      refine st_move hf rfl rfl (by decide) ?_
      clear hf; intro a ha hf; clear ha
      obtain ⟨hc12, h⟩ := chk h
      refine st_ishl hf (by decide) rfl rfl rfl hc12 ?_
      clear hf; intro a ha hf; clear ha
      refine st_ior hf (by decide) rfl rfl rfl ?_
      clear hf; intro a ha hf; clear ha
      refine st_assign hf rfl rfl (by decide) ?_
      clear hf; intro a ha hf; clear ha
      refine st_nil hf ?_
      refine ib_n ?_
      refine th_n ?_
      refine wp_reg ?_
      refine st_iadd hf (by decide) rfl rfl rfl ?_
      clear hf; intro a ha hf; clear ha
      refine st_move hf rfl rfl (by decide) ?_
      clear hf; intro a ha hf; clear ha
      refine st_nil hf ?_
      obtain rfl := Option.some.inj h
      exact rnd_l ⟨hf.sub ⟨rfl, rfl, rfl, rfl, trivial⟩, hp⟩
    replace h := ifF h hb
    refine wp_exit ?_
    refine th_e ?_
    obtain rfl := Option.some.inj h
    have hp : Hp _ _ _ (ow) := Hp.sel (pre := [Res.obj 56 v1 [.int .i64 g2c_0, .int .i64 g2c_1]]) (tail := ow) (rs' := []) hp [] (by decide) (by simp) rfl
    exact rnd_r (by simp) ⟨rfl, hf.sub ⟨rfl, trivial⟩, hp⟩
  clear hl hf hp
  intro e a w hne hO
  obtain ⟨rfl, hf, hp⟩ := hO
  refine ib_same ?_
  refine th_n ?_
  refine wp_seq ?_
  refine wp_reg ?_
  refine st_move hf rfl rfl (by decide) ?_
  clear hf; intro a ha hf; clear ha
  refine st_assign hf rfl rfl (by decide) ?_
  clear hf; intro a ha hf; clear ha
  refine st_assign hf rfl rfl (by decide) ?_
  clear hf; intro a ha hf; clear ha
  refine st_nil hf ?_
  refine th_n ?_
  refine wp_ret ?_
  obtain rfl := Option.some.inj h
  exact ⟨rfl, ⟨hf.sub ⟨rfl, rfl, trivial⟩, hp⟩⟩

noncomputable def f_plane_First.s1c (class0 : Int) (g6c_0 : Int) (g6c_1 : Int) (i7 : Int) : Option ((Int × Int × Int) ⊕ (Int × Int)) := (if (decide ((0 : Int) ≤ i7)) = true then ((f_plane_Gauss_times g6c_0 g6c_1 (1 : Int) (1 : Int)).bind fun q13 => (if 0 ≤ i7 then (some (Sum.inl ((IntKind.i64.wrap (q13.1 + (IntKind.i64.wrap (iand .u32 (ishr .u32 class0 i7) (1 : Int))))), q13.2, (IntKind.i64.wrap (i7 - (1 : Int)))))) else none)) else (some (Sum.inr (g6c_0, g6c_1))))
noncomputable def f_plane_First.s1 (class0 : Int) (s : (Int × Int × Int)) : Option ((Int × Int × Int) ⊕ (Int × Int)) := f_plane_First.s1c class0 s.1 s.2.1 s.2.2
noncomputable def f_plane_First (class0 : Int) (depth1 : Int) : Option ((Int × Int) × Int) := ((if ((decide (depth1 < (0 : Int))) || (decide ((30 : Int) < depth1))) = true then (some true) else (if 0 ≤ depth1 then (some (decide ((0 : Int) < (ishr .u32 class0 depth1)))) else none)).bind fun z7 => (if z7 = true then (some (((0 : Int), (0 : Int)), (1 : Int))) else ((loop (f_plane_First.s1 class0) ((0 : Int), (0 : Int), (IntKind.i64.wrap (depth1 - (1 : Int))))).bind (fun q16 => (some ((q16.1, q16.2), (0 : Int)))))))
theorem f_plane_First_c {S : Nat → Prop} {w0 w : World} {ow : List Res} (hp : Hp S w0 w ow) (class0 : Int) (depth1 : Int) {r : ((Int × Int) × Int)} (h : f_plane_First class0 depth1 = some r) :
    Calls Try.prog 37 #[.int .u32 class0, .int .i64 depth1] w (fun e w' => e = .returned (.tuple #[.agg #[.int .i64 r.1.1, .int .i64 r.1.2], .int .i64 r.2]) ∧ Hp S w0 w' (ow)) := by
  unfold f_plane_First at h
  refine enter (n := 40) (args := [.int .u32 class0, .int .i64 depth1]) Try.func37 rfl rfl (Nat.le_of_ble_eq_true rfl) fun a hf => ?_
  replace hf : Fr 40 a [(0, .int .u32 class0), (1, .int .i64 depth1)] := hf
  refine wp_mono (Q := fun e a w => e = .ret ∧ ∃ (c0 : Value), Fr 40 a [(4, optr c0 0), (5, .int .i64 r.2)] ∧ Hp S w0 w (Res.obj 56 c0 [.int .i64 r.1.1, .int .i64 r.1.2] :: ow)) ?_ ?_
  rotate_left
  · rintro e a w ⟨rfl, c0, hf, hp⟩
    exact retG2 hf rfl ⟨_, _, rfl, hp.ob (i := 0) rfl, .inr ⟨by kernel_rfl, rfl⟩⟩ rfl ⟨rfl, hp.drop⟩
  refine wp_seq ?_
  refine wp_reg ?_
  refine st_alloc (cs := [.int .i64 (0 : Int), .int .i64 (0 : Int)]) (zv := .agg #[.int .i64 (0 : Int), .int .i64 (0 : Int)]) hf (by decide) (by kernel_rfl) rfl hp rfl ?_
  clear hf; intro a w v1 hf hp0; clear hp; have hp := hp0; clear hp0
  replace hp : Hp _ _ _ (Res.obj 56 v1 [.int .i64 (0 : Int), .int .i64 (0 : Int)] :: ow) := hp
  refine st_assign hf rfl rfl (by decide) ?_
  clear hf; intro a ha hf; clear ha
  refine st_nil hf ?_
  refine th_n ?_
  refine wp_seq ?_
  refine wp_seq ?_
  refine wp_reg ?_
  refine st_move hf rfl rfl (by decide) ?_
  clear hf; intro a ha hf; clear ha
  refine st_ilss hf (by decide) rfl rfl rfl ?_
  clear hf; intro a ha hf; clear ha
  refine st_move hf rfl rfl (by decide) ?_
  clear hf; intro a ha hf; clear ha
  refine wpList_cut 3 (fun a w => Fr 40 a [(0, .int .u32 class0), (1, .int .i64 depth1), (4, optr v1 0), (13, .bool ((decide (depth1 < (0 : Int))) || (decide ((30 : Int) < depth1))))] ∧ Hp S w0 w (Res.obj 56 v1 [.int .i64 (0 : Int), .int .i64 (0 : Int)] :: ow)) ?_ ?_
  · rcases Bool.eq_false_or_eq_true (decide (depth1 < (0 : Int))) with hb4 | hb4
    · skip
      refine st_skip hf (wantN hf rfl rfl hb4) rfl (by decide) ?_ rfl
      clear hf; intro a hf
      refine st_skip hf (wantN hf rfl rfl hb4) rfl (by decide) ?_ rfl
      clear hf; intro a hf
      refine st_pick (v := .bool true) hf rfl rfl (fun hb' => ?_) (fun hb' => ?_) (by decide) ?_
      · rfl
      · exact absurd (hb4.symm.trans hb') (by decide)
      clear hf; intro a ha hf; clear ha
      refine st_nil hf (th_n ?_)
      exact ⟨hf.sub ⟨rfl, rfl, rfl, (by rw [hb4]; rfl), trivial⟩, hp⟩
    refine st_move hf (wantY hf rfl rfl hb4) rfl (by decide) ?_
    clear hf; intro a ha hf; clear ha
    refine st_igtr hf (by decide) (wantY hf rfl rfl hb4) rfl rfl ?_
    clear hf; intro a ha hf; clear ha
    refine st_pick (v := .bool (decide ((30 : Int) < depth1))) hf rfl rfl (fun hb' => ?_) (fun hb' => ?_) (by decide) ?_
    · exact absurd (hb4.symm.trans hb') (by decide)
    · rfl
    clear hf; intro a ha hf; clear ha
    refine st_nil hf (th_n ?_)
    exact ⟨hf.sub ⟨rfl, rfl, rfl, (by rw [hb4]; rfl), trivial⟩, hp⟩
  rintro a w ⟨hf, hp⟩
  refine st_move hf rfl rfl (by decide) ?_
  clear hf; intro a ha hf; clear ha
  obtain ⟨z7, hz5, h⟩ := bnd h
  refine wpList_cut 5 (fun a w => Fr 40 a [(0, .int .u32 class0), (1, .int .i64 depth1), (4, optr v1 0), (19, .bool z7)] ∧ Hp S w0 w (Res.obj 56 v1 [.int .i64 (0 : Int), .int .i64 (0 : Int)] :: ow)) ?_ ?_
  · rcases Bool.eq_false_or_eq_true ((decide (depth1 < (0 : Int))) || (decide ((30 : Int) < depth1))) with hb6 | hb6
    · skip
      replace hz5 := ifT hz5 hb6
      refine st_skip hf (wantN hf rfl rfl hb6) rfl (by decide) ?_ rfl
      clear hf; intro a hf
      refine st_skip hf (wantN hf rfl rfl hb6) rfl (by decide) ?_ rfl
      clear hf; intro a hf
      refine st_skip hf (wantN hf rfl rfl hb6) rfl (by decide) ?_ rfl
      clear hf; intro a hf
      refine st_skip hf (wantN hf rfl rfl hb6) rfl (by decide) ?_ rfl
      clear hf; intro a hf
      obtain rfl := Option.some.inj hz5
      refine st_pick (v := .bool true) hf rfl rfl (fun hb' => ?_) (fun hb' => ?_) (by decide) ?_
      · rfl
      · exact absurd (hb6.symm.trans hb') (by decide)
      clear hf; intro a ha hf; clear ha
      refine st_nil hf (th_n ?_)
      exact ⟨hf.sub ⟨rfl, rfl, rfl, rfl, trivial⟩, hp⟩
    replace hz5 := ifF hz5 hb6
    refine st_move hf (wantY hf rfl rfl hb6) rfl (by decide) ?_
    clear hf; intro a ha hf; clear ha
    refine st_move hf (wantY hf rfl rfl hb6) rfl (by decide) ?_
    clear hf; intro a ha hf; clear ha
    obtain ⟨hc8, hz5⟩ := chk hz5
    refine st_ishr hf (by decide) (wantY hf rfl rfl hb6) rfl rfl hc8 ?_
    clear hf; intro a ha hf; clear ha
    refine st_igtr hf (by decide) (wantY hf rfl rfl hb6) rfl rfl ?_
    clear hf; intro a ha hf; clear ha
    obtain rfl := Option.some.inj hz5
    refine st_pick (v := .bool (decide ((0 : Int) < (ishr .u32 class0 depth1)))) hf rfl rfl (fun hb' => ?_) (fun hb' => ?_) (by decide) ?_
    · exact absurd (hb6.symm.trans hb') (by decide)
    · rfl
    clear hf; intro a ha hf; clear ha
    refine st_nil hf (th_n ?_)
    exact ⟨hf.sub ⟨rfl, rfl, rfl, rfl, trivial⟩, hp⟩
  rintro a w ⟨hf, hp⟩
  refine st_nil hf ?_
  refine th_n ?_
  refine wp_if hf rfl (fun hb => ?_) (fun hb => ?_)
  · replace h := ifT h hb
    refine wp_seq ?_
    refine wp_reg ?_
    refine st_buildA (vals := []) (cells := [.int .i64 (0 : Int), .int .i64 (0 : Int)]) hf (by decide) rfl (by simp []) (fun w => by kernel_rfl) ?_
    clear hf; intro a ha hf; clear ha
    refine st_stO (us := [.int .i64 (0 : Int), .int .i64 (0 : Int)]) hf hp (i := 0) rfl rfl rfl rfl rfl (by rfl) (by kernel_rfl) (Nat.le_of_ble_eq_true rfl) ?_
    clear hf; intro a w hf hp0; clear hp; have hp := hp0; clear hp0
    replace hp : Hp _ _ _ (Res.obj 56 v1 [.int .i64 (0 : Int), .int .i64 (0 : Int)] :: ow) := hp
    refine st_assign hf rfl rfl (by decide) ?_
    clear hf; intro a ha hf; clear ha
    refine st_nil hf ?_
    refine th_n ?_
    refine wp_ret ?_
    refine th_r ?_
    obtain rfl := Option.some.inj h
    exact ⟨rfl, ⟨_, hf.sub ⟨rfl, rfl, trivial⟩, hp⟩⟩
  replace h := ifF h hb
  refine wp_skip ?_
  refine th_n ?_
  refine wp_seq ?_
  refine wp_reg ?_
  refine st_alloc (cs := [.int .i64 (0 : Int), .int .i64 (0 : Int)]) (zv := .agg #[.int .i64 (0 : Int), .int .i64 (0 : Int)]) hf (by decide) (by kernel_rfl) rfl hp rfl ?_
  clear hf; intro a w v9 hf hp0; clear hp; have hp := hp0; clear hp0
  replace hp : Hp _ _ _ (Res.obj 56 v9 [.int .i64 (0 : Int), .int .i64 (0 : Int)] :: Res.obj 56 v1 [.int .i64 (0 : Int), .int .i64 (0 : Int)] :: ow) := hp
  refine st_nil hf ?_
  refine th_n ?_
  refine wp_seq ?_
  refine wp_seq ?_
  refine wp_reg ?_
  refine st_move hf rfl rfl (by decide) ?_
  clear hf; intro a ha hf; clear ha
  refine st_isub hf (by decide) rfl rfl rfl ?_
  clear hf; intro a ha hf; clear ha
  refine st_assign hf rfl rfl (by decide) ?_
  clear hf; intro a ha hf; clear ha
  refine st_nil hf ?_
  refine th_n ?_
  refine wp_block ?_
  obtain ⟨q16, hl, h⟩ := bnd h
  refine wp_loop_pure (f := (f_plane_First.s1 class0)) (s := ((0 : Int), (0 : Int), (IntKind.i64.wrap (depth1 - (1 : Int))))) (fun s a w => Fr 40 a [(0, .int .u32 class0), (4, optr v1 0), (6, optr v9 0), (7, .int .i64 s.2.2)] ∧ Hp S w0 w (Res.obj 56 v9 [.int .i64 s.1, .int .i64 s.2.1] :: Res.obj 56 v1 [.int .i64 (0 : Int), .int .i64 (0 : Int)] :: ow)) (fun q e a w => e = .exit 0 ∧ Fr 40 a [(4, optr v1 0), (6, optr v9 0)] ∧ Hp S w0 w (Res.obj 56 v9 [.int .i64 q.1, .int .i64 q.2] :: Res.obj 56 v1 [.int .i64 (0 : Int), .int .i64 (0 : Int)] :: ow)) ?_ hl ⟨hf.sub ⟨rfl, rfl, rfl, rfl, trivial⟩, hp⟩ ?_
  · clear hl hf hp
    intro s x a w h hI
    obtain ⟨g6c_0, g6c_1, i7⟩ := s
    obtain ⟨hf, hp⟩ : Fr 40 a [(0, .int .u32 class0), (4, optr v1 0), (6, optr v9 0), (7, .int .i64 i7)] ∧ Hp S w0 w (Res.obj 56 v9 [.int .i64 g6c_0, .int .i64 g6c_1] :: Res.obj 56 v1 [.int .i64 (0 : Int), .int .i64 (0 : Int)] :: ow) := hI
    replace h : f_plane_First.s1c class0 g6c_0 g6c_1 i7 = some x := h
    unfold f_plane_First.s1c at h
    refine wp_seq ?_
    refine wp_seq ?_
    refine wp_reg ?_
    refine st_move hf rfl rfl (by decide) ?_
    clear hf; intro a ha hf; clear ha
    refine st_igeq hf (by decide) rfl rfl rfl ?_
    clear hf; intro a ha hf; clear ha
    refine st_nil hf ?_
    refine th_n ?_
    refine wp_if hf rfl (fun hb => ?_) (fun hb => ?_)
    · replace h := ifT h hb
      refine wp_skip ?_
      refine th_n ?_
      refine wp_seq ?_
      refine wp_block ?_
      refine wp_seq ?_
      refine wp_reg ?_
      refine st_ldOA (m := 2) (us := [.int .i64 g6c_0, .int .i64 g6c_1]) hf (by decide) (by kernel_rfl) rfl rfl (hp.ob (i := 0) rfl) rfl rfl ?_
      clear hf; intro a ha hf; clear ha
      refine st_buildA (vals := [(0, .int .i64 (1 : Int)), (1, .int .i64 (1 : Int))]) (cells := [.int .i64 (1 : Int), .int .i64 (1 : Int)]) hf (by decide) rfl (by simp [hf.ev (x := (Operand.const (.int .i64 (1 : Int)))) rfl, hf.ev (x := (Operand.const (.int .i64 (1 : Int)))) rfl]) (fun w => by kernel_rfl) ?_
      clear hf; intro a ha hf; clear ha
      obtain ⟨q13, hcall14, h⟩ := bnd h
      refine st_call hf (by decide) Try.func56 rfl rfl rfl rfl rfl (f_plane_Gauss_times_c hp _ _ _ _ hcall14) ?_
      rintro _ w ⟨rfl, hp0⟩
      clear hp; have hp := hp0; clear hp0
      replace hp : Hp _ _ _ (Res.obj 56 v9 [.int .i64 g6c_0, .int .i64 g6c_1] :: Res.obj 56 v1 [.int .i64 (0 : Int), .int .i64 (0 : Int)] :: ow) := hp
      refine ⟨_, rfl, ?_⟩
      clear hf; intro a hf
      refine st_stO (us := [.int .i64 q13.1, .int .i64 q13.2]) hf hp (i := 0) rfl rfl rfl rfl rfl (by rfl) (by kernel_rfl) (Nat.le_of_ble_eq_true rfl) ?_
      clear hf; intro a w hf hp0; clear hp; have hp := hp0; clear hp0
      replace hp : Hp _ _ _ (Res.obj 56 v9 [.int .i64 q13.1, .int .i64 q13.2] :: Res.obj 56 v1 [.int .i64 (0 : Int), .int .i64 (0 : Int)] :: ow) := hp
      refine st_nil hf ?_
      refine th_n ?_
      obtain ⟨hc15, h⟩ := chk h
      refine wp_cutN (fun a w => Fr 40 a [(0, .int .u32 class0), (4, optr v1 0), (6, optr v9 0), (7, .int .i64 i7)] ∧ Hp S w0 w (Res.obj 56 v9 [.int .i64 (IntKind.i64.wrap (q13.1 + (IntKind.i64.wrap (iand .u32 (ishr .u32 class0 i7) (1 : Int))))), .int .i64 q13.2] :: Res.obj 56 v1 [.int .i64 (0 : Int), .int .i64 (0 : Int)] :: ow)) ?_ ?_
      · have hp := hp.same (Same.drew w)
        refine dr_begin' (fun a w => Fr 40 a [(0, .int .u32 class0), (4, optr v1 0), (6, optr v9 0), (7, .int .i64 i7)] ∧ Hp S w0 w (Res.obj 56 v9 [.int .i64 (IntKind.i64.wrap (q13.1 + (IntKind.i64.wrap (iand .u32 (ishr .u32 class0 i7) (1 : Int))))), .int .i64 q13.2] :: Res.obj 56 v1 [.int .i64 (0 : Int), .int .i64 (0 : Int)] :: ow)) (fun w' => ∃ l, Hp S w0 w' l) [] (by kernel_rfl) ?_
        refine dr_take 2 (.int .u32 class0) rfl (by kernel_rfl) (by kernel_rfl) (by kernel_rfl) (by kernel_rfl) rfl rfl hf (by decide) rfl (fun w hp => ?_) ⟨_, hp⟩ ?_
        · obtain ⟨_, hp⟩ := hp
          refine st_move hf rfl rfl (by decide) ?_
          clear hf; intro a ha hf
          exact st_nil hf (th_n ⟨ha, rfl⟩)
        clear hf; intro a hf
        refine dr_take 3 (.int .i64 i7) rfl (by kernel_rfl) (by kernel_rfl) (by kernel_rfl) (by kernel_rfl) rfl rfl hf (by decide) rfl (fun w hp => ?_) ⟨_, hp⟩ ?_
        · obtain ⟨_, hp⟩ := hp
          refine st_move hf rfl rfl (by decide) ?_
          clear hf; intro a ha hf
          exact st_nil hf (th_n ⟨ha, rfl⟩)
        clear hf; intro a hf
        refine dr_take 4 (.int .u32 (ishr .u32 class0 i7)) rfl (by kernel_rfl) (by kernel_rfl) (by kernel_rfl) (by kernel_rfl) rfl rfl hf (by decide) rfl (fun w hp => ?_) ⟨_, hp⟩ ?_
        · obtain ⟨_, hp⟩ := hp
          refine st_ishr hf (by decide) rfl rfl rfl hc15 ?_
          clear hf; intro a ha hf
          exact st_nil hf (th_n ⟨ha, rfl⟩)
        clear hf; intro a hf
        refine dr_take 5 (.int .u32 (iand .u32 (ishr .u32 class0 i7) (1 : Int))) rfl (by kernel_rfl) (by kernel_rfl) (by kernel_rfl) (by kernel_rfl) rfl rfl hf (by decide) rfl (fun w hp => ?_) ⟨_, hp⟩ ?_
        · obtain ⟨_, hp⟩ := hp
          refine st_iand hf (by decide) rfl rfl rfl ?_
          clear hf; intro a ha hf
          exact st_nil hf (th_n ⟨ha, rfl⟩)
        clear hf; intro a hf
        refine dr_take 6 (.int .i64 (IntKind.i64.wrap (iand .u32 (ishr .u32 class0 i7) (1 : Int)))) rfl (by kernel_rfl) (by kernel_rfl) (by kernel_rfl) (by kernel_rfl) rfl rfl hf (by decide) rfl (fun w hp => ?_) ⟨_, hp⟩ ?_
        · obtain ⟨_, hp⟩ := hp
          refine st_conv_ii hf (by decide) (by rw [Try.underlying66]; rfl) Try.underlying2 rfl rfl ?_
          clear hf; intro a ha hf
          exact st_nil hf (th_n ⟨ha, rfl⟩)
        clear hf; intro a hf
        refine dr_one 0 rfl (by kernel_rfl) ?_
        refine st_fa (o' := 0) hf (by decide) (off := 0) (sz := 1) (by kernel_rfl) (by decide) rfl rfl (hp.ob (i := 0) rfl) rfl ?_
        clear hf; intro a ha hf; clear ha
        refine st_nil hf (th_n ⟨fun _ _ => ⟨_, hp⟩, ?_⟩)
        refine dr_one 1 rfl (by kernel_rfl) ?_
        refine st_ldO (u := .int .i64 q13.1) hf (by decide) pl2 rfl rfl (hp.ob (i := 0) rfl) rfl ?_
        clear hf; intro a ha hf; clear ha
        refine st_nil hf (th_n ⟨fun _ _ => ⟨_, hp⟩, ?_⟩)
        refine dr_take 7 (.int .i64 (IntKind.i64.wrap (q13.1 + (IntKind.i64.wrap (iand .u32 (ishr .u32 class0 i7) (1 : Int)))))) rfl (by kernel_rfl) (by kernel_rfl) (by kernel_rfl) (by kernel_rfl) rfl rfl hf (by decide) rfl (fun w hp => ?_) ⟨_, hp⟩ ?_
        · obtain ⟨_, hp⟩ := hp
          refine st_iadd hf (by decide) rfl rfl rfl ?_
          clear hf; intro a ha hf
          exact st_nil hf (th_n ⟨ha, rfl⟩)
        clear hf; intro a hf
        refine dr_one 8 rfl (by kernel_rfl) ?_
        refine st_fa (o' := 0) hf (by decide) (off := 0) (sz := 1) (by kernel_rfl) (by decide) rfl rfl (hp.ob (i := 0) rfl) rfl ?_
        clear hf; intro a ha hf; clear ha
        refine st_nil hf (th_n ⟨fun _ _ => ⟨_, hp⟩, ?_⟩)
        refine dr_one 9 rfl (by kernel_rfl) ?_
        refine st_stO (us := [.int .i64 (IntKind.i64.wrap (q13.1 + (IntKind.i64.wrap (iand .u32 (ishr .u32 class0 i7) (1 : Int)))))]) hf hp (i := 0) rfl rfl rfl rfl rfl (by rfl) (by kernel_rfl) (Nat.le_of_ble_eq_true rfl) ?_
        clear hf; intro a w hf hp0; clear hp; have hp := hp0; clear hp0
        replace hp : Hp _ _ _ (Res.obj 56 v9 [.int .i64 (IntKind.i64.wrap (q13.1 + (IntKind.i64.wrap (iand .u32 (ishr .u32 class0 i7) (1 : Int))))), .int .i64 q13.2] :: Res.obj 56 v1 [.int .i64 (0 : Int), .int .i64 (0 : Int)] :: ow) := hp
        refine st_nil hf (th_n ⟨fun _ _ => ⟨_, hp⟩, ?_⟩)
        refine dr_end (by kernel_rfl) ?_ _
        exact ⟨hf.sub ⟨rfl, rfl, rfl, rfl, trivial⟩, hp⟩
      rintro a w ⟨hf, hp⟩
      refine ib_n ?_
      refine th_n ?_
      refine wp_reg ?_
      refine st_move hf rfl rfl (by decide) ?_
      clear hf; intro a ha hf; clear ha
      refine st_isub hf (by decide) rfl rfl rfl ?_
      clear hf; intro a ha hf; clear ha
      refine st_assign hf rfl rfl (by decide) ?_
      clear hf; intro a ha hf; clear ha
      refine st_nil hf ?_
      obtain rfl := Option.some.inj h
      exact rnd_l ⟨hf.sub ⟨rfl, rfl, rfl, rfl, trivial⟩, hp⟩
    replace h := ifF h hb
    refine wp_exit ?_
    refine th_e ?_
    obtain rfl := Option.some.inj h
    exact rnd_r (by simp) ⟨rfl, hf.sub ⟨rfl, rfl, trivial⟩, hp⟩
  clear hl hf hp
  intro e a w hne hO
  obtain ⟨rfl, hf, hp⟩ := hO
  refine ib_same ?_
  refine th_n ?_
  refine wp_seq ?_
  refine wp_reg ?_
  refine st_ldOA (m := 2) (us := [.int .i64 q16.1, .int .i64 q16.2]) hf (by decide) (by kernel_rfl) rfl rfl (hp.ob (i := 0) rfl) rfl rfl ?_
  clear hf; intro a ha hf; clear ha
  refine st_stO (us := [.int .i64 q16.1, .int .i64 q16.2]) hf hp (i := 1) rfl rfl rfl rfl rfl (by rfl) (by kernel_rfl) (Nat.le_of_ble_eq_true rfl) ?_
  clear hf; intro a w hf hp0; clear hp; have hp := hp0; clear hp0
  replace hp : Hp _ _ _ (Res.obj 56 v9 [.int .i64 q16.1, .int .i64 q16.2] :: Res.obj 56 v1 [.int .i64 q16.1, .int .i64 q16.2] :: ow) := hp
  refine st_assign hf rfl rfl (by decide) ?_
  clear hf; intro a ha hf; clear ha
  refine st_nil hf ?_
  refine th_n ?_
  refine wp_ret ?_
  obtain rfl := Option.some.inj h
  have hp : Hp _ _ _ (Res.obj 56 v1 [.int .i64 q16.1, .int .i64 q16.2] :: ow) := Hp.sel (pre := [Res.obj 56 v9 [.int .i64 q16.1, .int .i64 q16.2], Res.obj 56 v1 [.int .i64 q16.1, .int .i64 q16.2]]) (tail := ow) (rs' := [Res.obj 56 v1 [.int .i64 q16.1, .int .i64 q16.2]]) hp [1] (by decide) (by simp) rfl
  exact ⟨rfl, ⟨_, hf.sub ⟨rfl, rfl, trivial⟩, hp⟩⟩

noncomputable def f_plane_Gauss_Depth.s1c (n4 : Int) (next5c_0 : Int) (next5c_1 : Int) (bit6 : Int) : Option ((Int × Int × Int × Int) ⊕ Int) := (if (bit6 == (0 : Int)) = true then ((f_plane_Gauss_half next5c_0 next5c_1).bind fun q13 => (some (Sum.inl ((IntKind.i64.wrap (n4 + (1 : Int))), q13.1.1, q13.1.2, q13.2)))) else (some (Sum.inr n4)))
noncomputable def f_plane_Gauss_Depth.s1  (s : (Int × Int × Int × Int)) : Option ((Int × Int × Int × Int) ⊕ Int) := f_plane_Gauss_Depth.s1c s.1 s.2.1 s.2.2.1 s.2.2.2
noncomputable def f_plane_Gauss_Depth (g0_Re : Int) (g0_Im : Int) : Option (Int × Int) := ((f_plane_Gauss_may g0_Re g0_Im).bind fun q3 => (if (!q3) = true then (some ((0 : Int), (1 : Int))) else (if ((g0_Re == (0 : Int)) && ((g0_Im == (0 : Int)) && true)) = true then (some ((0 : Int), (6 : Int))) else ((f_plane_Gauss_half g0_Re g0_Im).bind fun q5 => ((loop f_plane_Gauss_Depth.s1 ((0 : Int), q5.1.1, q5.1.2, q5.2)).bind (fun q15 => (some (q15, (0 : Int)))))))))
theorem f_plane_Gauss_Depth_c {S : Nat → Prop} {w0 w : World} {ow : List Res} (hp : Hp S w0 w ow) (g0_Re : Int) (g0_Im : Int) {r : (Int × Int)} (h : f_plane_Gauss_Depth g0_Re g0_Im = some r) :
    Calls Try.prog 38 #[.agg #[.int .i64 g0_Re, .int .i64 g0_Im]] w (fun e w' => e = .returned (.tuple #[.int .i64 r.1, .int .i64 r.2]) ∧ Hp S w0 w' (ow)) := by
  unfold f_plane_Gauss_Depth at h
  refine enter (n := 31) (args := [.agg #[.int .i64 g0_Re, .int .i64 g0_Im]]) Try.func38 rfl rfl (Nat.le_of_ble_eq_true rfl) fun a hf => ?_
  replace hf : Fr 31 a [(0, .agg #[.int .i64 g0_Re, .int .i64 g0_Im])] := hf
  refine wp_mono (Q := fun e a w => e = .ret ∧ Fr 31 a [(2, .int .i64 r.1), (3, .int .i64 r.2)] ∧ Hp S w0 w (ow)) ?_ ?_
  rotate_left
  · rintro e a w ⟨rfl, hf, hp⟩
    exact ret2 hf rfl rfl rfl ⟨rfl, hp⟩
  refine wp_seq ?_
  refine wp_reg ?_
  refine st_boxO (cs := [.int .i64 g0_Re, .int .i64 g0_Im]) hf (by decide) hp rfl rfl rfl ?_
  clear hf; intro a w v1 hf hp0; clear hp; have hp := hp0; clear hp0
  replace hp : Hp _ _ _ (Res.obj 56 v1 [.int .i64 g0_Re, .int .i64 g0_Im] :: ow) := hp
  refine st_assign hf rfl rfl (by decide) ?_
  clear hf; intro a ha hf; clear ha
  refine st_assign hf rfl rfl (by decide) ?_
  clear hf; intro a ha hf; clear ha
  refine st_nil hf ?_
  refine th_n ?_
  refine wp_seq ?_
  refine wp_block ?_
  refine wp_seq ?_
  refine wp_reg ?_
  refine st_ldOA (m := 2) (us := [.int .i64 g0_Re, .int .i64 g0_Im]) hf (by decide) (by kernel_rfl) rfl rfl (hp.ob (i := 0) rfl) rfl rfl ?_
  clear hf; intro a ha hf; clear ha
  obtain ⟨q3, hcall4, h⟩ := bnd h
  refine st_call hf (by decide) Try.func55 rfl rfl rfl rfl rfl (f_plane_Gauss_may_c hp _ _ hcall4) ?_
  rintro _ w ⟨rfl, hp0⟩
  clear hp; have hp := hp0; clear hp0
  replace hp : Hp _ _ _ (Res.obj 56 v1 [.int .i64 g0_Re, .int .i64 g0_Im] :: ow) := hp
  refine ⟨_, rfl, ?_⟩
  clear hf; intro a hf
  refine st_not hf (by decide) rfl rfl ?_
  clear hf; intro a ha hf; clear ha
  refine st_assign hf rfl rfl (by decide) ?_
  clear hf; intro a ha hf; clear ha
  refine st_nil hf ?_
  refine th_n ?_
  refine wp_if hf rfl (fun hb => ?_) (fun hb => ?_)
  · replace h := ifT h hb
    refine wp_seq ?_
    refine wp_reg ?_
    refine st_assign hf rfl rfl (by decide) ?_
    clear hf; intro a ha hf; clear ha
    refine st_assign hf rfl rfl (by decide) ?_
    clear hf; intro a ha hf; clear ha
    refine st_nil hf ?_
    refine th_n ?_
    refine wp_ret ?_
    refine ib_r ?_
    refine th_r ?_
    obtain rfl := Option.some.inj h
    have hp : Hp _ _ _ (ow) := Hp.sel (pre := [Res.obj 56 v1 [.int .i64 g0_Re, .int .i64 g0_Im]]) (tail := ow) (rs' := []) hp [] (by decide) (by simp) rfl
    exact ⟨rfl, ⟨hf.sub ⟨rfl, rfl, trivial⟩, hp⟩⟩
  replace h := ifF h hb
  refine wp_seq ?_
  refine wp_reg ?_
  refine st_ldOA (m := 2) (us := [.int .i64 g0_Re, .int .i64 g0_Im]) hf (by decide) (by kernel_rfl) rfl rfl (hp.ob (i := 0) rfl) rfl rfl ?_
  clear hf; intro a ha hf; clear ha
  refine st_buildA (vals := []) (cells := [.int .i64 (0 : Int), .int .i64 (0 : Int)]) hf (by decide) rfl (by simp []) (fun w => by kernel_rfl) ?_
  clear hf; intro a ha hf; clear ha
  refine st_eqA (xs := [.int .i64 g0_Re, .int .i64 g0_Im]) (ys := [.int .i64 (0 : Int), .int .i64 (0 : Int)]) hf (by decide) (by kernel_rfl) (by kernel_rfl) (by kernel_rfl) (by kernel_rfl) rfl rfl rfl (b := ((g0_Re == (0 : Int)) && ((g0_Im == (0 : Int)) && true))) rfl ?_
  clear hf; intro a ha hf; clear ha
  refine st_assign hf rfl rfl (by decide) ?_
  clear hf; intro a ha hf; clear ha
  refine st_nil hf ?_
  refine th_n ?_
  refine wp_if hf rfl (fun hb => ?_) (fun hb => ?_)
  · replace h := ifT h hb
    refine wp_seq ?_
    refine wp_reg ?_
    refine st_assign hf rfl rfl (by decide) ?_
    clear hf; intro a ha hf; clear ha
    refine st_assign hf rfl rfl (by decide) ?_
    clear hf; intro a ha hf; clear ha
    refine st_nil hf ?_
    refine th_n ?_
    refine wp_ret ?_
    refine ib_r ?_
    refine th_r ?_
    obtain rfl := Option.some.inj h
    have hp : Hp _ _ _ (ow) := Hp.sel (pre := [Res.obj 56 v1 [.int .i64 g0_Re, .int .i64 g0_Im]]) (tail := ow) (rs' := []) hp [] (by decide) (by simp) rfl
    exact ⟨rfl, ⟨hf.sub ⟨rfl, rfl, trivial⟩, hp⟩⟩
  replace h := ifF h hb
  refine wp_skip ?_
  refine ib_n ?_
  refine th_n ?_
  refine wp_seq ?_
  refine wp_reg ?_
  refine st_assign hf rfl rfl (by decide) ?_
  clear hf; intro a ha hf; clear ha
  refine st_nil hf ?_
  refine th_n ?_
  refine wp_seq ?_
  refine wp_seq ?_
  refine wp_reg ?_
  refine st_ldOA (m := 2) (us := [.int .i64 g0_Re, .int .i64 g0_Im]) hf (by decide) (by kernel_rfl) rfl rfl (hp.ob (i := 0) rfl) rfl rfl ?_
  clear hf; intro a ha hf; clear ha
  obtain ⟨q5, hcall6, h⟩ := bnd h
  refine st_call hf (by decide) Try.func59 rfl rfl rfl rfl rfl (f_plane_Gauss_half_c hp _ _ hcall6) ?_
  rintro _ w ⟨rfl, hp0⟩
  clear hp; have hp := hp0; clear hp0
  replace hp : Hp _ _ _ (Res.obj 56 v1 [.int .i64 g0_Re, .int .i64 g0_Im] :: ow) := hp
  refine ⟨_, rfl, ?_⟩
  clear hf; intro a hf
  refine st_move hf rfl rfl (by decide) ?_
  clear hf; intro a ha hf; clear ha
  refine st_extract hf (by decide) rfl rfl rfl ?_
  clear hf; intro a ha hf; clear ha
  refine st_extract hf (by decide) rfl rfl rfl ?_
  clear hf; intro a ha hf; clear ha
  refine st_alloc (cs := [.int .i64 (0 : Int), .int .i64 (0 : Int)]) (zv := .agg #[.int .i64 (0 : Int), .int .i64 (0 : Int)]) hf (by decide) (by kernel_rfl) rfl hp rfl ?_
  clear hf; intro a w v7 hf hp0; clear hp; have hp := hp0; clear hp0
  replace hp : Hp _ _ _ (Res.obj 56 v7 [.int .i64 (0 : Int), .int .i64 (0 : Int)] :: Res.obj 56 v1 [.int .i64 g0_Re, .int .i64 g0_Im] :: ow) := hp
  refine st_stO (us := [.int .i64 q5.1.1, .int .i64 q5.1.2]) hf hp (i := 0) rfl rfl rfl rfl rfl (by rfl) (by kernel_rfl) (Nat.le_of_ble_eq_true rfl) ?_
  clear hf; intro a w hf hp0; clear hp; have hp := hp0; clear hp0
  replace hp : Hp _ _ _ (Res.obj 56 v7 [.int .i64 q5.1.1, .int .i64 q5.1.2] :: Res.obj 56 v1 [.int .i64 g0_Re, .int .i64 g0_Im] :: ow) := hp
  refine st_assign hf rfl rfl (by decide) ?_
  clear hf; intro a ha hf; clear ha
  refine st_nil hf ?_
  refine th_n ?_
  refine wp_block ?_
  obtain ⟨q15, hl, h⟩ := bnd h
  have hp : Hp _ _ _ (Res.obj 56 v7 [.int .i64 q5.1.1, .int .i64 q5.1.2] :: ow) := Hp.sel (pre := [Res.obj 56 v7 [.int .i64 q5.1.1, .int .i64 q5.1.2], Res.obj 56 v1 [.int .i64 g0_Re, .int .i64 g0_Im]]) (tail := ow) (rs' := [Res.obj 56 v7 [.int .i64 q5.1.1, .int .i64 q5.1.2]]) hp [0] (by decide) (by simp) rfl
  refine wp_loop_pure (f := f_plane_Gauss_Depth.s1) (s := ((0 : Int), q5.1.1, q5.1.2, q5.2)) (fun s a w => ∃ (v9 : Value), Fr 31 a [(4, .int .i64 s.1), (5, optr v9 0), (6, .int .u32 s.2.2.2)] ∧ Hp S w0 w (Res.obj 56 v9 [.int .i64 s.2.1, .int .i64 s.2.2.1] :: ow)) (fun q e a w => e = .exit 1 ∧ Fr 31 a [(4, .int .i64 q)] ∧ Hp S w0 w (ow)) ?_ hl ⟨_, hf.sub ⟨rfl, rfl, rfl, trivial⟩, hp⟩ ?_
  · clear hl hf hp
    intro s x a w h hI
    obtain ⟨n4, next5c_0, next5c_1, bit6⟩ := s
    obtain ⟨v9, hf, hp⟩ : ∃ (v9 : Value), Fr 31 a [(4, .int .i64 n4), (5, optr v9 0), (6, .int .u32 bit6)] ∧ Hp S w0 w (Res.obj 56 v9 [.int .i64 next5c_0, .int .i64 next5c_1] :: ow) := hI
    replace h : f_plane_Gauss_Depth.s1c n4 next5c_0 next5c_1 bit6 = some x := h
    unfold f_plane_Gauss_Depth.s1c at h
    refine wp_seq ?_
    refine wp_seq ?_
    refine wp_reg ?_
    refine st_move hf rfl rfl (by decide) ?_
    clear hf; intro a ha hf; clear ha
    refine st_ieql hf (by decide) rfl rfl rfl ?_
    clear hf; intro a ha hf; clear ha
    refine st_nil hf ?_
    refine th_n ?_
    refine wp_if hf rfl (fun hb => ?_) (fun hb => ?_)
    · replace h := ifT h hb
      refine wp_skip ?_
      refine th_n ?_
      refine wp_seq ?_
      refine wp_block ?_
      refine wp_reg ?_
      refine st_move hf rfl rfl (by decide) ?_
      clear hf; intro a ha hf; clear ha
      refine st_iadd hf (by decide) rfl rfl rfl ?_
      clear hf; intro a ha hf; clear ha
      refine st_assign hf rfl rfl (by decide) ?_
      clear hf; intro a ha hf; clear ha
      refine st_nil hf ?_
      refine ib_n ?_
      refine th_n ?_
      refine wp_seq ?_
      refine wp_seq ?_
      refine wp_reg ?_
      refine st_ldOA (m := 2) (us := [.int .i64 next5c_0, .int .i64 next5c_1]) hf (by decide) (by kernel_rfl) rfl rfl (hp.ob (i := 0) rfl) rfl rfl ?_
      clear hf; intro a ha hf; clear ha
      refine st_nil hf ?_
      refine th_n ?_
      refine wp_reg ?_
      refine st_alloc (cs := [.int .i64 (0 : Int), .int .i64 (0 : Int)]) (zv := .agg #[.int .i64 (0 : Int), .int .i64 (0 : Int)]) hf (by decide) (by kernel_rfl) rfl hp rfl ?_
      clear hf; intro a w v11 hf hp0; clear hp; have hp := hp0; clear hp0
      replace hp : Hp _ _ _ (Res.obj 56 v11 [.int .i64 (0 : Int), .int .i64 (0 : Int)] :: Res.obj 56 v9 [.int .i64 next5c_0, .int .i64 next5c_1] :: ow) := hp
      refine st_stO (us := [.int .i64 next5c_0, .int .i64 next5c_1]) hf hp (i := 0) rfl rfl rfl rfl rfl (by rfl) (by kernel_rfl) (Nat.le_of_ble_eq_true rfl) ?_
      clear hf; intro a w hf hp0; clear hp; have hp := hp0; clear hp0
      replace hp : Hp _ _ _ (Res.obj 56 v11 [.int .i64 next5c_0, .int .i64 next5c_1] :: Res.obj 56 v9 [.int .i64 next5c_0, .int .i64 next5c_1] :: ow) := hp
      refine st_nil hf ?_
      refine th_n ?_
      refine wp_reg ?_
      refine st_ldOA (m := 2) (us := [.int .i64 next5c_0, .int .i64 next5c_1]) hf (by decide) (by kernel_rfl) rfl rfl (hp.ob (i := 0) rfl) rfl rfl ?_
      clear hf; intro a ha hf; clear ha
      obtain ⟨q13, hcall14, h⟩ := bnd h
      refine st_call hf (by decide) Try.func59 rfl rfl rfl rfl rfl (f_plane_Gauss_half_c hp _ _ hcall14) ?_
      rintro _ w ⟨rfl, hp0⟩
      clear hp; have hp := hp0; clear hp0
      replace hp : Hp _ _ _ (Res.obj 56 v11 [.int .i64 next5c_0, .int .i64 next5c_1] :: Res.obj 56 v9 [.int .i64 next5c_0, .int .i64 next5c_1] :: ow) := hp
      refine ⟨_, rfl, ?_⟩
      clear hf; intro a hf
      refine st_move hf rfl rfl (by decide) ?_
      clear hf; intro a ha hf; clear ha
      refine st_extract hf (by decide) rfl rfl rfl ?_
      clear hf; intro a ha hf; clear ha
      refine st_extract hf (by decide) rfl rfl rfl ?_
      clear hf; intro a ha hf; clear ha
      refine st_stO (us := [.int .i64 q13.1.1, .int .i64 q13.1.2]) hf hp (i := 0) rfl rfl rfl rfl rfl (by rfl) (by kernel_rfl) (Nat.le_of_ble_eq_true rfl) ?_
      clear hf; intro a w hf hp0; clear hp; have hp := hp0; clear hp0
      replace hp : Hp _ _ _ (Res.obj 56 v11 [.int .i64 q13.1.1, .int .i64 q13.1.2] :: Res.obj 56 v9 [.int .i64 next5c_0, .int .i64 next5c_1] :: ow) := hp
      refine st_assign hf rfl rfl (by decide) ?_
      clear hf; intro a ha hf; clear ha
      refine st_nil hf ?_
      obtain rfl := Option.some.inj h
      have hp : Hp _ _ _ (Res.obj 56 v11 [.int .i64 q13.1.1, .int .i64 q13.1.2] :: ow) := Hp.sel (pre := [Res.obj 56 v11 [.int .i64 q13.1.1, .int .i64 q13.1.2], Res.obj 56 v9 [.int .i64 next5c_0, .int .i64 next5c_1]]) (tail := ow) (rs' := [Res.obj 56 v11 [.int .i64 q13.1.1, .int .i64 q13.1.2]]) hp [0] (by decide) (by simp) rfl
      exact rnd_l ⟨_, hf.sub ⟨rfl, rfl, rfl, trivial⟩, hp⟩
    replace h := ifF h hb
    refine wp_exit ?_
    refine th_e ?_
    obtain rfl := Option.some.inj h
    have hp : Hp _ _ _ (ow) := Hp.sel (pre := [Res.obj 56 v9 [.int .i64 next5c_0, .int .i64 next5c_1]]) (tail := ow) (rs' := []) hp [] (by decide) (by simp) rfl
    exact rnd_r (by simp) ⟨rfl, hf.sub ⟨rfl, trivial⟩, hp⟩
  clear hl hf hp
  intro e a w hne hO
  obtain ⟨rfl, hf, hp⟩ := hO
  refine ib_same ?_
  refine th_n ?_
  refine wp_seq ?_
  refine wp_reg ?_
  refine st_move hf rfl rfl (by decide) ?_
  clear hf; intro a ha hf; clear ha
  refine st_assign hf rfl rfl (by decide) ?_
  clear hf; intro a ha hf; clear ha
  refine st_assign hf rfl rfl (by decide) ?_
  clear hf; intro a ha hf; clear ha
  refine st_nil hf ?_
  refine th_n ?_
  refine wp_ret ?_
  obtain rfl := Option.some.inj h
  exact ⟨rfl, ⟨hf.sub ⟨rfl, rfl, trivial⟩, hp⟩⟩

noncomputable def f_math_Abs (xx0 : Fl) : Option Fl := ((fbits xx0).bind fun q1 => (some (Fl.bits ((iandn .u64 q1 (9223372036854775808 : Int))).toNat)))
theorem f_math_Abs_c {S : Nat → Prop} {w0 w : World} {ow : List Res} (hp : Hp S w0 w ow) (bxx0 : Nat) (xx0 : Fl) (hxx0 : xx0.rep bxx0) {r : Fl} (h : f_math_Abs xx0 = some r) :
    Calls Try.prog 61 #[.float .f64 bxx0] w (fun e w' => ∃ (b0 : Nat), e = .returned (.float .f64 b0) ∧ Fl.rep b0 r ∧ Hp S w0 w' (ow)) := by
  unfold f_math_Abs at h
  refine enter (n := 7) (args := [.float .f64 bxx0]) Try.func61 rfl rfl (Nat.le_of_ble_eq_true rfl) fun a hf => ?_
  replace hf : Fr 7 a [(0, .float .f64 bxx0)] := hf
  refine wp_mono (Q := fun e a w => e = .ret ∧ ∃ (b0 : Nat), Fr 7 a [(2, .float .f64 b0)] ∧ Fl.rep b0 r ∧ Hp S w0 w (ow)) ?_ ?_
  rotate_left
  · rintro e a w ⟨rfl, x0, hf, y0, hp⟩
    exact ret1 hf rfl rfl ⟨x0, rfl, y0, hp⟩
  refine wp_seq ?_
  refine wp_reg ?_
  refine st_assign hf rfl rfl (by decide) ?_
  clear hf; intro a ha hf; clear ha
  refine st_nil hf ?_
  refine th_n ?_
  refine wp_seq ?_
  refine wp_reg ?_
  refine st_move hf rfl rfl (by decide) ?_
  clear hf; intro a ha hf; clear ha
  obtain ⟨q1, hq2, h⟩ := bnd h
  refine st_extern (ex := Extern.MathFloatBits.float64bits) (r := .int .u64 (bxx0 : Int)) (f := 73) (vs := [.float .f64 bxx0]) hf (by decide) Try.func73 rfl rfl (by kernel_rfl) (by kernel_rfl) rfl rfl rfl rfl ?_
  clear hf; intro a ha hf; clear ha
  have he3 := fbits_rep hxx0 hq2; rw [← he3] at hf
  refine st_iandn hf (by decide) rfl rfl rfl ?_
  clear hf; intro a ha hf; clear ha
  refine st_extern (ex := Extern.MathFloatBits.float64frombits) (r := .float .f64 ((iandn .u64 q1 (9223372036854775808 : Int))).toNat) (f := 72) (vs := [.int .u64 (iandn .u64 q1 (9223372036854775808 : Int))]) hf (by decide) Try.func72 rfl rfl (by kernel_rfl) (by kernel_rfl) rfl rfl rfl rfl ?_
  clear hf; intro a ha hf; clear ha
  refine st_assign hf rfl rfl (by decide) ?_
  clear hf; intro a ha hf; clear ha
  refine st_nil hf ?_
  refine th_n ?_
  refine wp_ret ?_
  obtain rfl := Option.some.inj h
  exact ⟨rfl, ⟨_, hf.sub ⟨rfl, trivial⟩, rfl, hp⟩⟩

noncomputable def f_math_Trunc (xx0 : Fl) : Option Fl := (some (fint Ieee.Toward.zero xx0))
theorem f_math_Trunc_c {S : Nat → Prop} {w0 w : World} {ow : List Res} (hp : Hp S w0 w ow) (bxx0 : Nat) (xx0 : Fl) (hxx0 : xx0.rep bxx0) {r : Fl} (h : f_math_Trunc xx0 = some r) :
    Calls Try.prog 62 #[.float .f64 bxx0] w (fun e w' => ∃ (b0 : Nat), e = .returned (.float .f64 b0) ∧ Fl.rep b0 r ∧ Hp S w0 w' (ow)) := by
  unfold f_math_Trunc at h
  refine enter (n := 7) (args := [.float .f64 bxx0]) Try.func62 rfl rfl (Nat.le_of_ble_eq_true rfl) fun a hf => ?_
  replace hf : Fr 7 a [(0, .float .f64 bxx0)] := hf
  refine wp_mono (Q := fun e a w => e = .ret ∧ ∃ (b0 : Nat), Fr 7 a [(2, .float .f64 b0)] ∧ Fl.rep b0 r ∧ Hp S w0 w (ow)) ?_ ?_
  rotate_left
  · rintro e a w ⟨rfl, x0, hf, y0, hp⟩
    exact ret1 hf rfl rfl ⟨x0, rfl, y0, hp⟩
  refine wp_seq ?_
  refine wp_reg ?_
  refine st_assign hf rfl rfl (by decide) ?_
  clear hf; intro a ha hf; clear ha
  refine st_nil hf ?_
  refine th_n ?_
  refine wp_seq ?_
  refine wp_if hf rfl (fun hb => ?_) (fun hb => ?_)
  rotate_left
  · exact absurd hb (by decide)
  refine wp_seq ?_
  refine wp_reg ?_
  refine st_move hf rfl rfl (by decide) ?_
  clear hf; intro a ha hf; clear ha
  refine st_fint (fx := xx0) (nm := "math.archTrunc") (way := Ieee.Toward.zero) (f := 74) hf (by decide) hp Try.func74 rfl rfl (by kernel_rfl) (by kernel_rfl) rfl rfl rfl hxx0 ?_
  clear hf; intro a w bb1 y2 hf hp0; clear hp; have hp := hp0; clear hp0
  replace hp : Hp _ _ _ (ow) := hp
  refine st_assign hf rfl rfl (by decide) ?_
  clear hf; intro a ha hf; clear ha
  refine st_nil hf ?_
  refine th_n ?_
  refine wp_ret ?_
  refine th_r ?_
  obtain rfl := Option.some.inj h
  exact ⟨rfl, ⟨_, hf.sub ⟨rfl, trivial⟩, y2, hp⟩⟩

noncomputable def f_plane_Whole_1 (xx0 : Fl) : Option Bool := ((f_math_Abs xx0).bind fun q1 => ((if (fle q1 (Fl.bits 4742290407621132288)) = true then ((f_math_Trunc xx0).bind fun q8 => (some (feq q8 xx0))) else (some false)).bind fun z7 => (some z7)))
theorem f_plane_Whole_1_c {S : Nat → Prop} {w0 w : World} {ow : List Res} (hp : Hp S w0 w ow) (bxx0 : Nat) (xx0 : Fl) (hxx0 : xx0.rep bxx0) {r : Bool} (h : f_plane_Whole_1 xx0 = some r) :
    Calls Try.prog 60 #[.float .f64 bxx0] w (fun e w' => e = .returned (.bool r) ∧ Hp S w0 w' (ow)) := by
  unfold f_plane_Whole_1 at h
  refine enter (n := 12) (args := [.float .f64 bxx0]) Try.func60 rfl rfl (Nat.le_of_ble_eq_true rfl) fun a hf => ?_
  replace hf : Fr 12 a [(0, .float .f64 bxx0)] := hf
  refine wp_mono (Q := fun e a w => e = .ret ∧ Fr 12 a [(2, .bool r)] ∧ Hp S w0 w (ow)) ?_ ?_
  rotate_left
  · rintro e a w ⟨rfl, hf, hp⟩
    exact ret1 hf rfl rfl ⟨rfl, hp⟩
  refine wp_seq ?_
  refine wp_reg ?_
  refine st_assign hf rfl rfl (by decide) ?_
  clear hf; intro a ha hf; clear ha
  refine st_nil hf ?_
  refine th_n ?_
  refine wp_seq ?_
  refine wp_reg ?_
  refine st_move hf rfl rfl (by decide) ?_
  clear hf; intro a ha hf; clear ha
  obtain ⟨q1, hcall2, h⟩ := bnd h
  refine st_call hf (by decide) Try.func61 rfl rfl rfl rfl rfl (f_math_Abs_c hp _ _ (show Fl.rep bxx0 xx0 from hxx0) hcall2) ?_
  rintro _ w ⟨v3, rfl, y4, hp0⟩
  clear hp; have hp := hp0; clear hp0
  replace hp : Hp _ _ _ (ow) := hp
  refine ⟨_, rfl, ?_⟩
  clear hf; intro a hf
  refine st_fcmp (r_fle (fx := q1) (fy := (Fl.bits 4742290407621132288)) y4 rfl) hf (by decide) rfl rfl rfl ?_
  clear hf; intro a ha hf; clear ha
  refine st_move hf rfl rfl (by decide) ?_
  clear hf; intro a ha hf; clear ha
  obtain ⟨z7, hz5, h⟩ := bnd h
  refine wpList_cut 5 (fun a w => Fr 12 a [(11, .bool z7)] ∧ Hp S w0 w (ow)) ?_ ?_
  · rcases Bool.eq_false_or_eq_true (fle q1 (Fl.bits 4742290407621132288)) with hb6 | hb6
    · skip
      replace hz5 := ifT hz5 hb6
      refine st_move hf (wantY hf rfl rfl hb6) rfl (by decide) ?_
      clear hf; intro a ha hf; clear ha
      obtain ⟨q8, hcall9, hz5⟩ := bnd hz5
      refine st_call hf (by decide) Try.func62 rfl rfl (wantY hf rfl rfl hb6) rfl rfl (f_math_Trunc_c hp _ _ (show Fl.rep bxx0 xx0 from hxx0) hcall9) ?_
      rintro _ w ⟨v10, rfl, y11, hp0⟩
      clear hp; have hp := hp0; clear hp0
      replace hp : Hp _ _ _ (ow) := hp
      refine ⟨_, rfl, ?_⟩
      clear hf; intro a hf
      refine st_move hf (wantY hf rfl rfl hb6) rfl (by decide) ?_
      clear hf; intro a ha hf; clear ha
      refine st_fcmp (r_feq (fx := q8) (fy := xx0) y11 hxx0) hf (by decide) (wantY hf rfl rfl hb6) rfl rfl ?_
      clear hf; intro a ha hf; clear ha
      obtain rfl := Option.some.inj hz5
      refine st_pick (v := .bool (feq q8 xx0)) hf rfl rfl (fun hb' => ?_) (fun hb' => ?_) (by decide) ?_
      · rfl
      · exact absurd (hb6.symm.trans hb') (by decide)
      clear hf; intro a ha hf; clear ha
      refine st_nil hf (th_n ?_)
      exact ⟨hf.sub ⟨rfl, trivial⟩, hp⟩
    replace hz5 := ifF hz5 hb6
    refine st_skip hf (wantN hf rfl rfl hb6) rfl (by decide) ?_ rfl
    clear hf; intro a hf
    refine st_skip hf (wantN hf rfl rfl hb6) rfl (by decide) ?_ rfl
    clear hf; intro a hf
    refine st_skip hf (wantN hf rfl rfl hb6) rfl (by decide) ?_ rfl
    clear hf; intro a hf
    refine st_skip hf (wantN hf rfl rfl hb6) rfl (by decide) ?_ rfl
    clear hf; intro a hf
    obtain rfl := Option.some.inj hz5
    refine st_pick (v := .bool false) hf rfl rfl (fun hb' => ?_) (fun hb' => ?_) (by decide) ?_
    · exact absurd (hb6.symm.trans hb') (by decide)
    · rfl
    clear hf; intro a ha hf; clear ha
    refine st_nil hf (th_n ?_)
    exact ⟨hf.sub ⟨rfl, trivial⟩, hp⟩
  rintro a w ⟨hf, hp⟩
  refine st_assign hf rfl rfl (by decide) ?_
  clear hf; intro a ha hf; clear ha
  refine st_nil hf ?_
  refine th_n ?_
  refine wp_ret ?_
  obtain rfl := Option.some.inj h
  exact ⟨rfl, ⟨hf.sub ⟨rfl, trivial⟩, hp⟩⟩

noncomputable def f_plane_Whole (zx0 : (Fl × Fl)) : Option ((Int × Int) × Int) := ((f_plane_Whole_1 zx0.1).bind fun q3 => ((if (!q3) = true then (some true) else ((f_plane_Whole_1 zx0.2).bind fun q8 => (some (!q8)))).bind fun z7 => (if z7 = true then (some (((0 : Int), (0 : Int)), (1 : Int))) else ((ftoi .i64 zx0.1).bind fun q10 => ((ftoi .i64 zx0.2).bind fun q12 => (some ((q10, q12), (0 : Int))))))))
theorem f_plane_Whole_c {S : Nat → Prop} {w0 w : World} {ow : List Res} (hp : Hp S w0 w ow) (bzx0 czx0 : Nat) (zx0 : Fl × Fl) (hzx0 : zx0.1.rep bzx0) (kzx0 : zx0.2.rep czx0) {r : ((Int × Int) × Int)} (h : f_plane_Whole zx0 = some r) :
    Calls Try.prog 39 #[.complex .f64 bzx0 czx0] w (fun e w' => e = .returned (.tuple #[.agg #[.int .i64 r.1.1, .int .i64 r.1.2], .int .i64 r.2]) ∧ Hp S w0 w' (ow)) := by
  unfold f_plane_Whole at h
  refine enter (n := 25) (args := [.complex .f64 bzx0 czx0]) Try.func39 rfl rfl (Nat.le_of_ble_eq_true rfl) fun a hf => ?_
  replace hf : Fr 25 a [(0, .complex .f64 bzx0 czx0)] := hf
  refine wp_mono (Q := fun e a w => e = .ret ∧ ∃ (c0 : Value), Fr 25 a [(2, optr c0 0), (3, .int .i64 r.2)] ∧ Hp S w0 w (Res.obj 56 c0 [.int .i64 r.1.1, .int .i64 r.1.2] :: ow)) ?_ ?_
  rotate_left
  · rintro e a w ⟨rfl, c0, hf, hp⟩
    exact retG2 hf rfl ⟨_, _, rfl, hp.ob (i := 0) rfl, .inr ⟨by kernel_rfl, rfl⟩⟩ rfl ⟨rfl, hp.drop⟩
  refine wp_seq ?_
  refine wp_reg ?_
  refine st_alloc (cs := [.int .i64 (0 : Int), .int .i64 (0 : Int)]) (zv := .agg #[.int .i64 (0 : Int), .int .i64 (0 : Int)]) hf (by decide) (by kernel_rfl) rfl hp rfl ?_
  clear hf; intro a w v1 hf hp0; clear hp; have hp := hp0; clear hp0
  replace hp : Hp _ _ _ (Res.obj 56 v1 [.int .i64 (0 : Int), .int .i64 (0 : Int)] :: ow) := hp
  refine st_assign hf rfl rfl (by decide) ?_
  clear hf; intro a ha hf; clear ha
  refine st_nil hf ?_
  refine th_n ?_
  refine wp_seq ?_
  refine wp_reg ?_
  refine st_assign hf rfl rfl (by decide) ?_
  clear hf; intro a ha hf; clear ha
  refine st_nil hf ?_
  refine th_n ?_
  refine wp_seq ?_
  refine wp_seq ?_
  refine wp_reg ?_
  refine st_move hf rfl rfl (by decide) ?_
  clear hf; intro a ha hf; clear ha
  refine st_move hf rfl rfl (by decide) ?_
  clear hf; intro a ha hf; clear ha
  refine st_real hf (by decide) rfl rfl ?_
  clear hf; intro a ha hf; clear ha
  obtain ⟨q3, hcall4, h⟩ := bnd h
  refine st_call hf (by decide) Try.func60 rfl rfl rfl rfl rfl (f_plane_Whole_1_c hp _ _ (show Fl.rep bzx0 zx0.1 from hzx0) hcall4) ?_
  rintro _ w ⟨rfl, hp0⟩
  clear hp; have hp := hp0; clear hp0
  replace hp : Hp _ _ _ (Res.obj 56 v1 [.int .i64 (0 : Int), .int .i64 (0 : Int)] :: ow) := hp
  refine ⟨_, rfl, ?_⟩
  clear hf; intro a hf
  refine st_not hf (by decide) rfl rfl ?_
  clear hf; intro a ha hf; clear ha
  refine st_move hf rfl rfl (by decide) ?_
  clear hf; intro a ha hf; clear ha
  obtain ⟨z7, hz5, h⟩ := bnd h
  refine wpList_cut 6 (fun a w => Fr 25 a [(0, .complex .f64 bzx0 czx0), (2, optr v1 0), (16, .bool z7)] ∧ Hp S w0 w (Res.obj 56 v1 [.int .i64 (0 : Int), .int .i64 (0 : Int)] :: ow)) ?_ ?_
  · rcases Bool.eq_false_or_eq_true (!q3) with hb6 | hb6
    · skip
      replace hz5 := ifT hz5 hb6
      refine st_skip hf (wantN hf rfl rfl hb6) rfl (by decide) ?_ rfl
      clear hf; intro a hf
      refine st_skip hf (wantN hf rfl rfl hb6) rfl (by decide) ?_ rfl
      clear hf; intro a hf
      refine st_skip hf (wantN hf rfl rfl hb6) rfl (by decide) ?_ rfl
      clear hf; intro a hf
      refine st_skip hf (wantN hf rfl rfl hb6) rfl (by decide) ?_ rfl
      clear hf; intro a hf
      refine st_skip hf (wantN hf rfl rfl hb6) rfl (by decide) ?_ rfl
      clear hf; intro a hf
      obtain rfl := Option.some.inj hz5
      refine st_pick (v := .bool true) hf rfl rfl (fun hb' => ?_) (fun hb' => ?_) (by decide) ?_
      · rfl
      · exact absurd (hb6.symm.trans hb') (by decide)
      clear hf; intro a ha hf; clear ha
      refine st_nil hf (th_n ?_)
      exact ⟨hf.sub ⟨rfl, rfl, rfl, trivial⟩, hp⟩
    replace hz5 := ifF hz5 hb6
    refine st_move hf (wantY hf rfl rfl hb6) rfl (by decide) ?_
    clear hf; intro a ha hf; clear ha
    refine st_move hf (wantY hf rfl rfl hb6) rfl (by decide) ?_
    clear hf; intro a ha hf; clear ha
    refine st_imag hf (by decide) (wantY hf rfl rfl hb6) rfl ?_
    clear hf; intro a ha hf; clear ha
    obtain ⟨q8, hcall9, hz5⟩ := bnd hz5
    refine st_call hf (by decide) Try.func60 rfl rfl (wantY hf rfl rfl hb6) rfl rfl (f_plane_Whole_1_c hp _ _ (show Fl.rep czx0 zx0.2 from kzx0) hcall9) ?_
    rintro _ w ⟨rfl, hp0⟩
    clear hp; have hp := hp0; clear hp0
    replace hp : Hp _ _ _ (Res.obj 56 v1 [.int .i64 (0 : Int), .int .i64 (0 : Int)] :: ow) := hp
    refine ⟨_, rfl, ?_⟩
    clear hf; intro a hf
    refine st_not hf (by decide) (wantY hf rfl rfl hb6) rfl ?_
    clear hf; intro a ha hf; clear ha
    obtain rfl := Option.some.inj hz5
    refine st_pick (v := .bool (!q8)) hf rfl rfl (fun hb' => ?_) (fun hb' => ?_) (by decide) ?_
    · exact absurd (hb6.symm.trans hb') (by decide)
    · rfl
    clear hf; intro a ha hf; clear ha
    refine st_nil hf (th_n ?_)
    exact ⟨hf.sub ⟨rfl, rfl, rfl, trivial⟩, hp⟩
  rintro a w ⟨hf, hp⟩
  refine st_nil hf ?_
  refine th_n ?_
  refine wp_if hf rfl (fun hb => ?_) (fun hb => ?_)
  · replace h := ifT h hb
    refine wp_seq ?_
    refine wp_reg ?_
    refine st_buildA (vals := []) (cells := [.int .i64 (0 : Int), .int .i64 (0 : Int)]) hf (by decide) rfl (by simp []) (fun w => by kernel_rfl) ?_
    clear hf; intro a ha hf; clear ha
    refine st_stO (us := [.int .i64 (0 : Int), .int .i64 (0 : Int)]) hf hp (i := 0) rfl rfl rfl rfl rfl (by rfl) (by kernel_rfl) (Nat.le_of_ble_eq_true rfl) ?_
    clear hf; intro a w hf hp0; clear hp; have hp := hp0; clear hp0
    replace hp : Hp _ _ _ (Res.obj 56 v1 [.int .i64 (0 : Int), .int .i64 (0 : Int)] :: ow) := hp
    refine st_assign hf rfl rfl (by decide) ?_
    clear hf; intro a ha hf; clear ha
    refine st_nil hf ?_
    refine th_n ?_
    refine wp_ret ?_
    refine th_r ?_
    obtain rfl := Option.some.inj h
    exact ⟨rfl, ⟨_, hf.sub ⟨rfl, rfl, trivial⟩, hp⟩⟩
  replace h := ifF h hb
  refine wp_skip ?_
  refine th_n ?_
  refine wp_seq ?_
  refine wp_reg ?_
  refine st_move hf rfl rfl (by decide) ?_
  clear hf; intro a ha hf; clear ha
  refine st_real hf (by decide) rfl rfl ?_
  clear hf; intro a ha hf; clear ha
  obtain ⟨q10, hq11, h⟩ := bnd h
  refine st_conv_fi (by rw [Try.underlying22]; rfl) Try.underlying2 hf (by decide) rfl rfl (show Fl.rep bzx0 zx0.1 from hzx0) hq11 ?_
  clear hf; intro a ha hf; clear ha
  refine st_move hf rfl rfl (by decide) ?_
  clear hf; intro a ha hf; clear ha
  refine st_imag hf (by decide) rfl rfl ?_
  clear hf; intro a ha hf; clear ha
  obtain ⟨q12, hq13, h⟩ := bnd h
  refine st_conv_fi (by rw [Try.underlying22]; rfl) Try.underlying2 hf (by decide) rfl rfl (show Fl.rep czx0 zx0.2 from kzx0) hq13 ?_
  clear hf; intro a ha hf; clear ha
  refine st_buildA (vals := [(0, .int .i64 q10), (1, .int .i64 q12)]) (cells := [.int .i64 q10, .int .i64 q12]) hf (by decide) rfl (by simp [hf.ev (x := (Operand.tmp 20)) rfl, hf.ev (x := (Operand.tmp 23)) rfl]) (fun w => by kernel_rfl) ?_
  clear hf; intro a ha hf; clear ha
  refine st_stO (us := [.int .i64 q10, .int .i64 q12]) hf hp (i := 0) rfl rfl rfl rfl rfl (by rfl) (by kernel_rfl) (Nat.le_of_ble_eq_true rfl) ?_
  clear hf; intro a w hf hp0; clear hp; have hp := hp0; clear hp0
  replace hp : Hp _ _ _ (Res.obj 56 v1 [.int .i64 q10, .int .i64 q12] :: ow) := hp
  refine st_assign hf rfl rfl (by decide) ?_
  clear hf; intro a ha hf; clear ha
  refine st_nil hf ?_
  refine th_n ?_
  refine wp_ret ?_
  obtain rfl := Option.some.inj h
  exact ⟨rfl, ⟨_, hf.sub ⟨rfl, rfl, trivial⟩, hp⟩⟩

noncomputable def f_plane_Sum.s1c (l0 : (List (Fl × Fl))) (sx3 : (Fl × Fl)) (t8 : Int) : Option (((Fl × Fl) × Int) ⊕ (Fl × Fl)) := (if (decide (t8 < (l0.length : Int))) = true then (if 0 ≤ t8 ∧ t8 < (l0.length : Int) then (some (Sum.inl ((cadd sx3 (gt l0 t8)), (IntKind.i64.wrap (t8 + (1 : Int)))))) else none) else (some (Sum.inr sx3)))
noncomputable def f_plane_Sum.s1 (l0 : (List (Fl × Fl))) (s : ((Fl × Fl) × Int)) : Option (((Fl × Fl) × Int) ⊕ (Fl × Fl)) := f_plane_Sum.s1c l0 s.1 s.2
noncomputable def f_plane_Sum (l0 : (List (Fl × Fl))) : Option (Fl × Fl) := ((loop (f_plane_Sum.s1 l0) ((Fl.bits 0, Fl.bits 0), (0 : Int))).bind (fun q18 => (some q18)))
theorem f_plane_Sum_c {S : Nat → Prop} {w0 w : World} {ow : List Res} (hp : Hp S w0 w ow) (vl0 : Value) (l0 : (List (Fl × Fl))) (hl0 : RdS Ek.c128 S w0 vl0 l0) {r : (Fl × Fl)} (h : f_plane_Sum l0 = some r) :
    Calls Try.prog 26 #[vl0] w (fun e w' => ∃ (b0 : Nat) (b1 : Nat), e = .returned (.complex .f64 b0 b1) ∧ Fl.rep b0 r.1 ∧ Fl.rep b1 r.2 ∧ Hp S w0 w' (ow)) := by
  unfold f_plane_Sum at h
  refine enter (n := 17) (args := [vl0]) Try.func26 rfl rfl (Nat.le_of_ble_eq_true rfl) fun a hf => ?_
  replace hf : Fr 17 a [(0, vl0)] := hf
  refine wp_mono (Q := fun e a w => e = .ret ∧ ∃ (b0 : Nat) (b1 : Nat), Fr 17 a [(2, .complex .f64 b0 b1)] ∧ Fl.rep b0 r.1 ∧ Fl.rep b1 r.2 ∧ Hp S w0 w (ow)) ?_ ?_
  rotate_left
  · rintro e a w ⟨rfl, x0, x1, hf, y0, y1, hp⟩
    exact ret1 hf rfl rfl ⟨x0, x1, rfl, y0, y1, hp⟩
  refine wp_seq ?_
  refine wp_reg ?_
  refine st_assign hf rfl rfl (by decide) ?_
  clear hf; intro a ha hf; clear ha
  refine st_nil hf ?_
  refine th_n ?_
  refine wp_seq ?_
  refine wp_reg ?_
  refine st_assign hf rfl rfl (by decide) ?_
  clear hf; intro a ha hf; clear ha
  refine st_nil hf ?_
  refine th_n ?_
  refine wp_seq ?_
  refine wp_seq ?_
  refine wp_reg ?_
  refine st_move hf rfl rfl (by decide) ?_
  clear hf; intro a ha hf; clear ha
  refine st_len (E := Ek.c128) hf (by decide) Try.underlying41 rfl rfl (hl0.sl hp) ?_
  clear hf; intro a ha hf; clear ha
  refine st_move hf rfl rfl (by decide) ?_
  clear hf; intro a ha hf; clear ha
  refine st_nil hf ?_
  refine th_n ?_
  refine wp_block ?_
  obtain ⟨q18, hl, h⟩ := bnd h
  refine wp_loop_pure (f := (f_plane_Sum.s1 l0)) (s := ((Fl.bits 0, Fl.bits 0), (0 : Int))) (fun s a w => ∃ (bb1 : Nat) (bb2 : Nat), Fr 17 a [(3, .complex .f64 bb1 bb2), (6, vl0), (7, .int .i64 (l0.length : Int)), (8, .int .i64 s.2)] ∧ Fl.rep bb1 s.1.1 ∧ Fl.rep bb2 s.1.2 ∧ Hp S w0 w (ow)) (fun q e a w => e = .exit 0 ∧ ∃ (bb5 : Nat) (bb6 : Nat), Fr 17 a [(3, .complex .f64 bb5 bb6)] ∧ Fl.rep bb5 q.1 ∧ Fl.rep bb6 q.2 ∧ Hp S w0 w (ow)) ?_ hl ⟨_, _, hf.sub ⟨rfl, rfl, rfl, rfl, trivial⟩, rfl, rfl, hp⟩ ?_
  · clear hl hf hp
    intro s x a w h hI
    obtain ⟨sx3, t8⟩ := s
    obtain ⟨bb1, bb2, hf, y3, y4, hp⟩ : ∃ (bb1 : Nat) (bb2 : Nat), Fr 17 a [(3, .complex .f64 bb1 bb2), (6, vl0), (7, .int .i64 (l0.length : Int)), (8, .int .i64 t8)] ∧ Fl.rep bb1 sx3.1 ∧ Fl.rep bb2 sx3.2 ∧ Hp S w0 w (ow) := hI
    replace h : f_plane_Sum.s1c l0 sx3 t8 = some x := h
    unfold f_plane_Sum.s1c at h
    refine wp_seq ?_
    refine wp_reg ?_
    refine st_ilss hf (by decide) rfl rfl rfl ?_
    clear hf; intro a ha hf; clear ha
    refine st_nil hf ?_
    refine th_n ?_
    refine wp_seq ?_
    refine wp_if hf rfl (fun hb => ?_) (fun hb => ?_)
    · replace h := ifT h hb
      refine wp_skip ?_
      refine th_n ?_
      refine wp_seq ?_
      refine wp_block ?_
      refine wp_seq ?_
      refine wp_reg ?_
      obtain ⟨hc9, h⟩ := chk h
      refine st_index (E := Ek.c128) hf (by decide) Try.underlying41 elt24 rfl rfl rfl (hl0.sl hp) hc9.1 hc9.2 ?_
      clear hf; intro a ha hf; clear ha
      refine st_ldC hf (by decide) pl24 rfl rfl (hl0.sl hp) hc9.1 hc9.2 ?_
      clear hf; intro a bb10 bb11 y12 y13 ha hf; clear ha
      refine st_assign hf rfl rfl (by decide) ?_
      clear hf; intro a ha hf; clear ha
      refine st_nil hf ?_
      refine th_n ?_
      refine wp_reg ?_
      refine st_move hf rfl rfl (by decide) ?_
      clear hf; intro a ha hf; clear ha
      refine st_move hf rfl rfl (by decide) ?_
      clear hf; intro a ha hf; clear ha
      refine st_carith (op := .add) (zx := sx3) (zy := (gt l0 t8)) rfl hf (by decide) hp rfl rfl rfl y3 y4 y12 y13 ?_
      clear hf; intro a w bb14 bb15 y16 y17 hf hp0; clear hp; have hp := hp0; clear hp0
      replace hp : Hp _ _ _ (ow) := hp
      refine st_assign hf rfl rfl (by decide) ?_
      clear hf; intro a ha hf; clear ha
      refine st_nil hf ?_
      refine ib_n ?_
      refine th_n ?_
      refine wp_reg ?_
      refine st_iadd hf (by decide) rfl rfl rfl ?_
      clear hf; intro a ha hf; clear ha
      refine st_move hf rfl rfl (by decide) ?_
      clear hf; intro a ha hf; clear ha
      refine st_nil hf ?_
      obtain rfl := Option.some.inj h
      exact rnd_l ⟨_, _, hf.sub ⟨rfl, rfl, rfl, rfl, trivial⟩, y16, y17, hp⟩
    replace h := ifF h hb
    refine wp_exit ?_
    refine th_e ?_
    obtain rfl := Option.some.inj h
    exact rnd_r (by simp) ⟨rfl, _, _, hf.sub ⟨rfl, trivial⟩, y3, y4, hp⟩
  clear hl hf hp
  intro e a w hne hO
  obtain ⟨rfl, bb5, bb6, hf, y7, y8, hp⟩ := hO
  refine ib_same ?_
  refine th_n ?_
  refine wp_seq ?_
  refine wp_reg ?_
  refine st_move hf rfl rfl (by decide) ?_
  clear hf; intro a ha hf; clear ha
  refine st_assign hf rfl rfl (by decide) ?_
  clear hf; intro a ha hf; clear ha
  refine st_nil hf ?_
  refine th_n ?_
  refine wp_ret ?_
  obtain rfl := Option.some.inj h
  exact ⟨rfl, ⟨_, _, hf.sub ⟨rfl, trivial⟩, y7, y8, hp⟩⟩

noncomputable def f_plane_Turn (zx0 : (Fl × Fl)) (quarters1 : Int) : Option (Fl × Fl) := (if ((iand .i64 quarters1 (3 : Int)) == (1 : Int)) = true then (some ((fneg zx0.2), zx0.1)) else (if ((iand .i64 quarters1 (3 : Int)) == (2 : Int)) = true then (some ((fneg zx0.1), (fneg zx0.2))) else (if ((iand .i64 quarters1 (3 : Int)) == (3 : Int)) = true then (some (zx0.2, (fneg zx0.1))) else (some zx0))))
theorem f_plane_Turn_c {S : Nat → Prop} {w0 w : World} {ow : List Res} (hp : Hp S w0 w ow) (bzx0 czx0 : Nat) (zx0 : Fl × Fl) (hzx0 : zx0.1.rep bzx0) (kzx0 : zx0.2.rep czx0) (quarters1 : Int) {r : (Fl × Fl)} (h : f_plane_Turn zx0 quarters1 = some r) :
    Calls Try.prog 15 #[.complex .f64 bzx0 czx0, .int .i64 quarters1] w (fun e w' => ∃ (b0 : Nat) (b1 : Nat), e = .returned (.complex .f64 b0 b1) ∧ Fl.rep b0 r.1 ∧ Fl.rep b1 r.2 ∧ Hp S w0 w' (ow)) := by
  unfold f_plane_Turn at h
  refine enter (n := 33) (args := [.complex .f64 bzx0 czx0, .int .i64 quarters1]) Try.func15 rfl rfl (Nat.le_of_ble_eq_true rfl) fun a hf => ?_
  replace hf : Fr 33 a [(0, .complex .f64 bzx0 czx0), (1, .int .i64 quarters1)] := hf
  refine wp_mono (Q := fun e a w => e = .ret ∧ ∃ (b0 : Nat) (b1 : Nat), Fr 33 a [(4, .complex .f64 b0 b1)] ∧ Fl.rep b0 r.1 ∧ Fl.rep b1 r.2 ∧ Hp S w0 w (ow)) ?_ ?_
  rotate_left
  · rintro e a w ⟨rfl, x0, x1, hf, y0, y1, hp⟩
    exact ret1 hf rfl rfl ⟨x0, x1, rfl, y0, y1, hp⟩
  refine wp_seq ?_
  refine wp_reg ?_
  refine st_assign hf rfl rfl (by decide) ?_
  clear hf; intro a ha hf; clear ha
  refine st_nil hf ?_
  refine th_n ?_
  refine wp_seq ?_
  refine wp_seq ?_
  refine wp_reg ?_
  refine st_move hf rfl rfl (by decide) ?_
  clear hf; intro a ha hf; clear ha
  refine st_iand hf (by decide) rfl rfl rfl ?_
  clear hf; intro a ha hf; clear ha
  refine st_nil hf ?_
  refine th_n ?_
  refine wp_block ?_
  refine wp_seq ?_
  refine wp_reg ?_
  refine st_ieql hf (by decide) rfl rfl rfl ?_
  clear hf; intro a ha hf; clear ha
  refine st_assign hf rfl rfl (by decide) ?_
  clear hf; intro a ha hf; clear ha
  refine st_nil hf ?_
  refine th_n ?_
  refine wp_if hf rfl (fun hb => ?_) (fun hb => ?_)
  · replace h := ifT h hb
    refine wp_seq ?_
    refine wp_reg ?_
    refine st_move hf rfl rfl (by decide) ?_
    clear hf; intro a ha hf; clear ha
    refine st_imag hf (by decide) rfl rfl ?_
    clear hf; intro a ha hf; clear ha
    refine st_fneg hf (by decide) rfl rfl ?_
    clear hf; intro a ha hf; clear ha
    refine st_move hf rfl rfl (by decide) ?_
    clear hf; intro a ha hf; clear ha
    refine st_real hf (by decide) rfl rfl ?_
    clear hf; intro a ha hf; clear ha
    refine st_complex hf (by decide) rfl rfl rfl ?_
    clear hf; intro a ha hf; clear ha
    refine st_assign hf rfl rfl (by decide) ?_
    clear hf; intro a ha hf; clear ha
    refine st_nil hf ?_
    refine th_n ?_
    refine wp_ret ?_
    refine ib_r ?_
    refine th_r ?_
    obtain rfl := Option.some.inj h
    exact ⟨rfl, ⟨_, _, hf.sub ⟨rfl, trivial⟩, (fneg_rep kzx0), hzx0, hp⟩⟩
  replace h := ifF h hb
  refine wp_seq ?_
  refine wp_reg ?_
  refine st_ieql hf (by decide) rfl rfl rfl ?_
  clear hf; intro a ha hf; clear ha
  refine st_assign hf rfl rfl (by decide) ?_
  clear hf; intro a ha hf; clear ha
  refine st_nil hf ?_
  refine th_n ?_
  refine wp_if hf rfl (fun hb => ?_) (fun hb => ?_)
  · replace h := ifT h hb
    refine wp_seq ?_
    refine wp_reg ?_
    refine st_move hf rfl rfl (by decide) ?_
    clear hf; intro a ha hf; clear ha
    refine st_real hf (by decide) rfl rfl ?_
    clear hf; intro a ha hf; clear ha
    refine st_fneg hf (by decide) rfl rfl ?_
    clear hf; intro a ha hf; clear ha
    refine st_move hf rfl rfl (by decide) ?_
    clear hf; intro a ha hf; clear ha
    refine st_imag hf (by decide) rfl rfl ?_
    clear hf; intro a ha hf; clear ha
    refine st_fneg hf (by decide) rfl rfl ?_
    clear hf; intro a ha hf; clear ha
    refine st_complex hf (by decide) rfl rfl rfl ?_
    clear hf; intro a ha hf; clear ha
    refine st_assign hf rfl rfl (by decide) ?_
    clear hf; intro a ha hf; clear ha
    refine st_nil hf ?_
    refine th_n ?_
    refine wp_ret ?_
    refine ib_r ?_
    refine th_r ?_
    obtain rfl := Option.some.inj h
    exact ⟨rfl, ⟨_, _, hf.sub ⟨rfl, trivial⟩, (fneg_rep hzx0), (fneg_rep kzx0), hp⟩⟩
  replace h := ifF h hb
  refine wp_seq ?_
  refine wp_reg ?_
  refine st_ieql hf (by decide) rfl rfl rfl ?_
  clear hf; intro a ha hf; clear ha
  refine st_assign hf rfl rfl (by decide) ?_
  clear hf; intro a ha hf; clear ha
  refine st_nil hf ?_
  refine th_n ?_
  refine wp_if hf rfl (fun hb => ?_) (fun hb => ?_)
  · replace h := ifT h hb
    refine wp_seq ?_
    refine wp_reg ?_
    refine st_move hf rfl rfl (by decide) ?_
    clear hf; intro a ha hf; clear ha
    refine st_imag hf (by decide) rfl rfl ?_
    clear hf; intro a ha hf; clear ha
    refine st_move hf rfl rfl (by decide) ?_
    clear hf; intro a ha hf; clear ha
    refine st_real hf (by decide) rfl rfl ?_
    clear hf; intro a ha hf; clear ha
    refine st_fneg hf (by decide) rfl rfl ?_
    clear hf; intro a ha hf; clear ha
    refine st_complex hf (by decide) rfl rfl rfl ?_
    clear hf; intro a ha hf; clear ha
    refine st_assign hf rfl rfl (by decide) ?_
    clear hf; intro a ha hf; clear ha
    refine st_nil hf ?_
    refine th_n ?_
    refine wp_ret ?_
    refine ib_r ?_
    refine th_r ?_
    obtain rfl := Option.some.inj h
    exact ⟨rfl, ⟨_, _, hf.sub ⟨rfl, trivial⟩, kzx0, (fneg_rep hzx0), hp⟩⟩
  replace h := ifF h hb
  refine wp_skip ?_
  refine ib_n ?_
  refine th_n ?_
  refine wp_seq ?_
  refine wp_reg ?_
  refine st_move hf rfl rfl (by decide) ?_
  clear hf; intro a ha hf; clear ha
  refine st_assign hf rfl rfl (by decide) ?_
  clear hf; intro a ha hf; clear ha
  refine st_nil hf ?_
  refine th_n ?_
  refine wp_ret ?_
  obtain rfl := Option.some.inj h
  exact ⟨rfl, ⟨_, _, hf.sub ⟨rfl, trivial⟩, hzx0, kzx0, hp⟩⟩

noncomputable def f_foghornlaw03_awake  : Option Bool := ((f_plane_Gauss_Class (3 : Int) (2 : Int) (3 : Int)).bind fun q1 => ((f_plane_Mul (Fl.bits 4607182418800017408, Fl.bits 4611686018427387904) (Fl.bits 4613937818241073152, Fl.bits 13830554455654793216)).bind fun q3 => ((if (ceq q3 (Fl.bits 4617315517961601024, Fl.bits 4617315517961601024)) = true then ((f_plane_Turn (Fl.bits 4607182418800017408, Fl.bits 4611686018427387904) (1 : Int)).bind fun q12 => (some (ceq q12 (Fl.bits 13835058055282163712, Fl.bits 4607182418800017408)))) else (some false)).bind fun z11 => (some ((z11 && (q1.2 == (0 : Int))) && (q1.1 == (1 : Int)))))))
theorem f_foghornlaw03_awake_c {S : Nat → Prop} {w0 w : World} {ow : List Res} (hp : Hp S w0 w ow) {r : Bool} (h : f_foghornlaw03_awake = some r) :
    Calls Try.prog 24 #[] w (fun e w' => e = .returned (.bool r) ∧ Hp S w0 w' (ow)) := by
  unfold f_foghornlaw03_awake at h
  refine enter (n := 22) (args := []) Try.func24 rfl rfl (Nat.le_of_ble_eq_true rfl) fun a hf => ?_
  replace hf : Fr 22 a [] := hf
  refine wp_mono (Q := fun e a w => e = .ret ∧ Fr 22 a [(0, .bool r)] ∧ Hp S w0 w (ow)) ?_ ?_
  rotate_left
  · rintro e a w ⟨rfl, hf, hp⟩
    exact ret1 hf rfl rfl ⟨rfl, hp⟩
  refine wp_seq ?_
  refine wp_reg ?_
  refine st_assign hf rfl rfl (by decide) ?_
  clear hf; intro a ha hf; clear ha
  refine st_nil hf ?_
  refine th_n ?_
  refine wp_seq ?_
  refine wp_reg ?_
  refine st_buildA (vals := [(0, .int .i64 (3 : Int)), (1, .int .i64 (2 : Int))]) (cells := [.int .i64 (3 : Int), .int .i64 (2 : Int)]) hf (by decide) rfl (by simp [hf.ev (x := (Operand.const (.int .i64 (3 : Int)))) rfl, hf.ev (x := (Operand.const (.int .i64 (2 : Int)))) rfl]) (fun w => by kernel_rfl) ?_
  clear hf; intro a ha hf; clear ha
  obtain ⟨q1, hcall2, h⟩ := bnd h
  refine st_call hf (by decide) Try.func36 rfl rfl rfl rfl rfl (f_plane_Gauss_Class_c hp _ _ _ hcall2) ?_
  rintro _ w ⟨rfl, hp0⟩
  clear hp; have hp := hp0; clear hp0
  replace hp : Hp _ _ _ (ow) := hp
  refine ⟨_, rfl, ?_⟩
  clear hf; intro a hf
  refine st_move hf rfl rfl (by decide) ?_
  clear hf; intro a ha hf; clear ha
  refine st_extract hf (by decide) rfl rfl rfl ?_
  clear hf; intro a ha hf; clear ha
  refine st_extract hf (by decide) rfl rfl rfl ?_
  clear hf; intro a ha hf; clear ha
  refine st_assign hf rfl rfl (by decide) ?_
  clear hf; intro a ha hf; clear ha
  refine st_assign hf rfl rfl (by decide) ?_
  clear hf; intro a ha hf; clear ha
  refine st_nil hf ?_
  refine th_n ?_
  refine wp_seq ?_
  refine wp_reg ?_
  obtain ⟨q3, hcall4, h⟩ := bnd h
  refine st_call hf (by decide) Try.func13 rfl rfl rfl rfl rfl (f_plane_Mul_c hp _ _ _ (show Fl.rep 4607182418800017408 ((Fl.bits 4607182418800017408, Fl.bits 4611686018427387904)).1 from rfl) (show Fl.rep 4611686018427387904 ((Fl.bits 4607182418800017408, Fl.bits 4611686018427387904)).2 from rfl) _ _ _ (show Fl.rep 4613937818241073152 ((Fl.bits 4613937818241073152, Fl.bits 13830554455654793216)).1 from rfl) (show Fl.rep 13830554455654793216 ((Fl.bits 4613937818241073152, Fl.bits 13830554455654793216)).2 from rfl) hcall4) ?_
  rintro _ w ⟨v5, v6, rfl, y7, y8, hp0⟩
  clear hp; have hp := hp0; clear hp0
  replace hp : Hp _ _ _ (ow) := hp
  refine ⟨_, rfl, ?_⟩
  clear hf; intro a hf
  refine st_ccmp (r_ceq (x := q3) (y := (Fl.bits 4617315517961601024, Fl.bits 4617315517961601024)) y7 y8 rfl rfl) hf (by decide) rfl rfl rfl ?_
  clear hf; intro a ha hf; clear ha
  refine st_move hf rfl rfl (by decide) ?_
  clear hf; intro a ha hf; clear ha
  obtain ⟨z11, hz9, h⟩ := bnd h
  refine wpList_cut 3 (fun a w => Fr 22 a [(1, .int .u32 q1.1), (2, .int .i64 q1.2), (13, .bool z11)] ∧ Hp S w0 w (ow)) ?_ ?_
  · rcases Bool.eq_false_or_eq_true (ceq q3 (Fl.bits 4617315517961601024, Fl.bits 4617315517961601024)) with hb10 | hb10
    · skip
      replace hz9 := ifT hz9 hb10
      obtain ⟨q12, hcall13, hz9⟩ := bnd hz9
      refine st_call hf (by decide) Try.func15 rfl rfl (wantY hf rfl rfl hb10) rfl rfl (f_plane_Turn_c hp _ _ _ (show Fl.rep 4607182418800017408 ((Fl.bits 4607182418800017408, Fl.bits 4611686018427387904)).1 from rfl) (show Fl.rep 4611686018427387904 ((Fl.bits 4607182418800017408, Fl.bits 4611686018427387904)).2 from rfl) _ hcall13) ?_
      rintro _ w ⟨v14, v15, rfl, y16, y17, hp0⟩
      clear hp; have hp := hp0; clear hp0
      replace hp : Hp _ _ _ (ow) := hp
      refine ⟨_, rfl, ?_⟩
      clear hf; intro a hf
      refine st_ccmp (r_ceq (x := q12) (y := (Fl.bits 13835058055282163712, Fl.bits 4607182418800017408)) y16 y17 rfl rfl) hf (by decide) (wantY hf rfl rfl hb10) rfl rfl ?_
      clear hf; intro a ha hf; clear ha
      obtain rfl := Option.some.inj hz9
      refine st_pick (v := .bool (ceq q12 (Fl.bits 13835058055282163712, Fl.bits 4607182418800017408))) hf rfl rfl (fun hb' => ?_) (fun hb' => ?_) (by decide) ?_
      · rfl
      · exact absurd (hb10.symm.trans hb') (by decide)
      clear hf; intro a ha hf; clear ha
      refine st_nil hf (th_n ?_)
      exact ⟨hf.sub ⟨rfl, rfl, rfl, trivial⟩, hp⟩
    replace hz9 := ifF hz9 hb10
    refine st_skip hf (wantN hf rfl rfl hb10) rfl (by decide) ?_ rfl
    clear hf; intro a hf
    refine st_skip hf (wantN hf rfl rfl hb10) rfl (by decide) ?_ rfl
    clear hf; intro a hf
    obtain rfl := Option.some.inj hz9
    refine st_pick (v := .bool false) hf rfl rfl (fun hb' => ?_) (fun hb' => ?_) (by decide) ?_
    · exact absurd (hb10.symm.trans hb') (by decide)
    · rfl
    clear hf; intro a ha hf; clear ha
    refine st_nil hf (th_n ?_)
    exact ⟨hf.sub ⟨rfl, rfl, rfl, trivial⟩, hp⟩
  rintro a w ⟨hf, hp⟩
  refine st_move hf rfl rfl (by decide) ?_
  clear hf; intro a ha hf; clear ha
  refine wpList_cut 3 (fun a w => Fr 22 a [(1, .int .u32 q1.1), (17, .bool (z11 && (q1.2 == (0 : Int))))] ∧ Hp S w0 w (ow)) ?_ ?_
  · rcases Bool.eq_false_or_eq_true z11 with hb19 | hb19
    · skip
      refine st_move hf (wantY hf rfl rfl hb19) rfl (by decide) ?_
      clear hf; intro a ha hf; clear ha
      refine st_ieql hf (by decide) (wantY hf rfl rfl hb19) rfl rfl ?_
      clear hf; intro a ha hf; clear ha
      refine st_pick (v := .bool (q1.2 == (0 : Int))) hf rfl rfl (fun hb' => ?_) (fun hb' => ?_) (by decide) ?_
      · rfl
      · exact absurd (hb19.symm.trans hb') (by decide)
      clear hf; intro a ha hf; clear ha
      refine st_nil hf (th_n ?_)
      exact ⟨hf.sub ⟨rfl, (by rw [hb19]; rfl), trivial⟩, hp⟩
    refine st_skip hf (wantN hf rfl rfl hb19) rfl (by decide) ?_ rfl
    clear hf; intro a hf
    refine st_skip hf (wantN hf rfl rfl hb19) rfl (by decide) ?_ rfl
    clear hf; intro a hf
    refine st_pick (v := .bool false) hf rfl rfl (fun hb' => ?_) (fun hb' => ?_) (by decide) ?_
    · exact absurd (hb19.symm.trans hb') (by decide)
    · rfl
    clear hf; intro a ha hf; clear ha
    refine st_nil hf (th_n ?_)
    exact ⟨hf.sub ⟨rfl, (by rw [hb19]; rfl), trivial⟩, hp⟩
  rintro a w ⟨hf, hp⟩
  refine st_move hf rfl rfl (by decide) ?_
  clear hf; intro a ha hf; clear ha
  refine wpList_cut 3 (fun a w => Fr 22 a [(21, .bool ((z11 && (q1.2 == (0 : Int))) && (q1.1 == (1 : Int))))] ∧ Hp S w0 w (ow)) ?_ ?_
  · rcases Bool.eq_false_or_eq_true (z11 && (q1.2 == (0 : Int))) with hb21 | hb21
    · skip
      refine st_move hf (wantY hf rfl rfl hb21) rfl (by decide) ?_
      clear hf; intro a ha hf; clear ha
      refine st_ieql hf (by decide) (wantY hf rfl rfl hb21) rfl rfl ?_
      clear hf; intro a ha hf; clear ha
      refine st_pick (v := .bool (q1.1 == (1 : Int))) hf rfl rfl (fun hb' => ?_) (fun hb' => ?_) (by decide) ?_
      · rfl
      · exact absurd (hb21.symm.trans hb') (by decide)
      clear hf; intro a ha hf; clear ha
      refine st_nil hf (th_n ?_)
      exact ⟨hf.sub ⟨(by rw [hb21]; rfl), trivial⟩, hp⟩
    refine st_skip hf (wantN hf rfl rfl hb21) rfl (by decide) ?_ rfl
    clear hf; intro a hf
    refine st_skip hf (wantN hf rfl rfl hb21) rfl (by decide) ?_ rfl
    clear hf; intro a hf
    refine st_pick (v := .bool false) hf rfl rfl (fun hb' => ?_) (fun hb' => ?_) (by decide) ?_
    · exact absurd (hb21.symm.trans hb') (by decide)
    · rfl
    clear hf; intro a ha hf; clear ha
    refine st_nil hf (th_n ?_)
    exact ⟨hf.sub ⟨(by rw [hb21]; rfl), trivial⟩, hp⟩
  rintro a w ⟨hf, hp⟩
  refine st_assign hf rfl rfl (by decide) ?_
  clear hf; intro a ha hf; clear ha
  refine st_nil hf ?_
  refine th_n ?_
  refine wp_ret ?_
  obtain rfl := Option.some.inj h
  exact ⟨rfl, ⟨hf.sub ⟨rfl, trivial⟩, hp⟩⟩

end Go.Proofs.Yteifkccomfdciaa
