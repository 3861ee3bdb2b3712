/- The functions foghorn foghorntop.TopLinear: what each answers, as a plain function, and that its call answers it; printed by gen.py. -/
import Derived.Test.YtgdhjjdgghilhaaProg
import Derived.Test.YtgdhjjdgghilhaaGlUf
import Derived.KernelRfl
import Derived.Test.YtgdhjjdgghilhaaG1p3
set_option linter.unusedVariables false
set_option linter.unusedSimpArgs false
set_option maxRecDepth 100000
set_option maxHeartbeats 4000000
namespace Go.Proofs.Ytgdhjjdgghilhaa
open GL
noncomputable def f_pulse_Check.s1c (p0_Rate : Int) (p0_Fore : Int) (p0_Taps : (List Fl)) (sum3 : Fl) (t43 : Int) : Option ((Fl × Int) ⊕ (Fl ⊕ Int)) := (if (decide (t43 < (p0_Taps.length : Int))) = true then (if 0 ≤ t43 ∧ t43 < (p0_Taps.length : Int) then ((f_pulse_plain (gt p0_Taps t43) (Fl.bits 4607182418800017408)).bind fun q22 => ((if (!q22) = true then (some true) else ((if (t43 != p0_Fore) = true then (if p0_Rate ≠ 0 then (some ((((IntKind.i64.wrap (t43 - p0_Fore))).tmod p0_Rate) == (0 : Int))) else none) else (some false)).bind fun z29 => (some (z29 && (fne (gt p0_Taps t43) (Fl.bits 0)))))).bind fun z26 => (if z26 = true then (some (Sum.inr (Sum.inr (8 : Int)))) else ((f_math_Abs (gt p0_Taps t43)).bind fun q33 => (some (Sum.inl ((fadd sum3 q33), (IntKind.i64.wrap (t43 + (1 : Int)))))))))) else none) else (some (Sum.inr (Sum.inl sum3))))
noncomputable def f_pulse_Check.s1 (p0_Rate : Int) (p0_Fore : Int) (p0_Taps : (List Fl)) (s : (Fl × Int)) : Option ((Fl × Int) ⊕ (Fl ⊕ Int)) := f_pulse_Check.s1c p0_Rate p0_Fore p0_Taps s.1 s.2
noncomputable def f_pulse_Check (p0_Rate : Int) (p0_Fore : Int) (p0_Taps : (List Fl)) : Option Int := (if ((((decide (p0_Rate < (1 : Int))) || (decide ((8 : Int) < p0_Rate))) || (decide (p0_Fore < (0 : Int)))) || (decide ((p0_Taps.length : Int) ≤ p0_Fore))) = true then (some (1 : Int)) else ((if (decide ((64 : Int) < (p0_Taps.length : Int))) = true then (some true) else (if 0 ≤ p0_Fore ∧ p0_Fore < (p0_Taps.length : Int) then (some (fne (gt p0_Taps p0_Fore) (Fl.bits 4607182418800017408))) else none)).bind fun z11 => (if z11 = true then (some (8 : Int)) else ((loop (f_pulse_Check.s1 p0_Rate p0_Fore p0_Taps) ((Fl.bits 0), (0 : Int))).bind (fun q39 => sm q39 (fun q40 => (if (fgt q40 (Fl.bits 4616189618054758400)) = true then (some (8 : Int)) else (some (0 : Int)))) (fun q41 => (some q41)))))))
theorem f_pulse_Check_c {S : Nat → Prop} {w0 w : World} {ow : List Res} (hp : Hp S w0 w ow) (p0_Rate : Int) (p0_Fore : Int) (vp0_Taps : Value) (p0_Taps : (List Fl)) (hp0_Taps : RdS Ek.f64 S w0 vp0_Taps p0_Taps) {r : Int} (h : f_pulse_Check p0_Rate p0_Fore p0_Taps = some r) :
    Calls Try.prog 36 #[.agg #[.int .i64 p0_Rate, .int .i64 p0_Fore, vp0_Taps]] w (fun e w' => e = .returned (.int .i64 r) ∧ Hp S w0 w' (ow)) := by
  unfold f_pulse_Check at h
  refine enter (n := 78) (args := [.agg #[.int .i64 p0_Rate, .int .i64 p0_Fore, vp0_Taps]]) Try.func36 rfl rfl (Nat.le_of_ble_eq_true rfl) fun a hf => ?_
  replace hf : Fr 78 a [(0, .agg #[.int .i64 p0_Rate, .int .i64 p0_Fore, vp0_Taps])] := hf
  refine wp_mono (Q := fun e a w => e = .ret ∧ Fr 78 a [(2, .int .i64 r)] ∧ Hp S w0 w (ow)) ?_ ?_
  rotate_left
  · rintro e a w ⟨rfl, hf, hp⟩
    exact ret1 hf rfl rfl ⟨rfl, hp⟩
  refine wp_seq ?_
  refine wp_reg ?_
  refine st_boxO (cs := [.int .i64 p0_Rate, .int .i64 p0_Fore, vp0_Taps]) hf (by decide) hp rfl rfl rfl ?_
  clear hf; intro a w v1 hf hp0; clear hp; have hp := hp0; clear hp0
  replace hp : Hp _ _ _ (Res.obj 28 v1 [.int .i64 p0_Rate, .int .i64 p0_Fore, vp0_Taps] :: ow) := hp
  refine st_assign hf rfl rfl (by decide) ?_
  clear hf; intro a ha hf; clear ha
  refine st_nil hf ?_
  refine th_n ?_
  refine wp_seq ?_
  refine wp_seq ?_
  refine wp_reg ?_
  refine st_fa (o' := 0) hf (by decide) (off := 0) (sz := 1) (by kernel_rfl) (by decide) rfl rfl (hp.ob (i := 0) rfl) rfl ?_
  clear hf; intro a ha hf; clear ha
  refine st_ldO (u := .int .i64 p0_Rate) hf (by decide) pl3 rfl rfl (hp.ob (i := 0) rfl) rfl ?_
  clear hf; intro a ha hf; clear ha
  refine st_ilss hf (by decide) rfl rfl rfl ?_
  clear hf; intro a ha hf; clear ha
  refine st_move hf rfl rfl (by decide) ?_
  clear hf; intro a ha hf; clear ha
  refine wpList_cut 4 (fun a w => Fr 78 a [(1, optr v1 0), (13, .bool ((decide (p0_Rate < (1 : Int))) || (decide ((8 : Int) < p0_Rate))))] ∧ Hp S w0 w (Res.obj 28 v1 [.int .i64 p0_Rate, .int .i64 p0_Fore, vp0_Taps] :: ow)) ?_ ?_
  · rcases Bool.eq_false_or_eq_true (decide (p0_Rate < (1 : Int))) with hb4 | hb4
    · skip
      refine st_skip hf (wantN hf rfl rfl hb4) rfl (by decide) ?_ rfl
      clear hf; intro a hf
      refine st_skip hf (wantN hf rfl rfl hb4) rfl (by decide) ?_ rfl
      clear hf; intro a hf
      refine st_skip hf (wantN hf rfl rfl hb4) rfl (by decide) ?_ rfl
      clear hf; intro a hf
      refine st_pick (v := .bool true) hf rfl rfl (fun hb' => ?_) (fun hb' => ?_) (by decide) ?_
      · rfl
      · exact absurd (hb4.symm.trans hb') (by decide)
      clear hf; intro a ha hf; clear ha
      refine st_nil hf (th_n ?_)
      exact ⟨hf.sub ⟨rfl, (by rw [hb4]; rfl), trivial⟩, hp⟩
    refine st_fa (o' := 0) hf (by decide) (off := 0) (sz := 1) (by kernel_rfl) (by decide) (wantY hf rfl rfl hb4) rfl (hp.ob (i := 0) rfl) rfl ?_
    clear hf; intro a ha hf; clear ha
    refine st_ldO (u := .int .i64 p0_Rate) hf (by decide) pl3 (wantY hf rfl rfl hb4) rfl (hp.ob (i := 0) rfl) rfl ?_
    clear hf; intro a ha hf; clear ha
    refine st_igtr hf (by decide) (wantY hf rfl rfl hb4) rfl rfl ?_
    clear hf; intro a ha hf; clear ha
    refine st_pick (v := .bool (decide ((8 : Int) < p0_Rate))) hf rfl rfl (fun hb' => ?_) (fun hb' => ?_) (by decide) ?_
    · exact absurd (hb4.symm.trans hb') (by decide)
    · rfl
    clear hf; intro a ha hf; clear ha
    refine st_nil hf (th_n ?_)
    exact ⟨hf.sub ⟨rfl, (by rw [hb4]; rfl), trivial⟩, hp⟩
  rintro a w ⟨hf, hp⟩
  refine st_move hf rfl rfl (by decide) ?_
  clear hf; intro a ha hf; clear ha
  refine wpList_cut 4 (fun a w => Fr 78 a [(1, optr v1 0), (18, .bool (((decide (p0_Rate < (1 : Int))) || (decide ((8 : Int) < p0_Rate))) || (decide (p0_Fore < (0 : Int)))))] ∧ Hp S w0 w (Res.obj 28 v1 [.int .i64 p0_Rate, .int .i64 p0_Fore, vp0_Taps] :: ow)) ?_ ?_
  · rcases Bool.eq_false_or_eq_true ((decide (p0_Rate < (1 : Int))) || (decide ((8 : Int) < p0_Rate))) with hb6 | hb6
    · skip
      refine st_skip hf (wantN hf rfl rfl hb6) rfl (by decide) ?_ rfl
      clear hf; intro a hf
      refine st_skip hf (wantN hf rfl rfl hb6) rfl (by decide) ?_ rfl
      clear hf; intro a hf
      refine st_skip hf (wantN hf rfl rfl hb6) rfl (by decide) ?_ rfl
      clear hf; intro a hf
      refine st_pick (v := .bool true) hf rfl rfl (fun hb' => ?_) (fun hb' => ?_) (by decide) ?_
      · rfl
      · exact absurd (hb6.symm.trans hb') (by decide)
      clear hf; intro a ha hf; clear ha
      refine st_nil hf (th_n ?_)
      exact ⟨hf.sub ⟨rfl, (by rw [hb6]; rfl), trivial⟩, hp⟩
    refine st_fa (o' := 1) hf (by decide) (off := 1) (sz := 1) (by kernel_rfl) (by decide) (wantY hf rfl rfl hb6) rfl (hp.ob (i := 0) rfl) rfl ?_
    clear hf; intro a ha hf; clear ha
    refine st_ldO (u := .int .i64 p0_Fore) hf (by decide) pl3 (wantY hf rfl rfl hb6) rfl (hp.ob (i := 0) rfl) rfl ?_
    clear hf; intro a ha hf; clear ha
    refine st_ilss hf (by decide) (wantY hf rfl rfl hb6) rfl rfl ?_
    clear hf; intro a ha hf; clear ha
    refine st_pick (v := .bool (decide (p0_Fore < (0 : Int)))) hf rfl rfl (fun hb' => ?_) (fun hb' => ?_) (by decide) ?_
    · exact absurd (hb6.symm.trans hb') (by decide)
    · rfl
    clear hf; intro a ha hf; clear ha
    refine st_nil hf (th_n ?_)
    exact ⟨hf.sub ⟨rfl, (by rw [hb6]; rfl), trivial⟩, hp⟩
  rintro a w ⟨hf, hp⟩
  refine st_move hf rfl rfl (by decide) ?_
  clear hf; intro a ha hf; clear ha
  refine wpList_cut 7 (fun a w => Fr 78 a [(1, optr v1 0), (26, .bool ((((decide (p0_Rate < (1 : Int))) || (decide ((8 : Int) < p0_Rate))) || (decide (p0_Fore < (0 : Int)))) || (decide ((p0_Taps.length : Int) ≤ p0_Fore))))] ∧ Hp S w0 w (Res.obj 28 v1 [.int .i64 p0_Rate, .int .i64 p0_Fore, vp0_Taps] :: ow)) ?_ ?_
  · rcases Bool.eq_false_or_eq_true (((decide (p0_Rate < (1 : Int))) || (decide ((8 : Int) < p0_Rate))) || (decide (p0_Fore < (0 : Int)))) with hb8 | hb8
    · skip
      refine st_skip hf (wantN hf rfl rfl hb8) rfl (by decide) ?_ rfl
      clear hf; intro a hf
      refine st_skip hf (wantN hf rfl rfl hb8) rfl (by decide) ?_ rfl
      clear hf; intro a hf
      refine st_skip hf (wantN hf rfl rfl hb8) rfl (by decide) ?_ rfl
      clear hf; intro a hf
      refine st_skip hf (wantN hf rfl rfl hb8) rfl (by decide) ?_ rfl
      clear hf; intro a hf
      refine st_skip hf (wantN hf rfl rfl hb8) rfl (by decide) ?_ rfl
      clear hf; intro a hf
      refine st_skip hf (wantN hf rfl rfl hb8) rfl (by decide) ?_ rfl
      clear hf; intro a hf
      refine st_pick (v := .bool true) hf rfl rfl (fun hb' => ?_) (fun hb' => ?_) (by decide) ?_
      · rfl
      · exact absurd (hb8.symm.trans hb') (by decide)
      clear hf; intro a ha hf; clear ha
      refine st_nil hf (th_n ?_)
      exact ⟨hf.sub ⟨rfl, (by rw [hb8]; rfl), trivial⟩, hp⟩
    refine st_fa (o' := 1) hf (by decide) (off := 1) (sz := 1) (by kernel_rfl) (by decide) (wantY hf rfl rfl hb8) rfl (hp.ob (i := 0) rfl) rfl ?_
    clear hf; intro a ha hf; clear ha
    refine st_ldO (u := .int .i64 p0_Fore) hf (by decide) pl3 (wantY hf rfl rfl hb8) rfl (hp.ob (i := 0) rfl) rfl ?_
    clear hf; intro a ha hf; clear ha
    refine st_fa (o' := 2) hf (by decide) (off := 2) (sz := 1) (by kernel_rfl) (by decide) (wantY hf rfl rfl hb8) rfl (hp.ob (i := 0) rfl) rfl ?_
    clear hf; intro a ha hf; clear ha
    refine st_ldO (u := vp0_Taps) hf (by decide) pl26 (wantY hf rfl rfl hb8) rfl (hp.ob (i := 0) rfl) rfl ?_
    clear hf; intro a ha hf; clear ha
    refine st_len (E := Ek.f64) hf (by decide) Try.underlying26 (wantY hf rfl rfl hb8) rfl (hp0_Taps.sl hp) ?_
    clear hf; intro a ha hf; clear ha
    refine st_igeq hf (by decide) (wantY hf rfl rfl hb8) rfl rfl ?_
    clear hf; intro a ha hf; clear ha
    refine st_pick (v := .bool (decide ((p0_Taps.length : Int) ≤ p0_Fore))) hf rfl rfl (fun hb' => ?_) (fun hb' => ?_) (by decide) ?_
    · exact absurd (hb8.symm.trans hb') (by decide)
    · rfl
    clear hf; intro a ha hf; clear ha
    refine st_nil hf (th_n ?_)
    exact ⟨hf.sub ⟨rfl, (by rw [hb8]; rfl), trivial⟩, hp⟩
  rintro a w ⟨hf, hp⟩
  refine st_nil hf ?_
  refine th_n ?_
  refine wp_if hf rfl (fun hb => ?_) (fun hb => ?_)
  · replace h := ifT h hb
    refine wp_seq ?_
    refine wp_reg ?_
    refine st_assign hf rfl rfl (by decide) ?_
    clear hf; intro a ha hf; clear ha
    refine st_nil hf ?_
    refine th_n ?_
    refine wp_ret ?_
    refine th_r ?_
    obtain rfl := Option.some.inj h
    have hp : Hp _ _ _ (ow) := Hp.sel (pre := [Res.obj 28 v1 [.int .i64 p0_Rate, .int .i64 p0_Fore, vp0_Taps]]) (tail := ow) (rs' := []) hp [] (by decide) (by simp) rfl
    exact ⟨rfl, ⟨hf.sub ⟨rfl, trivial⟩, hp⟩⟩
  replace h := ifF h hb
  refine wp_skip ?_
  refine th_n ?_
  refine wp_seq ?_
  refine wp_seq ?_
  refine wp_reg ?_
  refine st_fa (o' := 2) hf (by decide) (off := 2) (sz := 1) (by kernel_rfl) (by decide) rfl rfl (hp.ob (i := 0) rfl) rfl ?_
  clear hf; intro a ha hf; clear ha
  refine st_ldO (u := vp0_Taps) hf (by decide) pl26 rfl rfl (hp.ob (i := 0) rfl) rfl ?_
  clear hf; intro a ha hf; clear ha
  refine st_len (E := Ek.f64) hf (by decide) Try.underlying26 rfl rfl (hp0_Taps.sl hp) ?_
  clear hf; intro a ha hf; clear ha
  refine st_igtr hf (by decide) rfl rfl rfl ?_
  clear hf; intro a ha hf; clear ha
  refine st_move hf rfl rfl (by decide) ?_
  clear hf; intro a ha hf; clear ha
  obtain ⟨z11, hz9, h⟩ := bnd h
  refine wpList_cut 8 (fun a w => Fr 78 a [(1, optr v1 0), (39, .bool z11)] ∧ Hp S w0 w (Res.obj 28 v1 [.int .i64 p0_Rate, .int .i64 p0_Fore, vp0_Taps] :: ow)) ?_ ?_
  · rcases Bool.eq_false_or_eq_true (decide ((64 : Int) < (p0_Taps.length : Int))) with hb10 | hb10
    · skip
      replace hz9 := ifT hz9 hb10
      refine st_skip hf (wantN hf rfl rfl hb10) rfl (by decide) ?_ rfl
      clear hf; intro a hf
      refine st_skip hf (wantN hf rfl rfl hb10) rfl (by decide) ?_ rfl
      clear hf; intro a hf
      refine st_skip hf (wantN hf rfl rfl hb10) rfl (by decide) ?_ rfl
      clear hf; intro a hf
      refine st_skip hf (wantN hf rfl rfl hb10) rfl (by decide) ?_ rfl
      clear hf; intro a hf
      refine st_skip hf (wantN hf rfl rfl hb10) rfl (by decide) ?_ rfl
      clear hf; intro a hf
      refine st_skip hf (wantN hf rfl rfl hb10) rfl (by decide) ?_ rfl
      clear hf; intro a hf
      refine st_skip hf (wantN hf rfl rfl hb10) rfl (by decide) ?_ rfl
      clear hf; intro a hf
      obtain rfl := Option.some.inj hz9
      refine st_pick (v := .bool true) hf rfl rfl (fun hb' => ?_) (fun hb' => ?_) (by decide) ?_
      · rfl
      · exact absurd (hb10.symm.trans hb') (by decide)
      clear hf; intro a ha hf; clear ha
      refine st_nil hf (th_n ?_)
      exact ⟨hf.sub ⟨rfl, rfl, trivial⟩, hp⟩
    replace hz9 := ifF hz9 hb10
    refine st_fa (o' := 2) hf (by decide) (off := 2) (sz := 1) (by kernel_rfl) (by decide) (wantY hf rfl rfl hb10) rfl (hp.ob (i := 0) rfl) rfl ?_
    clear hf; intro a ha hf; clear ha
    refine st_ldO (u := vp0_Taps) hf (by decide) pl26 (wantY hf rfl rfl hb10) rfl (hp.ob (i := 0) rfl) rfl ?_
    clear hf; intro a ha hf; clear ha
    refine st_fa (o' := 1) hf (by decide) (off := 1) (sz := 1) (by kernel_rfl) (by decide) (wantY hf rfl rfl hb10) rfl (hp.ob (i := 0) rfl) rfl ?_
    clear hf; intro a ha hf; clear ha
    refine st_ldO (u := .int .i64 p0_Fore) hf (by decide) pl3 (wantY hf rfl rfl hb10) rfl (hp.ob (i := 0) rfl) rfl ?_
    clear hf; intro a ha hf; clear ha
    obtain ⟨hc12, hz9⟩ := chk hz9
    refine st_index (E := Ek.f64) hf (by decide) Try.underlying26 elt33 (wantY hf rfl rfl hb10) rfl rfl (hp0_Taps.sl hp) hc12.1 hc12.2 ?_
    clear hf; intro a ha hf; clear ha
    refine st_ldF hf (by decide) pl33 (wantY hf rfl rfl hb10) rfl (hp0_Taps.sl hp) hc12.1 hc12.2 ?_
    clear hf; intro a bb13 y14 ha hf; clear ha
    refine st_fcmp (r_fne (fx := (gt p0_Taps p0_Fore)) (fy := (Fl.bits 4607182418800017408)) y14 rfl) hf (by decide) (wantY hf rfl rfl hb10) rfl rfl ?_
    clear hf; intro a ha hf; clear ha
    obtain rfl := Option.some.inj hz9
    refine st_pick (v := .bool (fne (gt p0_Taps p0_Fore) (Fl.bits 4607182418800017408))) hf rfl rfl (fun hb' => ?_) (fun hb' => ?_) (by decide) ?_
    · exact absurd (hb10.symm.trans hb') (by decide)
    · rfl
    clear hf; intro a ha hf; clear ha
    refine st_nil hf (th_n ?_)
    exact ⟨hf.sub ⟨rfl, rfl, trivial⟩, hp⟩
  rintro a w ⟨hf, hp⟩
  refine st_nil hf ?_
  refine th_n ?_
  refine wp_if hf rfl (fun hb => ?_) (fun hb => ?_)
  · replace h := ifT h hb
    refine wp_seq ?_
    refine wp_reg ?_
    refine st_assign hf rfl rfl (by decide) ?_
    clear hf; intro a ha hf; clear ha
    refine st_nil hf ?_
    refine th_n ?_
    refine wp_ret ?_
    refine th_r ?_
    obtain rfl := Option.some.inj h
    have hp : Hp _ _ _ (ow) := Hp.sel (pre := [Res.obj 28 v1 [.int .i64 p0_Rate, .int .i64 p0_Fore, vp0_Taps]]) (tail := ow) (rs' := []) hp [] (by decide) (by simp) rfl
    exact ⟨rfl, ⟨hf.sub ⟨rfl, trivial⟩, hp⟩⟩
  replace h := ifF h hb
  refine wp_skip ?_
  refine th_n ?_
  refine wp_seq ?_
  refine wp_reg ?_
  refine st_assign hf rfl rfl (by decide) ?_
  clear hf; intro a ha hf; clear ha
  refine st_nil hf ?_
  refine th_n ?_
  refine wp_seq ?_
  refine wp_seq ?_
  refine wp_reg ?_
  refine st_fa (o' := 2) hf (by decide) (off := 2) (sz := 1) (by kernel_rfl) (by decide) rfl rfl (hp.ob (i := 0) rfl) rfl ?_
  clear hf; intro a ha hf; clear ha
  refine st_ldO (u := vp0_Taps) hf (by decide) pl26 rfl rfl (hp.ob (i := 0) rfl) rfl ?_
  clear hf; intro a ha hf; clear ha
  refine st_len (E := Ek.f64) hf (by decide) Try.underlying26 rfl rfl (hp0_Taps.sl hp) ?_
  clear hf; intro a ha hf; clear ha
  refine st_move hf rfl rfl (by decide) ?_
  clear hf; intro a ha hf; clear ha
  refine st_nil hf ?_
  refine th_n ?_
  refine wp_block ?_
  obtain ⟨q39, hl, h⟩ := bnd h
  refine wp_loop_pure (f := (f_pulse_Check.s1 p0_Rate p0_Fore p0_Taps)) (s := ((Fl.bits 0), (0 : Int))) (fun s a w => ∃ (bb15 : Nat), Fr 78 a [(1, optr v1 0), (3, .float .f64 bb15), (41, vp0_Taps), (42, .int .i64 (p0_Taps.length : Int)), (43, .int .i64 s.2)] ∧ Fl.rep bb15 s.1 ∧ Hp S w0 w (Res.obj 28 v1 [.int .i64 p0_Rate, .int .i64 p0_Fore, vp0_Taps] :: ow)) (fun q e a w => match q with | (Sum.inl q) => e = .exit 0 ∧ ∃ (bb17 : Nat), Fr 78 a [(3, .float .f64 bb17)] ∧ Fl.rep bb17 q ∧ Hp S w0 w (ow) | (Sum.inr q) => e = .ret ∧ Fr 78 a [(2, .int .i64 q)] ∧ Hp S w0 w (ow)) ?_ hl ⟨_, hf.sub ⟨rfl, rfl, rfl, rfl, rfl, trivial⟩, rfl, hp⟩ ?_
  · clear hl hf hp
    intro s x a w h hI
    obtain ⟨sum3, t43⟩ := s
    obtain ⟨bb15, hf, y16, hp⟩ : ∃ (bb15 : Nat), Fr 78 a [(1, optr v1 0), (3, .float .f64 bb15), (41, vp0_Taps), (42, .int .i64 (p0_Taps.length : Int)), (43, .int .i64 t43)] ∧ Fl.rep bb15 sum3 ∧ Hp S w0 w (Res.obj 28 v1 [.int .i64 p0_Rate, .int .i64 p0_Fore, vp0_Taps] :: ow) := hI
    replace h : f_pulse_Check.s1c p0_Rate p0_Fore p0_Taps sum3 t43 = some x := h
    unfold f_pulse_Check.s1c at h
    refine wp_seq ?_
    refine wp_reg ?_
    refine st_ilss hf (by decide) rfl rfl rfl ?_
    clear hf; intro a ha hf; clear ha
    refine st_nil hf ?_
    refine th_n ?_
    refine wp_seq ?_
    refine wp_if hf rfl (fun hb => ?_) (fun hb => ?_)
    · replace h := ifT h hb
      refine wp_skip ?_
      refine th_n ?_
      refine wp_seq ?_
      refine wp_block ?_
      refine wp_seq ?_
      refine wp_reg ?_
      refine st_move hf rfl rfl (by decide) ?_
      clear hf; intro a ha hf; clear ha
      obtain ⟨hc19, h⟩ := chk h
      refine st_index (E := Ek.f64) hf (by decide) Try.underlying26 elt33 rfl rfl rfl (hp0_Taps.sl hp) hc19.1 hc19.2 ?_
      clear hf; intro a ha hf; clear ha
      refine st_ldF hf (by decide) pl33 rfl rfl (hp0_Taps.sl hp) hc19.1 hc19.2 ?_
      clear hf; intro a bb20 y21 ha hf; clear ha
      refine st_assign hf rfl rfl (by decide) ?_
      clear hf; intro a ha hf; clear ha
      refine st_assign hf rfl rfl (by decide) ?_
      clear hf; intro a ha hf; clear ha
      refine st_nil hf ?_
      refine th_n ?_
      refine wp_seq ?_
      refine wp_seq ?_
      refine wp_reg ?_
      refine st_move hf rfl rfl (by decide) ?_
      clear hf; intro a ha hf; clear ha
      obtain ⟨q22, hcall23, h⟩ := bnd h
      refine st_call hf (by decide) Try.func22 rfl rfl rfl rfl rfl (f_pulse_plain_c hp _ _ (show Fl.rep bb20 (gt p0_Taps t43) from y21) _ _ (show Fl.rep 4607182418800017408 (Fl.bits 4607182418800017408) from rfl) hcall23) ?_
      rintro _ w ⟨rfl, hp0⟩
      clear hp; have hp := hp0; clear hp0
      replace hp : Hp _ _ _ (Res.obj 28 v1 [.int .i64 p0_Rate, .int .i64 p0_Fore, vp0_Taps] :: ow) := hp
      refine ⟨_, rfl, ?_⟩
      clear hf; intro a hf
      refine st_not hf (by decide) rfl rfl ?_
      clear hf; intro a ha hf; clear ha
      refine st_move hf rfl rfl (by decide) ?_
      clear hf; intro a ha hf; clear ha
      obtain ⟨z26, hz24, h⟩ := bnd h
      refine wpList_cut 19 (fun a w => Fr 78 a [(1, optr v1 0), (3, .float .f64 bb15), (5, .float .f64 bb20), (41, vp0_Taps), (42, .int .i64 (p0_Taps.length : Int)), (43, .int .i64 t43), (70, .bool z26)] ∧ Hp S w0 w (Res.obj 28 v1 [.int .i64 p0_Rate, .int .i64 p0_Fore, vp0_Taps] :: ow)) ?_ ?_
      · rcases Bool.eq_false_or_eq_true (!q22) with hb25 | hb25
        · skip
          replace hz24 := ifT hz24 hb25
          refine st_skip hf (wantN hf rfl rfl hb25) rfl (by decide) ?_ rfl
          clear hf; intro a hf
          refine st_skip hf (wantN hf rfl rfl hb25) rfl (by decide) ?_ rfl
          clear hf; intro a hf
          refine st_skip hf (wantN hf rfl rfl hb25) rfl (by decide) ?_ rfl
          clear hf; intro a hf
          refine st_skip hf (wantN hf rfl rfl hb25) rfl (by decide) ?_ rfl
          clear hf; intro a hf
          refine st_skipU hf (wantN hf rfl rfl hb25) rfl (by decide) ?_
          clear hf; intro a hf
          refine st_skip hf (wantU hf rfl rfl) rfl (by decide) ?_ rfl
          clear hf; intro a hf
          refine st_skip hf (wantU hf rfl rfl) rfl (by decide) ?_ rfl
          clear hf; intro a hf
          refine st_skip hf (wantU hf rfl rfl) rfl (by decide) ?_ rfl
          clear hf; intro a hf
          refine st_skip hf (wantU hf rfl rfl) rfl (by decide) ?_ rfl
          clear hf; intro a hf
          refine st_skip hf (wantU hf rfl rfl) rfl (by decide) ?_ rfl
          clear hf; intro a hf
          refine st_skip hf (wantU hf rfl rfl) rfl (by decide) ?_ rfl
          clear hf; intro a hf
          refine st_skip hf (wantU hf rfl rfl) rfl (by decide) ?_ rfl
          clear hf; intro a hf
          refine st_skip hf (wantU hf rfl rfl) rfl (by decide) ?_ rfl
          clear hf; intro a hf
          refine st_skip hf (wantN hf rfl rfl hb25) rfl (by decide) ?_ rfl
          clear hf; intro a hf
          refine st_skipU hf (wantN hf rfl rfl hb25) rfl (by decide) ?_
          clear hf; intro a hf
          refine st_skip hf (wantU hf rfl rfl) rfl (by decide) ?_ rfl
          clear hf; intro a hf
          refine st_skip hf (wantU hf rfl rfl) rfl (by decide) ?_ rfl
          clear hf; intro a hf
          refine st_skip hf (wantN hf rfl rfl hb25) rfl (by decide) ?_ rfl
          clear hf; intro a hf
          obtain rfl := Option.some.inj hz24
          refine st_pick (v := .bool true) hf rfl rfl (fun hb' => ?_) (fun hb' => ?_) (by decide) ?_
          · rfl
          · exact absurd (hb25.symm.trans hb') (by decide)
          clear hf; intro a ha hf; clear ha
          refine st_nil hf (th_n ?_)
          exact ⟨hf.sub ⟨rfl, rfl, rfl, rfl, rfl, rfl, rfl, trivial⟩, hp⟩
        replace hz24 := ifF hz24 hb25
        refine st_move hf (wantY hf rfl rfl hb25) rfl (by decide) ?_
        clear hf; intro a ha hf; clear ha
        refine st_fa (o' := 1) hf (by decide) (off := 1) (sz := 1) (by kernel_rfl) (by decide) (wantY hf rfl rfl hb25) rfl (hp.ob (i := 0) rfl) rfl ?_
        clear hf; intro a ha hf; clear ha
        refine st_ldO (u := .int .i64 p0_Fore) hf (by decide) pl3 (wantY hf rfl rfl hb25) rfl (hp.ob (i := 0) rfl) rfl ?_
        clear hf; intro a ha hf; clear ha
        refine st_ineq hf (by decide) (wantY hf rfl rfl hb25) rfl rfl ?_
        clear hf; intro a ha hf; clear ha
        refine st_move hf (wantY hf rfl rfl hb25) rfl (by decide) ?_
        clear hf; intro a ha hf; clear ha
        obtain ⟨z29, hz27, hz24⟩ := bnd hz24
        refine wpList_cut 9 (fun a w => Fr 78 a [(1, optr v1 0), (3, .float .f64 bb15), (5, .float .f64 bb20), (41, vp0_Taps), (42, .int .i64 (p0_Taps.length : Int)), (43, .int .i64 t43), (51, .bool (!q22)), (65, .bool z29)] ∧ Hp S w0 w (Res.obj 28 v1 [.int .i64 p0_Rate, .int .i64 p0_Fore, vp0_Taps] :: ow)) ?_ ?_
        · rcases Bool.eq_false_or_eq_true (t43 != p0_Fore) with hb28 | hb28
          · skip
            replace hz27 := ifT hz27 hb28
            refine st_move hf (wantY hf rfl rfl hb28) rfl (by decide) ?_
            clear hf; intro a ha hf; clear ha
            refine st_fa (o' := 1) hf (by decide) (off := 1) (sz := 1) (by kernel_rfl) (by decide) (wantY hf rfl rfl hb28) rfl (hp.ob (i := 0) rfl) rfl ?_
            clear hf; intro a ha hf; clear ha
            refine st_ldO (u := .int .i64 p0_Fore) hf (by decide) pl3 (wantY hf rfl rfl hb28) rfl (hp.ob (i := 0) rfl) rfl ?_
            clear hf; intro a ha hf; clear ha
            refine st_isub hf (by decide) (wantY hf rfl rfl hb28) rfl rfl ?_
            clear hf; intro a ha hf; clear ha
            refine st_fa (o' := 0) hf (by decide) (off := 0) (sz := 1) (by kernel_rfl) (by decide) (wantY hf rfl rfl hb28) rfl (hp.ob (i := 0) rfl) rfl ?_
            clear hf; intro a ha hf; clear ha
            refine st_ldO (u := .int .i64 p0_Rate) hf (by decide) pl3 (wantY hf rfl rfl hb28) rfl (hp.ob (i := 0) rfl) rfl ?_
            clear hf; intro a ha hf; clear ha
            obtain ⟨hc30, hz27⟩ := chk hz27
            refine st_irem hf (by decide) (wantY hf rfl rfl hb28) rfl rfl hc30 ?_
            clear hf; intro a ha hf; clear ha
            refine st_ieql hf (by decide) (wantY hf rfl rfl hb28) rfl rfl ?_
            clear hf; intro a ha hf; clear ha
            obtain rfl := Option.some.inj hz27
            refine st_pick (v := .bool ((((IntKind.i64.wrap (t43 - p0_Fore))).tmod p0_Rate) == (0 : Int))) hf (wantY hf rfl rfl hb25) rfl (fun hb' => ?_) (fun hb' => ?_) (by decide) ?_
            · rfl
            · exact absurd (hb28.symm.trans hb') (by decide)
            clear hf; intro a ha hf; clear ha
            refine st_nil hf (th_n ?_)
            exact ⟨hf.sub ⟨rfl, rfl, rfl, rfl, rfl, rfl, rfl, rfl, trivial⟩, hp⟩
          replace hz27 := ifF hz27 hb28
          refine st_skip hf (wantN hf rfl rfl hb28) rfl (by decide) ?_ rfl
          clear hf; intro a hf
          refine st_skip hf (wantN hf rfl rfl hb28) rfl (by decide) ?_ rfl
          clear hf; intro a hf
          refine st_skip hf (wantN hf rfl rfl hb28) rfl (by decide) ?_ rfl
          clear hf; intro a hf
          refine st_skip hf (wantN hf rfl rfl hb28) rfl (by decide) ?_ rfl
          clear hf; intro a hf
          refine st_skip hf (wantN hf rfl rfl hb28) rfl (by decide) ?_ rfl
          clear hf; intro a hf
          refine st_skip hf (wantN hf rfl rfl hb28) rfl (by decide) ?_ rfl
          clear hf; intro a hf
          refine st_skip hf (wantN hf rfl rfl hb28) rfl (by decide) ?_ rfl
          clear hf; intro a hf
          refine st_skip hf (wantN hf rfl rfl hb28) rfl (by decide) ?_ rfl
          clear hf; intro a hf
          obtain rfl := Option.some.inj hz27
          refine st_pick (v := .bool false) hf (wantY hf rfl rfl hb25) rfl (fun hb' => ?_) (fun hb' => ?_) (by decide) ?_
          · exact absurd (hb28.symm.trans hb') (by decide)
          · rfl
          clear hf; intro a ha hf; clear ha
          refine st_nil hf (th_n ?_)
          exact ⟨hf.sub ⟨rfl, rfl, rfl, rfl, rfl, rfl, rfl, rfl, trivial⟩, hp⟩
        rintro a w ⟨hf, hp⟩
        refine st_move hf (wantY hf rfl rfl hb25) rfl (by decide) ?_
        clear hf; intro a ha hf; clear ha
        refine wpList_cut 3 (fun a w => Fr 78 a [(1, optr v1 0), (3, .float .f64 bb15), (5, .float .f64 bb20), (41, vp0_Taps), (42, .int .i64 (p0_Taps.length : Int)), (43, .int .i64 t43), (51, .bool (!q22)), (69, .bool (z29 && (fne (gt p0_Taps t43) (Fl.bits 0))))] ∧ Hp S w0 w (Res.obj 28 v1 [.int .i64 p0_Rate, .int .i64 p0_Fore, vp0_Taps] :: ow)) ?_ ?_
        · rcases Bool.eq_false_or_eq_true z29 with hb32 | hb32
          · skip
            refine st_move hf (wantY hf rfl rfl hb32) rfl (by decide) ?_
            clear hf; intro a ha hf; clear ha
            refine st_fcmp (r_fne (fx := (gt p0_Taps t43)) (fy := (Fl.bits 0)) y21 rfl) hf (by decide) (wantY hf rfl rfl hb32) rfl rfl ?_
            clear hf; intro a ha hf; clear ha
            refine st_pick (v := .bool (fne (gt p0_Taps t43) (Fl.bits 0))) hf (wantY hf rfl rfl hb25) rfl (fun hb' => ?_) (fun hb' => ?_) (by decide) ?_
            · rfl
            · exact absurd (hb32.symm.trans hb') (by decide)
            clear hf; intro a ha hf; clear ha
            refine st_nil hf (th_n ?_)
            exact ⟨hf.sub ⟨rfl, rfl, rfl, rfl, rfl, rfl, rfl, (by rw [hb32]; rfl), trivial⟩, hp⟩
          refine st_skip hf (wantN hf rfl rfl hb32) rfl (by decide) ?_ rfl
          clear hf; intro a hf
          refine st_skip hf (wantN hf rfl rfl hb32) rfl (by decide) ?_ rfl
          clear hf; intro a hf
          refine st_pick (v := .bool false) hf (wantY hf rfl rfl hb25) rfl (fun hb' => ?_) (fun hb' => ?_) (by decide) ?_
          · exact absurd (hb32.symm.trans hb') (by decide)
          · rfl
          clear hf; intro a ha hf; clear ha
          refine st_nil hf (th_n ?_)
          exact ⟨hf.sub ⟨rfl, rfl, rfl, rfl, rfl, rfl, rfl, (by rw [hb32]; rfl), trivial⟩, hp⟩
        rintro a w ⟨hf, hp⟩
        obtain rfl := Option.some.inj hz24
        refine st_pick (v := .bool (z29 && (fne (gt p0_Taps t43) (Fl.bits 0)))) hf rfl rfl (fun hb' => ?_) (fun hb' => ?_) (by decide) ?_
        · exact absurd (hb25.symm.trans hb') (by decide)
        · rfl
        clear hf; intro a ha hf; clear ha
        refine st_nil hf (th_n ?_)
        exact ⟨hf.sub ⟨rfl, rfl, rfl, rfl, rfl, rfl, rfl, trivial⟩, hp⟩
      rintro a w ⟨hf, hp⟩
      refine st_nil hf ?_
      refine th_n ?_
      refine wp_if hf rfl (fun hb => ?_) (fun hb => ?_)
      · replace h := ifT h hb
        refine wp_seq ?_
        refine wp_reg ?_
        refine st_assign hf rfl rfl (by decide) ?_
        clear hf; intro a ha hf; clear ha
        refine st_nil hf ?_
        refine th_n ?_
        refine wp_ret ?_
        refine th_r ?_
        refine ib_r ?_
        refine th_r ?_
        obtain rfl := Option.some.inj h
        have hp : Hp _ _ _ (ow) := Hp.sel (pre := [Res.obj 28 v1 [.int .i64 p0_Rate, .int .i64 p0_Fore, vp0_Taps]]) (tail := ow) (rs' := []) hp [] (by decide) (by simp) rfl
        exact rnd_r (by simp) ⟨rfl, ⟨hf.sub ⟨rfl, trivial⟩, hp⟩⟩
      replace h := ifF h hb
      refine wp_skip ?_
      refine th_n ?_
      refine wp_reg ?_
      refine st_move hf rfl rfl (by decide) ?_
      clear hf; intro a ha hf; clear ha
      refine st_move hf rfl rfl (by decide) ?_
      clear hf; intro a ha hf; clear ha
      obtain ⟨q33, hcall34, h⟩ := bnd h
      refine st_call hf (by decide) Try.func37 rfl rfl rfl rfl rfl (f_math_Abs_c hp _ _ (show Fl.rep bb20 (gt p0_Taps t43) from y21) hcall34) ?_
      rintro _ w ⟨v35, rfl, y36, hp0⟩
      clear hp; have hp := hp0; clear hp0
      replace hp : Hp _ _ _ (Res.obj 28 v1 [.int .i64 p0_Rate, .int .i64 p0_Fore, vp0_Taps] :: ow) := hp
      refine ⟨_, rfl, ?_⟩
      clear hf; intro a hf
      refine st_farith (op := .add) rfl hf (by decide) hp rfl rfl rfl (show Fl.rep bb15 sum3 from y16) (show Fl.rep v35 q33 from y36) ?_
      clear hf; intro a w bb37 y38 hf hp0; clear hp; have hp := hp0; clear hp0
      replace hp : Hp _ _ _ (Res.obj 28 v1 [.int .i64 p0_Rate, .int .i64 p0_Fore, vp0_Taps] :: ow) := hp
      refine st_assign hf rfl rfl (by decide) ?_
      clear hf; intro a ha hf; clear ha
      refine st_nil hf ?_
      refine ib_n ?_
      refine th_n ?_
      refine wp_reg ?_
      refine st_iadd hf (by decide) rfl rfl rfl ?_
      clear hf; intro a ha hf; clear ha
      refine st_move hf rfl rfl (by decide) ?_
      clear hf; intro a ha hf; clear ha
      refine st_nil hf ?_
      obtain rfl := Option.some.inj h
      exact rnd_l ⟨_, hf.sub ⟨rfl, rfl, rfl, rfl, rfl, trivial⟩, y38, hp⟩
    replace h := ifF h hb
    refine wp_exit ?_
    refine th_e ?_
    obtain rfl := Option.some.inj h
    have hp : Hp _ _ _ (ow) := Hp.sel (pre := [Res.obj 28 v1 [.int .i64 p0_Rate, .int .i64 p0_Fore, vp0_Taps]]) (tail := ow) (rs' := []) hp [] (by decide) (by simp) rfl
    exact rnd_r (by simp) ⟨rfl, _, hf.sub ⟨rfl, trivial⟩, y16, hp⟩
  clear hl hf hp
  intro e a w hne hO
  rcases q39 with q40 | q41
  · replace h := smL h
    obtain ⟨rfl, bb17, hf, y18, hp⟩ := hO
    refine ib_same ?_
    refine th_n ?_
    refine wp_seq ?_
    refine wp_seq ?_
    refine wp_reg ?_
    refine st_move hf rfl rfl (by decide) ?_
    clear hf; intro a ha hf; clear ha
    refine st_fcmp (r_fgt (fx := q40) (fy := (Fl.bits 4616189618054758400)) y18 rfl) hf (by decide) rfl rfl rfl ?_
    clear hf; intro a ha hf; clear ha
    refine st_nil hf ?_
    refine th_n ?_
    refine wp_if hf rfl (fun hb => ?_) (fun hb => ?_)
    · replace h := ifT h hb
      refine wp_seq ?_
      refine wp_reg ?_
      refine st_assign hf rfl rfl (by decide) ?_
      clear hf; intro a ha hf; clear ha
      refine st_nil hf ?_
      refine th_n ?_
      refine wp_ret ?_
      refine th_r ?_
      obtain rfl := Option.some.inj h
      exact ⟨rfl, ⟨hf.sub ⟨rfl, trivial⟩, hp⟩⟩
    replace h := ifF h hb
    refine wp_skip ?_
    refine th_n ?_
    refine wp_seq ?_
    refine wp_reg ?_
    refine st_assign hf rfl rfl (by decide) ?_
    clear hf; intro a ha hf; clear ha
    refine st_nil hf ?_
    refine th_n ?_
    refine wp_ret ?_
    obtain rfl := Option.some.inj h
    exact ⟨rfl, ⟨hf.sub ⟨rfl, trivial⟩, hp⟩⟩
  replace h := smR h
  obtain ⟨rfl, hf, hp⟩ := hO
  refine ib_r ?_
  refine th_r ?_
  obtain rfl := Option.some.inj h
  exact ⟨rfl, ⟨hf.sub ⟨rfl, trivial⟩, hp⟩⟩

noncomputable def f_pulse_Length (p0_Rate : Int) (p0_Fore : Int) (p0_Taps : (List Fl)) (n1 : Int) : Option (Int × Int) := ((f_pulse_Check p0_Rate p0_Fore p0_Taps).bind fun q3 => (if (q3 != (0 : Int)) = true then (some ((0 : Int), q3)) else (if ((decide (n1 < (0 : Int))) || (decide ((65536 : Int) < n1))) = true then (some ((0 : Int), (1 : Int))) else (if (n1 == (0 : Int)) = true then (some ((0 : Int), (0 : Int))) else (if (decide ((IntKind.i64.wrap ((IntKind.i64.wrap ((IntKind.i64.wrap (n1 - (1 : Int))) * p0_Rate)) + (p0_Taps.length : Int))) ≤ (65536 : Int))) = true then (some ((IntKind.i64.wrap ((IntKind.i64.wrap ((IntKind.i64.wrap (n1 - (1 : Int))) * p0_Rate)) + (p0_Taps.length : Int))), (0 : Int))) else (some ((0 : Int), (1 : Int))))))))
theorem f_pulse_Length_c {S : Nat → Prop} {w0 w : World} {ow : List Res} (hp : Hp S w0 w ow) (p0_Rate : Int) (p0_Fore : Int) (vp0_Taps : Value) (p0_Taps : (List Fl)) (hp0_Taps : RdS Ek.f64 S w0 vp0_Taps p0_Taps) (n1 : Int) {r : (Int × Int)} (h : f_pulse_Length p0_Rate p0_Fore p0_Taps n1 = some r) :
    Calls Try.prog 21 #[.agg #[.int .i64 p0_Rate, .int .i64 p0_Fore, vp0_Taps], .int .i64 n1] w (fun e w' => e = .returned (.tuple #[.int .i64 r.1, .int .i64 r.2]) ∧ Hp S w0 w' (ow)) := by
  unfold f_pulse_Length at h
  refine enter (n := 36) (args := [.agg #[.int .i64 p0_Rate, .int .i64 p0_Fore, vp0_Taps], .int .i64 n1]) Try.func21 rfl rfl (Nat.le_of_ble_eq_true rfl) fun a hf => ?_
  replace hf : Fr 36 a [(0, .agg #[.int .i64 p0_Rate, .int .i64 p0_Fore, vp0_Taps]), (1, .int .i64 n1)] := hf
  refine wp_mono (Q := fun e a w => e = .ret ∧ Fr 36 a [(4, .int .i64 r.1), (5, .int .i64 r.2)] ∧ Hp S w0 w (ow)) ?_ ?_
  rotate_left
  · rintro e a w ⟨rfl, hf, hp⟩
    exact ret2 hf rfl rfl rfl ⟨rfl, hp⟩
  refine wp_seq ?_
  refine wp_reg ?_
  refine st_boxO (cs := [.int .i64 p0_Rate, .int .i64 p0_Fore, vp0_Taps]) hf (by decide) hp rfl rfl rfl ?_
  clear hf; intro a w v1 hf hp0; clear hp; have hp := hp0; clear hp0
  replace hp : Hp _ _ _ (Res.obj 28 v1 [.int .i64 p0_Rate, .int .i64 p0_Fore, vp0_Taps] :: ow) := hp
  refine st_assign hf rfl rfl (by decide) ?_
  clear hf; intro a ha hf; clear ha
  refine st_assign hf rfl rfl (by decide) ?_
  clear hf; intro a ha hf; clear ha
  refine st_nil hf ?_
  refine th_n ?_
  refine wp_seq ?_
  refine wp_seq ?_
  refine wp_reg ?_
  refine st_ldOA (m := 3) (us := [.int .i64 p0_Rate, .int .i64 p0_Fore, vp0_Taps]) hf (by decide) (by kernel_rfl) rfl rfl (hp.ob (i := 0) rfl) rfl rfl ?_
  clear hf; intro a ha hf; clear ha
  obtain ⟨q3, hcall4, h⟩ := bnd h
  refine st_call hf (by decide) Try.func36 rfl rfl rfl rfl rfl (f_pulse_Check_c hp _ _ _ _ hp0_Taps hcall4) ?_
  rintro _ w ⟨rfl, hp0⟩
  clear hp; have hp := hp0; clear hp0
  replace hp : Hp _ _ _ (Res.obj 28 v1 [.int .i64 p0_Rate, .int .i64 p0_Fore, vp0_Taps] :: ow) := hp
  refine ⟨_, rfl, ?_⟩
  clear hf; intro a hf
  refine st_assign hf rfl rfl (by decide) ?_
  clear hf; intro a ha hf; clear ha
  refine st_nil hf ?_
  refine th_n ?_
  refine wp_block ?_
  refine wp_seq ?_
  refine wp_reg ?_
  refine st_move hf rfl rfl (by decide) ?_
  clear hf; intro a ha hf; clear ha
  refine st_ineq hf (by decide) rfl rfl rfl ?_
  clear hf; intro a ha hf; clear ha
  refine st_assign hf rfl rfl (by decide) ?_
  clear hf; intro a ha hf; clear ha
  refine st_nil hf ?_
  refine th_n ?_
  refine wp_if hf rfl (fun hb => ?_) (fun hb => ?_)
  · replace h := ifT h hb
    refine wp_seq ?_
    refine wp_reg ?_
    refine st_move hf rfl rfl (by decide) ?_
    clear hf; intro a ha hf; clear ha
    refine st_assign hf rfl rfl (by decide) ?_
    clear hf; intro a ha hf; clear ha
    refine st_assign hf rfl rfl (by decide) ?_
    clear hf; intro a ha hf; clear ha
    refine st_nil hf ?_
    refine th_n ?_
    refine wp_ret ?_
    refine ib_r ?_
    refine th_r ?_
    obtain rfl := Option.some.inj h
    have hp : Hp _ _ _ (ow) := Hp.sel (pre := [Res.obj 28 v1 [.int .i64 p0_Rate, .int .i64 p0_Fore, vp0_Taps]]) (tail := ow) (rs' := []) hp [] (by decide) (by simp) rfl
    exact ⟨rfl, ⟨hf.sub ⟨rfl, rfl, trivial⟩, hp⟩⟩
  replace h := ifF h hb
  refine wp_seq ?_
  refine wp_reg ?_
  refine st_move hf rfl rfl (by decide) ?_
  clear hf; intro a ha hf; clear ha
  refine st_ilss hf (by decide) rfl rfl rfl ?_
  clear hf; intro a ha hf; clear ha
  refine st_move hf rfl rfl (by decide) ?_
  clear hf; intro a ha hf; clear ha
  refine wpList_cut 3 (fun a w => Fr 36 a [(1, .int .i64 n1), (2, optr v1 0), (20, .bool ((decide (n1 < (0 : Int))) || (decide ((65536 : Int) < n1))))] ∧ Hp S w0 w (Res.obj 28 v1 [.int .i64 p0_Rate, .int .i64 p0_Fore, vp0_Taps] :: ow)) ?_ ?_
  · rcases Bool.eq_false_or_eq_true (decide (n1 < (0 : Int))) with hb6 | hb6
    · skip
      refine st_skip hf (wantN hf rfl rfl hb6) rfl (by decide) ?_ rfl
      clear hf; intro a hf
      refine st_skip hf (wantN hf rfl rfl hb6) rfl (by decide) ?_ rfl
      clear hf; intro a hf
      refine st_pick (v := .bool true) hf rfl rfl (fun hb' => ?_) (fun hb' => ?_) (by decide) ?_
      · rfl
      · exact absurd (hb6.symm.trans hb') (by decide)
      clear hf; intro a ha hf; clear ha
      refine st_nil hf (th_n ?_)
      exact ⟨hf.sub ⟨rfl, rfl, (by rw [hb6]; rfl), trivial⟩, hp⟩
    refine st_move hf (wantY hf rfl rfl hb6) rfl (by decide) ?_
    clear hf; intro a ha hf; clear ha
    refine st_igtr hf (by decide) (wantY hf rfl rfl hb6) rfl rfl ?_
    clear hf; intro a ha hf; clear ha
    refine st_pick (v := .bool (decide ((65536 : Int) < n1))) hf rfl rfl (fun hb' => ?_) (fun hb' => ?_) (by decide) ?_
    · exact absurd (hb6.symm.trans hb') (by decide)
    · rfl
    clear hf; intro a ha hf; clear ha
    refine st_nil hf (th_n ?_)
    exact ⟨hf.sub ⟨rfl, rfl, (by rw [hb6]; rfl), trivial⟩, hp⟩
  rintro a w ⟨hf, hp⟩
  refine st_assign hf rfl rfl (by decide) ?_
  clear hf; intro a ha hf; clear ha
  refine st_nil hf ?_
  refine th_n ?_
  refine wp_if hf rfl (fun hb => ?_) (fun hb => ?_)
  · replace h := ifT h hb
    refine wp_seq ?_
    refine wp_reg ?_
    refine st_assign hf rfl rfl (by decide) ?_
    clear hf; intro a ha hf; clear ha
    refine st_assign hf rfl rfl (by decide) ?_
    clear hf; intro a ha hf; clear ha
    refine st_nil hf ?_
    refine th_n ?_
    refine wp_ret ?_
    refine ib_r ?_
    refine th_r ?_
    obtain rfl := Option.some.inj h
    have hp : Hp _ _ _ (ow) := Hp.sel (pre := [Res.obj 28 v1 [.int .i64 p0_Rate, .int .i64 p0_Fore, vp0_Taps]]) (tail := ow) (rs' := []) hp [] (by decide) (by simp) rfl
    exact ⟨rfl, ⟨hf.sub ⟨rfl, rfl, trivial⟩, hp⟩⟩
  replace h := ifF h hb
  refine wp_seq ?_
  refine wp_reg ?_
  refine st_move hf rfl rfl (by decide) ?_
  clear hf; intro a ha hf; clear ha
  refine st_ieql hf (by decide) rfl rfl rfl ?_
  clear hf; intro a ha hf; clear ha
  refine st_assign hf rfl rfl (by decide) ?_
  clear hf; intro a ha hf; clear ha
  refine st_nil hf ?_
  refine th_n ?_
  refine wp_if hf rfl (fun hb => ?_) (fun hb => ?_)
  · replace h := ifT h hb
    refine wp_seq ?_
    refine wp_reg ?_
    refine st_assign hf rfl rfl (by decide) ?_
    clear hf; intro a ha hf; clear ha
    refine st_assign hf rfl rfl (by decide) ?_
    clear hf; intro a ha hf; clear ha
    refine st_nil hf ?_
    refine th_n ?_
    refine wp_ret ?_
    refine ib_r ?_
    refine th_r ?_
    obtain rfl := Option.some.inj h
    have hp : Hp _ _ _ (ow) := Hp.sel (pre := [Res.obj 28 v1 [.int .i64 p0_Rate, .int .i64 p0_Fore, vp0_Taps]]) (tail := ow) (rs' := []) hp [] (by decide) (by simp) rfl
    exact ⟨rfl, ⟨hf.sub ⟨rfl, rfl, trivial⟩, hp⟩⟩
  replace h := ifF h hb
  refine wp_skip ?_
  refine ib_n ?_
  refine th_n ?_
  refine wp_seq ?_
  refine wp_seq ?_
  refine wp_reg ?_
  refine st_move hf rfl rfl (by decide) ?_
  clear hf; intro a ha hf; clear ha
  refine st_isub hf (by decide) rfl rfl rfl ?_
  clear hf; intro a ha hf; clear ha
  refine st_fa (o' := 0) hf (by decide) (off := 0) (sz := 1) (by kernel_rfl) (by decide) rfl rfl (hp.ob (i := 0) rfl) rfl ?_
  clear hf; intro a ha hf; clear ha
  refine st_ldO (u := .int .i64 p0_Rate) hf (by decide) pl3 rfl rfl (hp.ob (i := 0) rfl) rfl ?_
  clear hf; intro a ha hf; clear ha
  refine st_imul hf (by decide) rfl rfl rfl ?_
  clear hf; intro a ha hf; clear ha
  refine st_fa (o' := 2) hf (by decide) (off := 2) (sz := 1) (by kernel_rfl) (by decide) rfl rfl (hp.ob (i := 0) rfl) rfl ?_
  clear hf; intro a ha hf; clear ha
  refine st_ldO (u := vp0_Taps) hf (by decide) pl26 rfl rfl (hp.ob (i := 0) rfl) rfl ?_
  clear hf; intro a ha hf; clear ha
  refine st_len (E := Ek.f64) hf (by decide) Try.underlying26 rfl rfl (hp0_Taps.sl hp) ?_
  clear hf; intro a ha hf; clear ha
  refine st_iadd hf (by decide) rfl rfl rfl ?_
  clear hf; intro a ha hf; clear ha
  refine st_assign hf rfl rfl (by decide) ?_
  clear hf; intro a ha hf; clear ha
  refine st_nil hf ?_
  refine th_n ?_
  refine wp_seq ?_
  refine wp_reg ?_
  refine st_move hf rfl rfl (by decide) ?_
  clear hf; intro a ha hf; clear ha
  refine st_ileq hf (by decide) rfl rfl rfl ?_
  clear hf; intro a ha hf; clear ha
  refine st_nil hf ?_
  refine th_n ?_
  refine wp_if hf rfl (fun hb => ?_) (fun hb => ?_)
  · replace h := ifT h hb
    refine wp_seq ?_
    refine wp_reg ?_
    refine st_move hf rfl rfl (by decide) ?_
    clear hf; intro a ha hf; clear ha
    refine st_assign hf rfl rfl (by decide) ?_
    clear hf; intro a ha hf; clear ha
    refine st_assign hf rfl rfl (by decide) ?_
    clear hf; intro a ha hf; clear ha
    refine st_nil hf ?_
    refine th_n ?_
    refine wp_ret ?_
    refine th_r ?_
    obtain rfl := Option.some.inj h
    have hp : Hp _ _ _ (ow) := Hp.sel (pre := [Res.obj 28 v1 [.int .i64 p0_Rate, .int .i64 p0_Fore, vp0_Taps]]) (tail := ow) (rs' := []) hp [] (by decide) (by simp) rfl
    exact ⟨rfl, ⟨hf.sub ⟨rfl, rfl, trivial⟩, hp⟩⟩
  replace h := ifF h hb
  refine wp_skip ?_
  refine th_n ?_
  refine wp_seq ?_
  refine wp_reg ?_
  refine st_assign hf rfl rfl (by decide) ?_
  clear hf; intro a ha hf; clear ha
  refine st_assign hf rfl rfl (by decide) ?_
  clear hf; intro a ha hf; clear ha
  refine st_nil hf ?_
  refine th_n ?_
  refine wp_ret ?_
  obtain rfl := Option.some.inj h
  have hp : Hp _ _ _ (ow) := Hp.sel (pre := [Res.obj 28 v1 [.int .i64 p0_Rate, .int .i64 p0_Fore, vp0_Taps]]) (tail := ow) (rs' := []) hp [] (by decide) (by simp) rfl
  exact ⟨rfl, ⟨hf.sub ⟨rfl, rfl, trivial⟩, hp⟩⟩

noncomputable def f_pulse_Shape.s2c (p0_Rate : Int) (p0_Taps : (List Fl)) (points1 : (List (Fl × Fl))) (t27 : Int) (out8 : (List (Fl × Fl))) (t45 : Int) : Option (((List (Fl × Fl)) × Int) ⊕ (List (Fl × Fl))) := (if (decide (t45 < (p0_Taps.length : Int))) = true then (if 0 ≤ t45 ∧ t45 < (p0_Taps.length : Int) then (if 0 ≤ (IntKind.i64.wrap ((IntKind.i64.wrap (t27 * p0_Rate)) + t45)) ∧ (IntKind.i64.wrap ((IntKind.i64.wrap (t27 * p0_Rate)) + t45)) < (out8.length : Int) then (if 0 ≤ (IntKind.i64.wrap ((IntKind.i64.wrap (t27 * p0_Rate)) + t45)) ∧ (IntKind.i64.wrap ((IntKind.i64.wrap (t27 * p0_Rate)) + t45)) < (out8.length : Int) then (some (Sum.inl ((out8.set ((IntKind.i64.wrap ((IntKind.i64.wrap (t27 * p0_Rate)) + t45))).toNat (cadd (gt out8 (IntKind.i64.wrap ((IntKind.i64.wrap (t27 * p0_Rate)) + t45))) ((fmul ((gt points1 t27).1) (gt p0_Taps t45)), (fmul ((gt points1 t27).2) (gt p0_Taps t45))))), (IntKind.i64.wrap (t45 + (1 : Int)))))) else none) else none) else none) else (some (Sum.inr out8)))
noncomputable def f_pulse_Shape.s2 (p0_Rate : Int) (p0_Taps : (List Fl)) (points1 : (List (Fl × Fl))) (t27 : Int) (s : ((List (Fl × Fl)) × Int)) : Option (((List (Fl × Fl)) × Int) ⊕ (List (Fl × Fl))) := f_pulse_Shape.s2c p0_Rate p0_Taps points1 t27 s.1 s.2
noncomputable def f_pulse_Shape.s1c (p0_Rate : Int) (p0_Taps : (List Fl)) (points1 : (List (Fl × Fl))) (out8 : (List (Fl × Fl))) (t27 : Int) : Option (((List (Fl × Fl)) × Int) ⊕ ((List (Fl × Fl)) ⊕ ((List (Fl × Fl)) × Int))) := (if (decide (t27 < (points1.length : Int))) = true then (if 0 ≤ t27 ∧ t27 < (points1.length : Int) then ((f_pulse_plain ((gt points1 t27).1) (Fl.bits 4638707616191610880)).bind fun q18 => ((if (!q18) = true then (some true) else ((f_pulse_plain ((gt points1 t27).2) (Fl.bits 4638707616191610880)).bind fun q23 => (some (!q23)))).bind fun z22 => (if z22 = true then (some (Sum.inr (Sum.inr ([], (7 : Int))))) else ((loop (f_pulse_Shape.s2 p0_Rate p0_Taps points1 t27) (out8, (0 : Int))).bind (fun q47 => (some (Sum.inl (q47, (IntKind.i64.wrap (t27 + (1 : Int))))))))))) else none) else (some (Sum.inr (Sum.inl out8))))
noncomputable def f_pulse_Shape.s1 (p0_Rate : Int) (p0_Taps : (List Fl)) (points1 : (List (Fl × Fl))) (s : ((List (Fl × Fl)) × Int)) : Option (((List (Fl × Fl)) × Int) ⊕ ((List (Fl × Fl)) ⊕ ((List (Fl × Fl)) × Int))) := f_pulse_Shape.s1c p0_Rate p0_Taps points1 s.1 s.2
noncomputable def f_pulse_Shape (p0_Rate : Int) (p0_Fore : Int) (p0_Taps : (List Fl)) (points1 : (List (Fl × Fl))) : Option ((List (Fl × Fl)) × Int) := ((f_pulse_Length p0_Rate p0_Fore p0_Taps (points1.length : Int)).bind fun q3 => (if (q3.2 != (0 : Int)) = true then (some ([], q3.2)) else (if 0 ≤ q3.1 ∧ q3.1 ≤ q3.1 ∧ q3.1 * 16 ≤ 281474976710656 then ((loop (f_pulse_Shape.s1 p0_Rate p0_Taps points1) ((List.replicate (q3.1).toNat (Fl.bits 0, Fl.bits 0)), (0 : Int))).bind (fun q48 => sm q48 (fun q49 => (some (q49, (0 : Int)))) (fun q50 => (some (q50.1, q50.2))))) else none)))
theorem f_pulse_Shape_c {S : Nat → Prop} {w0 w : World} {ow : List Res} (hp : Hp S w0 w ow) (p0_Rate : Int) (p0_Fore : Int) (vp0_Taps : Value) (p0_Taps : (List Fl)) (hp0_Taps : RdS Ek.f64 S w0 vp0_Taps p0_Taps) (vpoints1 : Value) (points1 : (List (Fl × Fl))) (hpoints1 : RdS Ek.c128 S w0 vpoints1 points1) {r : ((List (Fl × Fl)) × Int)} (h : f_pulse_Shape p0_Rate p0_Fore p0_Taps points1 = some r) :
    Calls Try.prog 15 #[.agg #[.int .i64 p0_Rate, .int .i64 p0_Fore, vp0_Taps], vpoints1] w (fun e w' => ∃ (u0 : Value), e = .returned (.tuple #[u0, .int .i64 r.2]) ∧ Hp S w0 w' (Res.sl Ek.c128 39 u0 r.1 :: ow)) := by
  unfold f_pulse_Shape at h
  refine enter (n := 73) (args := [.agg #[.int .i64 p0_Rate, .int .i64 p0_Fore, vp0_Taps], vpoints1]) Try.func15 rfl rfl (Nat.le_of_ble_eq_true rfl) fun a hf => ?_
  replace hf : Fr 73 a [(0, .agg #[.int .i64 p0_Rate, .int .i64 p0_Fore, vp0_Taps]), (1, vpoints1)] := hf
  refine wp_mono (Q := fun e a w => e = .ret ∧ ∃ (u0 : Value), Fr 73 a [(4, u0), (5, .int .i64 r.2)] ∧ Hp S w0 w (Res.sl Ek.c128 39 u0 r.1 :: ow)) ?_ ?_
  rotate_left
  · rintro e a w ⟨rfl, x0, hf, hp⟩
    exact ret2 hf rfl rfl rfl ⟨x0, rfl, hp⟩
  refine wp_seq ?_
  refine wp_reg ?_
  refine st_boxO (cs := [.int .i64 p0_Rate, .int .i64 p0_Fore, vp0_Taps]) hf (by decide) hp rfl rfl rfl ?_
  clear hf; intro a w v1 hf hp0; clear hp; have hp := hp0; clear hp0
  replace hp : Hp _ _ _ (Res.obj 28 v1 [.int .i64 p0_Rate, .int .i64 p0_Fore, vp0_Taps] :: ow) := hp
  refine st_assign hf rfl rfl (by decide) ?_
  clear hf; intro a ha hf; clear ha
  refine st_assign hf rfl rfl (by decide) ?_
  clear hf; intro a ha hf; clear ha
  refine st_nil hf ?_
  refine th_n ?_
  refine wp_seq ?_
  refine wp_reg ?_
  refine st_ldOA (m := 3) (us := [.int .i64 p0_Rate, .int .i64 p0_Fore, vp0_Taps]) hf (by decide) (by kernel_rfl) rfl rfl (hp.ob (i := 0) rfl) rfl rfl ?_
  clear hf; intro a ha hf; clear ha
  refine st_move hf rfl rfl (by decide) ?_
  clear hf; intro a ha hf; clear ha
  refine st_len (E := Ek.c128) hf (by decide) Try.underlying32 rfl rfl (hpoints1.sl hp) ?_
  clear hf; intro a ha hf; clear ha
  obtain ⟨q3, hcall4, h⟩ := bnd h
  refine st_call hf (by decide) Try.func21 rfl rfl rfl rfl rfl (f_pulse_Length_c hp _ _ _ _ hp0_Taps _ hcall4) ?_
  rintro _ w ⟨rfl, hp0⟩
  clear hp; have hp := hp0; clear hp0
  replace hp : Hp _ _ _ (Res.obj 28 v1 [.int .i64 p0_Rate, .int .i64 p0_Fore, vp0_Taps] :: ow) := hp
  refine ⟨_, rfl, ?_⟩
  clear hf; intro a hf
  refine st_move hf rfl rfl (by decide) ?_
  clear hf; intro a ha hf; clear ha
  refine st_extract hf (by decide) rfl rfl rfl ?_
  clear hf; intro a ha hf; clear ha
  refine st_extract hf (by decide) rfl rfl rfl ?_
  clear hf; intro a ha hf; clear ha
  refine st_assign hf rfl rfl (by decide) ?_
  clear hf; intro a ha hf; clear ha
  refine st_assign hf rfl rfl (by decide) ?_
  clear hf; intro a ha hf; clear ha
  refine st_nil hf ?_
  refine th_n ?_
  refine wp_seq ?_
  refine wp_seq ?_
  refine wp_reg ?_
  refine st_move hf rfl rfl (by decide) ?_
  clear hf; intro a ha hf; clear ha
  refine st_ineq hf (by decide) rfl rfl rfl ?_
  clear hf; intro a ha hf; clear ha
  refine st_nil hf ?_
  refine th_n ?_
  refine wp_if hf rfl (fun hb => ?_) (fun hb => ?_)
  · replace h := ifT h hb
    refine wp_seq ?_
    refine wp_reg ?_
    refine st_move hf rfl rfl (by decide) ?_
    clear hf; intro a ha hf; clear ha
    refine st_assign hf rfl rfl (by decide) ?_
    clear hf; intro a ha hf; clear ha
    refine st_assign hf rfl rfl (by decide) ?_
    clear hf; intro a ha hf; clear ha
    refine st_nil hf ?_
    refine th_n ?_
    refine wp_ret ?_
    refine th_r ?_
    obtain rfl := Option.some.inj h
    have hp := hp.nil Ek.c128 39
    have hp : Hp _ _ _ (Res.sl Ek.c128 39 (.slice none 0 0) ([]) :: ow) := Hp.sel (pre := [Res.sl Ek.c128 39 (.slice none 0 0) ([]), Res.obj 28 v1 [.int .i64 p0_Rate, .int .i64 p0_Fore, vp0_Taps]]) (tail := ow) (rs' := [Res.sl Ek.c128 39 (.slice none 0 0) ([])]) hp [0] (by decide) (by simp) rfl
    exact ⟨rfl, ⟨_, hf.sub ⟨rfl, rfl, trivial⟩, hp⟩⟩
  replace h := ifF h hb
  refine wp_skip ?_
  refine th_n ?_
  refine wp_seq ?_
  refine wp_reg ?_
  refine st_move hf rfl rfl (by decide) ?_
  clear hf; intro a ha hf; clear ha
  obtain ⟨hc6, h⟩ := chk h
  refine st_make (E := Ek.c128) hf (by decide) elt39 Try.underlying32 (by decide) hp rfl rfl rfl hc6.1 hc6.2.1 hc6.2.2 ?_
  clear hf; intro a w v7 hf hp0; clear hp; have hp := hp0; clear hp0
  replace hp : Hp _ _ _ (Res.sl Ek.c128 39 v7 (List.replicate (q3.1).toNat (Fl.bits 0, Fl.bits 0)) :: Res.obj 28 v1 [.int .i64 p0_Rate, .int .i64 p0_Fore, vp0_Taps] :: ow) := hp
  refine st_assign hf rfl rfl (by decide) ?_
  clear hf; intro a ha hf; clear ha
  refine st_nil hf ?_
  refine th_n ?_
  refine wp_seq ?_
  refine wp_seq ?_
  refine wp_reg ?_
  refine st_move hf rfl rfl (by decide) ?_
  clear hf; intro a ha hf; clear ha
  refine st_len (E := Ek.c128) hf (by decide) Try.underlying32 rfl rfl (hpoints1.sl hp) ?_
  clear hf; intro a ha hf; clear ha
  refine st_move hf rfl rfl (by decide) ?_
  clear hf; intro a ha hf; clear ha
  refine st_nil hf ?_
  refine th_n ?_
  refine wp_block ?_
  obtain ⟨q48, hl, h⟩ := bnd h
  refine wp_loop_pure (f := (f_pulse_Shape.s1 p0_Rate p0_Taps points1)) (s := ((List.replicate (q3.1).toNat (Fl.bits 0, Fl.bits 0)), (0 : Int))) (fun s a w => ∃ (v9 : Value), Fr 73 a [(2, optr v1 0), (8, v9), (25, vpoints1), (26, .int .i64 (points1.length : Int)), (27, .int .i64 s.2)] ∧ Hp S w0 w (Res.sl Ek.c128 39 v9 s.1 :: Res.obj 28 v1 [.int .i64 p0_Rate, .int .i64 p0_Fore, vp0_Taps] :: ow)) (fun q e a w => match q with | (Sum.inl q) => e = .exit 0 ∧ ∃ (v11 : Value), Fr 73 a [(8, v11)] ∧ Hp S w0 w (Res.sl Ek.c128 39 v11 q :: ow) | (Sum.inr q) => e = .ret ∧ ∃ (u0 : Value), Fr 73 a [(4, u0), (5, .int .i64 q.2)] ∧ Hp S w0 w (Res.sl Ek.c128 39 u0 q.1 :: ow)) ?_ hl ⟨_, hf.sub ⟨rfl, rfl, rfl, rfl, rfl, trivial⟩, hp⟩ ?_
  · clear hl hf hp
    intro s x a w h hI
    obtain ⟨out8, t27⟩ := s
    obtain ⟨v9, hf, hp⟩ : ∃ (v9 : Value), Fr 73 a [(2, optr v1 0), (8, v9), (25, vpoints1), (26, .int .i64 (points1.length : Int)), (27, .int .i64 t27)] ∧ Hp S w0 w (Res.sl Ek.c128 39 v9 out8 :: Res.obj 28 v1 [.int .i64 p0_Rate, .int .i64 p0_Fore, vp0_Taps] :: ow) := hI
    replace h : f_pulse_Shape.s1c p0_Rate p0_Taps points1 out8 t27 = some x := h
    unfold f_pulse_Shape.s1c at h
    refine wp_seq ?_
    refine wp_reg ?_
    refine st_ilss hf (by decide) rfl rfl rfl ?_
    clear hf; intro a ha hf; clear ha
    refine st_nil hf ?_
    refine th_n ?_
    refine wp_seq ?_
    refine wp_if hf rfl (fun hb => ?_) (fun hb => ?_)
    · replace h := ifT h hb
      refine wp_skip ?_
      refine th_n ?_
      refine wp_seq ?_
      refine wp_block ?_
      refine wp_seq ?_
      refine wp_reg ?_
      refine st_move hf rfl rfl (by decide) ?_
      clear hf; intro a ha hf; clear ha
      obtain ⟨hc13, h⟩ := chk h
      refine st_index (E := Ek.c128) hf (by decide) Try.underlying32 elt39 rfl rfl rfl (hpoints1.sl hp) hc13.1 hc13.2 ?_
      clear hf; intro a ha hf; clear ha
      refine st_ldC hf (by decide) pl39 rfl rfl (hpoints1.sl hp) hc13.1 hc13.2 ?_
      clear hf; intro a bb14 bb15 y16 y17 ha hf; clear ha
      refine st_assign hf rfl rfl (by decide) ?_
      clear hf; intro a ha hf; clear ha
      refine st_assign hf rfl rfl (by decide) ?_
      clear hf; intro a ha hf; clear ha
      refine st_nil hf ?_
      refine th_n ?_
      refine wp_seq ?_
      refine wp_seq ?_
      refine wp_reg ?_
      refine st_move hf rfl rfl (by decide) ?_
      clear hf; intro a ha hf; clear ha
      refine st_real hf (by decide) rfl rfl ?_
      clear hf; intro a ha hf; clear ha
      obtain ⟨q18, hcall19, h⟩ := bnd h
      refine st_call hf (by decide) Try.func22 rfl rfl rfl rfl rfl (f_pulse_plain_c hp _ _ (show Fl.rep bb14 ((gt points1 t27).1) from y16) _ _ (show Fl.rep 4638707616191610880 (Fl.bits 4638707616191610880) from rfl) hcall19) ?_
      rintro _ w ⟨rfl, hp0⟩
      clear hp; have hp := hp0; clear hp0
      replace hp : Hp _ _ _ (Res.sl Ek.c128 39 v9 out8 :: Res.obj 28 v1 [.int .i64 p0_Rate, .int .i64 p0_Fore, vp0_Taps] :: ow) := hp
      refine ⟨_, rfl, ?_⟩
      clear hf; intro a hf
      refine st_not hf (by decide) rfl rfl ?_
      clear hf; intro a ha hf; clear ha
      refine st_move hf rfl rfl (by decide) ?_
      clear hf; intro a ha hf; clear ha
      obtain ⟨z22, hz20, h⟩ := bnd h
      refine wpList_cut 5 (fun a w => Fr 73 a [(2, optr v1 0), (8, v9), (9, .int .i64 t27), (10, .complex .f64 bb14 bb15), (25, vpoints1), (26, .int .i64 (points1.length : Int)), (27, .int .i64 t27), (41, .bool z22)] ∧ Hp S w0 w (Res.sl Ek.c128 39 v9 out8 :: Res.obj 28 v1 [.int .i64 p0_Rate, .int .i64 p0_Fore, vp0_Taps] :: ow)) ?_ ?_
      · rcases Bool.eq_false_or_eq_true (!q18) with hb21 | hb21
        · skip
          replace hz20 := ifT hz20 hb21
          refine st_skip hf (wantN hf rfl rfl hb21) rfl (by decide) ?_ rfl
          clear hf; intro a hf
          refine st_skip hf (wantN hf rfl rfl hb21) rfl (by decide) ?_ rfl
          clear hf; intro a hf
          refine st_skip hf (wantN hf rfl rfl hb21) rfl (by decide) ?_ rfl
          clear hf; intro a hf
          refine st_skip hf (wantN hf rfl rfl hb21) rfl (by decide) ?_ rfl
          clear hf; intro a hf
          obtain rfl := Option.some.inj hz20
          refine st_pick (v := .bool true) hf rfl rfl (fun hb' => ?_) (fun hb' => ?_) (by decide) ?_
          · rfl
          · exact absurd (hb21.symm.trans hb') (by decide)
          clear hf; intro a ha hf; clear ha
          refine st_nil hf (th_n ?_)
          exact ⟨hf.sub ⟨rfl, rfl, rfl, rfl, rfl, rfl, rfl, rfl, trivial⟩, hp⟩
        replace hz20 := ifF hz20 hb21
        refine st_move hf (wantY hf rfl rfl hb21) rfl (by decide) ?_
        clear hf; intro a ha hf; clear ha
        refine st_imag hf (by decide) (wantY hf rfl rfl hb21) rfl ?_
        clear hf; intro a ha hf; clear ha
        obtain ⟨q23, hcall24, hz20⟩ := bnd hz20
        refine st_call hf (by decide) Try.func22 rfl rfl (wantY hf rfl rfl hb21) rfl rfl (f_pulse_plain_c hp _ _ (show Fl.rep bb15 ((gt points1 t27).2) from y17) _ _ (show Fl.rep 4638707616191610880 (Fl.bits 4638707616191610880) from rfl) hcall24) ?_
        rintro _ w ⟨rfl, hp0⟩
        clear hp; have hp := hp0; clear hp0
        replace hp : Hp _ _ _ (Res.sl Ek.c128 39 v9 out8 :: Res.obj 28 v1 [.int .i64 p0_Rate, .int .i64 p0_Fore, vp0_Taps] :: ow) := hp
        refine ⟨_, rfl, ?_⟩
        clear hf; intro a hf
        refine st_not hf (by decide) (wantY hf rfl rfl hb21) rfl ?_
        clear hf; intro a ha hf; clear ha
        obtain rfl := Option.some.inj hz20
        refine st_pick (v := .bool (!q23)) hf rfl rfl (fun hb' => ?_) (fun hb' => ?_) (by decide) ?_
        · exact absurd (hb21.symm.trans hb') (by decide)
        · rfl
        clear hf; intro a ha hf; clear ha
        refine st_nil hf (th_n ?_)
        exact ⟨hf.sub ⟨rfl, rfl, rfl, rfl, rfl, rfl, rfl, rfl, trivial⟩, hp⟩
      rintro a w ⟨hf, hp⟩
      refine st_nil hf ?_
      refine th_n ?_
      refine wp_if hf rfl (fun hb => ?_) (fun hb => ?_)
      · replace h := ifT h hb
        refine wp_seq ?_
        refine wp_reg ?_
        refine st_assign hf rfl rfl (by decide) ?_
        clear hf; intro a ha hf; clear ha
        refine st_assign hf rfl rfl (by decide) ?_
        clear hf; intro a ha hf; clear ha
        refine st_nil hf ?_
        refine th_n ?_
        refine wp_ret ?_
        refine th_r ?_
        refine ib_r ?_
        refine th_r ?_
        obtain rfl := Option.some.inj h
        have hp := hp.nil Ek.c128 39
        have hp : Hp _ _ _ (Res.sl Ek.c128 39 (.slice none 0 0) ([]) :: ow) := Hp.sel (pre := [Res.sl Ek.c128 39 (.slice none 0 0) ([]), Res.sl Ek.c128 39 v9 out8, Res.obj 28 v1 [.int .i64 p0_Rate, .int .i64 p0_Fore, vp0_Taps]]) (tail := ow) (rs' := [Res.sl Ek.c128 39 (.slice none 0 0) ([])]) hp [0] (by decide) (by simp) rfl
        exact rnd_r (by simp) ⟨rfl, ⟨_, hf.sub ⟨rfl, rfl, trivial⟩, hp⟩⟩
      replace h := ifF h hb
      refine wp_skip ?_
      refine th_n ?_
      refine wp_seq ?_
      refine wp_reg ?_
      refine st_fa (o' := 2) hf (by decide) (off := 2) (sz := 1) (by kernel_rfl) (by decide) rfl rfl (hp.ob (i := 1) rfl) rfl ?_
      clear hf; intro a ha hf; clear ha
      refine st_ldO (u := vp0_Taps) hf (by decide) pl26 rfl rfl (hp.ob (i := 1) rfl) rfl ?_
      clear hf; intro a ha hf; clear ha
      refine st_len (E := Ek.f64) hf (by decide) Try.underlying26 rfl rfl (hp0_Taps.sl hp) ?_
      clear hf; intro a ha hf; clear ha
      refine st_move hf rfl rfl (by decide) ?_
      clear hf; intro a ha hf; clear ha
      refine st_nil hf ?_
      refine th_n ?_
      refine wp_block ?_
      obtain ⟨q47, hl, h⟩ := bnd h
      refine wp_loop_pure (f := (f_pulse_Shape.s2 p0_Rate p0_Taps points1 t27)) (s := (out8, (0 : Int))) (fun s a w => ∃ (v26 : Value), Fr 73 a [(2, optr v1 0), (8, v26), (9, .int .i64 t27), (10, .complex .f64 bb14 bb15), (25, vpoints1), (26, .int .i64 (points1.length : Int)), (27, .int .i64 t27), (43, vp0_Taps), (44, .int .i64 (p0_Taps.length : Int)), (45, .int .i64 s.2)] ∧ Hp S w0 w (Res.sl Ek.c128 39 v26 s.1 :: Res.obj 28 v1 [.int .i64 p0_Rate, .int .i64 p0_Fore, vp0_Taps] :: ow)) (fun q e a w => e = .exit 2 ∧ ∃ (v28 : Value), Fr 73 a [(2, optr v1 0), (8, v28), (25, vpoints1), (26, .int .i64 (points1.length : Int)), (27, .int .i64 t27)] ∧ Hp S w0 w (Res.sl Ek.c128 39 v28 q :: Res.obj 28 v1 [.int .i64 p0_Rate, .int .i64 p0_Fore, vp0_Taps] :: ow)) ?_ hl ⟨_, hf.sub ⟨rfl, rfl, rfl, rfl, rfl, rfl, rfl, rfl, rfl, rfl, trivial⟩, hp⟩ ?_
      · clear hl hf hp
        intro s x a w h hI
        obtain ⟨out8, t45⟩ := s
        obtain ⟨v26, hf, hp⟩ : ∃ (v26 : Value), Fr 73 a [(2, optr v1 0), (8, v26), (9, .int .i64 t27), (10, .complex .f64 bb14 bb15), (25, vpoints1), (26, .int .i64 (points1.length : Int)), (27, .int .i64 t27), (43, vp0_Taps), (44, .int .i64 (p0_Taps.length : Int)), (45, .int .i64 t45)] ∧ Hp S w0 w (Res.sl Ek.c128 39 v26 out8 :: Res.obj 28 v1 [.int .i64 p0_Rate, .int .i64 p0_Fore, vp0_Taps] :: ow) := hI
        replace h : f_pulse_Shape.s2c p0_Rate p0_Taps points1 t27 out8 t45 = some x := h
        unfold f_pulse_Shape.s2c at h
        refine wp_seq ?_
        refine wp_reg ?_
        refine st_ilss hf (by decide) rfl rfl rfl ?_
        clear hf; intro a ha hf; clear ha
        refine st_nil hf ?_
        refine th_n ?_
        refine wp_seq ?_
        refine wp_if hf rfl (fun hb => ?_) (fun hb => ?_)
        · replace h := ifT h hb
          refine wp_skip ?_
          refine th_n ?_
          refine wp_seq ?_
          refine wp_block ?_
          refine wp_seq ?_
          refine wp_reg ?_
          refine st_move hf rfl rfl (by decide) ?_
          clear hf; intro a ha hf; clear ha
          obtain ⟨hc30, h⟩ := chk h
          refine st_index (E := Ek.f64) hf (by decide) Try.underlying26 elt33 rfl rfl rfl (hp0_Taps.sl hp) hc30.1 hc30.2 ?_
          clear hf; intro a ha hf; clear ha
          refine st_ldF hf (by decide) pl33 rfl rfl (hp0_Taps.sl hp) hc30.1 hc30.2 ?_
          clear hf; intro a bb31 y32 ha hf; clear ha
          refine st_assign hf rfl rfl (by decide) ?_
          clear hf; intro a ha hf; clear ha
          refine st_assign hf rfl rfl (by decide) ?_
          clear hf; intro a ha hf; clear ha
          refine st_nil hf ?_
          refine th_n ?_
          refine wp_reg ?_
          refine st_move hf rfl rfl (by decide) ?_
          clear hf; intro a ha hf; clear ha
          refine st_move hf rfl rfl (by decide) ?_
          clear hf; intro a ha hf; clear ha
          refine st_fa (o' := 0) hf (by decide) (off := 0) (sz := 1) (by kernel_rfl) (by decide) rfl rfl (hp.ob (i := 1) rfl) rfl ?_
          clear hf; intro a ha hf; clear ha
          refine st_ldO (u := .int .i64 p0_Rate) hf (by decide) pl3 rfl rfl (hp.ob (i := 1) rfl) rfl ?_
          clear hf; intro a ha hf; clear ha
          refine st_imul hf (by decide) rfl rfl rfl ?_
          clear hf; intro a ha hf; clear ha
          refine st_move hf rfl rfl (by decide) ?_
          clear hf; intro a ha hf; clear ha
          refine st_iadd hf (by decide) rfl rfl rfl ?_
          clear hf; intro a ha hf; clear ha
          obtain ⟨hc33, h⟩ := chk h
          refine st_index (E := Ek.c128) hf (by decide) Try.underlying32 elt39 rfl rfl rfl (hp.sl (i := 0) rfl) hc33.1 hc33.2 ?_
          clear hf; intro a ha hf; clear ha
          refine st_ldC hf (by decide) pl39 rfl rfl (hp.sl (i := 0) rfl) hc33.1 hc33.2 ?_
          clear hf; intro a bb34 bb35 y36 y37 ha hf; clear ha
          refine st_move hf rfl rfl (by decide) ?_
          clear hf; intro a ha hf; clear ha
          refine st_real hf (by decide) rfl rfl ?_
          clear hf; intro a ha hf; clear ha
          refine st_move hf rfl rfl (by decide) ?_
          clear hf; intro a ha hf; clear ha
          refine st_farith (op := .mul) rfl hf (by decide) hp rfl rfl rfl (show Fl.rep bb14 ((gt points1 t27).1) from y16) (show Fl.rep bb31 (gt p0_Taps t45) from y32) ?_
          clear hf; intro a w bb38 y39 hf hp0; clear hp; have hp := hp0; clear hp0
          replace hp : Hp _ _ _ (Res.sl Ek.c128 39 v26 out8 :: Res.obj 28 v1 [.int .i64 p0_Rate, .int .i64 p0_Fore, vp0_Taps] :: ow) := hp
          refine st_move hf rfl rfl (by decide) ?_
          clear hf; intro a ha hf; clear ha
          refine st_imag hf (by decide) rfl rfl ?_
          clear hf; intro a ha hf; clear ha
          refine st_move hf rfl rfl (by decide) ?_
          clear hf; intro a ha hf; clear ha
          refine st_farith (op := .mul) rfl hf (by decide) hp rfl rfl rfl (show Fl.rep bb15 ((gt points1 t27).2) from y17) (show Fl.rep bb31 (gt p0_Taps t45) from y32) ?_
          clear hf; intro a w bb40 y41 hf hp0; clear hp; have hp := hp0; clear hp0
          replace hp : Hp _ _ _ (Res.sl Ek.c128 39 v26 out8 :: Res.obj 28 v1 [.int .i64 p0_Rate, .int .i64 p0_Fore, vp0_Taps] :: ow) := hp
          refine st_complex hf (by decide) rfl rfl rfl ?_
          clear hf; intro a ha hf; clear ha
          refine st_carith (op := .add) (zx := (gt out8 (IntKind.i64.wrap ((IntKind.i64.wrap (t27 * p0_Rate)) + t45)))) (zy := ((fmul ((gt points1 t27).1) (gt p0_Taps t45)), (fmul ((gt points1 t27).2) (gt p0_Taps t45)))) rfl hf (by decide) hp rfl rfl rfl y36 y37 y39 y41 ?_
          clear hf; intro a w bb42 bb43 y44 y45 hf hp0; clear hp; have hp := hp0; clear hp0
          replace hp : Hp _ _ _ (Res.sl Ek.c128 39 v26 out8 :: Res.obj 28 v1 [.int .i64 p0_Rate, .int .i64 p0_Fore, vp0_Taps] :: ow) := hp
          obtain ⟨hc46, h⟩ := chk h
          refine st_index (E := Ek.c128) hf (by decide) Try.underlying32 elt39 rfl rfl rfl (hp.sl (i := 0) rfl) hc46.1 hc46.2 ?_
          clear hf; intro a ha hf; clear ha
          refine st_store (E := Ek.c128) hf elt39 hp (i := 0) rfl rfl rfl rfl (show Ek.c128.rep [.complex .f64 bb42 bb43] (cadd (gt out8 (IntKind.i64.wrap ((IntKind.i64.wrap (t27 * p0_Rate)) + t45))) ((fmul ((gt points1 t27).1) (gt p0_Taps t45)), (fmul ((gt points1 t27).2) (gt p0_Taps t45)))) from ⟨_, _, rfl, y44, y45⟩) hc46.1 hc46.2 ?_
          clear hf; intro a w hf hp0; clear hp; have hp := hp0; clear hp0
          replace hp : Hp _ _ _ (Res.sl Ek.c128 39 v26 (out8.set ((IntKind.i64.wrap ((IntKind.i64.wrap (t27 * p0_Rate)) + t45))).toNat (cadd (gt out8 (IntKind.i64.wrap ((IntKind.i64.wrap (t27 * p0_Rate)) + t45))) ((fmul ((gt points1 t27).1) (gt p0_Taps t45)), (fmul ((gt points1 t27).2) (gt p0_Taps t45))))) :: Res.obj 28 v1 [.int .i64 p0_Rate, .int .i64 p0_Fore, vp0_Taps] :: ow) := hp
          refine st_nil hf ?_
          refine ib_n ?_
          refine th_n ?_
          refine wp_reg ?_
          refine st_iadd hf (by decide) rfl rfl rfl ?_
          clear hf; intro a ha hf; clear ha
          refine st_move hf rfl rfl (by decide) ?_
          clear hf; intro a ha hf; clear ha
          refine st_nil hf ?_
          obtain rfl := Option.some.inj h
          exact rnd_l ⟨_, hf.sub ⟨rfl, rfl, rfl, rfl, rfl, rfl, rfl, rfl, rfl, rfl, trivial⟩, hp⟩
        replace h := ifF h hb
        refine wp_exit ?_
        refine th_e ?_
        obtain rfl := Option.some.inj h
        exact rnd_r (by simp) ⟨rfl, _, hf.sub ⟨rfl, rfl, rfl, rfl, rfl, trivial⟩, hp⟩
      clear hl hf hp
      intro e a w hne hO
      obtain ⟨rfl, v28, hf, hp⟩ := hO
      refine ib_same ?_
      refine ib_n ?_
      refine th_n ?_
      refine wp_reg ?_
      refine st_iadd hf (by decide) rfl rfl rfl ?_
      clear hf; intro a ha hf; clear ha
      refine st_move hf rfl rfl (by decide) ?_
      clear hf; intro a ha hf; clear ha
      refine st_nil hf ?_
      obtain rfl := Option.some.inj h
      exact rnd_l ⟨_, hf.sub ⟨rfl, rfl, rfl, rfl, rfl, trivial⟩, hp⟩
    replace h := ifF h hb
    refine wp_exit ?_
    refine th_e ?_
    obtain rfl := Option.some.inj h
    have hp : Hp _ _ _ (Res.sl Ek.c128 39 v9 out8 :: ow) := Hp.sel (pre := [Res.sl Ek.c128 39 v9 out8, Res.obj 28 v1 [.int .i64 p0_Rate, .int .i64 p0_Fore, vp0_Taps]]) (tail := ow) (rs' := [Res.sl Ek.c128 39 v9 out8]) hp [0] (by decide) (by simp) rfl
    exact rnd_r (by simp) ⟨rfl, _, hf.sub ⟨rfl, trivial⟩, hp⟩
  clear hl hf hp
  intro e a w hne hO
  rcases q48 with q49 | q50
  · replace h := smL h
    obtain ⟨rfl, v11, hf, hp⟩ := hO
    refine ib_same ?_
    refine th_n ?_
    refine wp_seq ?_
    refine wp_reg ?_
    refine st_move hf rfl rfl (by decide) ?_
    clear hf; intro a ha hf; clear ha
    refine st_assign hf rfl rfl (by decide) ?_
    clear hf; intro a ha hf; clear ha
    refine st_assign hf rfl rfl (by decide) ?_
    clear hf; intro a ha hf; clear ha
    refine st_nil hf ?_
    refine th_n ?_
    refine wp_ret ?_
    obtain rfl := Option.some.inj h
    exact ⟨rfl, ⟨_, hf.sub ⟨rfl, rfl, trivial⟩, hp⟩⟩
  replace h := smR h
  obtain ⟨rfl, x0, hf, hp⟩ := hO
  refine ib_r ?_
  refine th_r ?_
  obtain rfl := Option.some.inj h
  exact ⟨rfl, ⟨_, hf.sub ⟨rfl, rfl, trivial⟩, hp⟩⟩

noncomputable def f_math_normalize (xx0 : Fl) : Option (Fl × Int) := ((f_math_Abs xx0).bind fun q1 => (if (flt q1 (Fl.bits 4503599627370496)) = true then (some ((fmul xx0 (Fl.bits 4841369599423283200)), (-52 : Int))) else (some (xx0, (0 : Int)))))
theorem f_math_normalize_c {S : Nat → Prop} {w0 w : World} {ow : List Res} (hp : Hp S w0 w ow) (bxx0 : Nat) (xx0 : Fl) (hxx0 : xx0.rep bxx0) {r : (Fl × Int)} (h : f_math_normalize xx0 = some r) :
    Calls Try.prog 76 #[.float .f64 bxx0] w (fun e w' => ∃ (b0 : Nat), e = .returned (.tuple #[.float .f64 b0, .int .i64 r.2]) ∧ Fl.rep b0 r.1 ∧ Hp S w0 w' (ow)) := by
  unfold f_math_normalize at h
  refine enter (n := 10) (args := [.float .f64 bxx0]) Try.func76 rfl rfl (Nat.le_of_ble_eq_true rfl) fun a hf => ?_
  replace hf : Fr 10 a [(0, .float .f64 bxx0)] := hf
  refine wp_mono (Q := fun e a w => e = .ret ∧ ∃ (b0 : Nat), Fr 10 a [(2, .float .f64 b0), (3, .int .i64 r.2)] ∧ Fl.rep b0 r.1 ∧ Hp S w0 w (ow)) ?_ ?_
  rotate_left
  · rintro e a w ⟨rfl, x0, hf, y0, hp⟩
    exact ret2 hf rfl rfl rfl ⟨x0, rfl, y0, hp⟩
  refine wp_seq ?_
  refine wp_reg ?_
  refine st_assign hf rfl rfl (by decide) ?_
  clear hf; intro a ha hf; clear ha
  refine st_assign hf rfl rfl (by decide) ?_
  clear hf; intro a ha hf; clear ha
  refine st_nil hf ?_
  refine th_n ?_
  refine wp_seq ?_
  refine wp_seq ?_
  refine wp_reg ?_
  refine st_move hf rfl rfl (by decide) ?_
  clear hf; intro a ha hf; clear ha
  obtain ⟨q1, hcall2, h⟩ := bnd h
  refine st_call hf (by decide) Try.func37 rfl rfl rfl rfl rfl (f_math_Abs_c hp _ _ (show Fl.rep bxx0 xx0 from hxx0) hcall2) ?_
  rintro _ w ⟨v3, rfl, y4, hp0⟩
  clear hp; have hp := hp0; clear hp0
  replace hp : Hp _ _ _ (ow) := hp
  refine ⟨_, rfl, ?_⟩
  clear hf; intro a hf
  refine st_fcmp (r_flt (fx := q1) (fy := (Fl.bits 4503599627370496)) y4 rfl) hf (by decide) rfl rfl rfl ?_
  clear hf; intro a ha hf; clear ha
  refine st_nil hf ?_
  refine th_n ?_
  refine wp_if hf rfl (fun hb => ?_) (fun hb => ?_)
  · replace h := ifT h hb
    refine wp_seq ?_
    refine wp_reg ?_
    refine st_move hf rfl rfl (by decide) ?_
    clear hf; intro a ha hf; clear ha
    refine st_farith (op := .mul) rfl hf (by decide) hp rfl rfl rfl (show Fl.rep bxx0 xx0 from hxx0) (show Fl.rep 4841369599423283200 (Fl.bits 4841369599423283200) from rfl) ?_
    clear hf; intro a w bb5 y6 hf hp0; clear hp; have hp := hp0; clear hp0
    replace hp : Hp _ _ _ (ow) := hp
    refine st_assign hf rfl rfl (by decide) ?_
    clear hf; intro a ha hf; clear ha
    refine st_assign hf rfl rfl (by decide) ?_
    clear hf; intro a ha hf; clear ha
    refine st_nil hf ?_
    refine th_n ?_
    refine wp_ret ?_
    refine th_r ?_
    obtain rfl := Option.some.inj h
    exact ⟨rfl, ⟨_, hf.sub ⟨rfl, rfl, trivial⟩, y6, hp⟩⟩
  replace h := ifF h hb
  refine wp_skip ?_
  refine th_n ?_
  refine wp_seq ?_
  refine wp_reg ?_
  refine st_move hf rfl rfl (by decide) ?_
  clear hf; intro a ha hf; clear ha
  refine st_assign hf rfl rfl (by decide) ?_
  clear hf; intro a ha hf; clear ha
  refine st_assign hf rfl rfl (by decide) ?_
  clear hf; intro a ha hf; clear ha
  refine st_nil hf ?_
  refine th_n ?_
  refine wp_ret ?_
  obtain rfl := Option.some.inj h
  exact ⟨rfl, ⟨_, hf.sub ⟨rfl, rfl, trivial⟩, hxx0, hp⟩⟩

noncomputable def f_math_Copysign (f0 : Fl) (sign1 : Fl) : Option Fl := ((fbits f0).bind fun q1 => ((fbits sign1).bind fun q4 => (some (Fl.bits ((ior .u64 (iandn .u64 q1 (9223372036854775808 : Int)) (iand .u64 q4 (9223372036854775808 : Int)))).toNat))))
theorem f_math_Copysign_c {S : Nat → Prop} {w0 w : World} {ow : List Res} (hp : Hp S w0 w ow) (bf0 : Nat) (f0 : Fl) (hf0 : f0.rep bf0) (bsign1 : Nat) (sign1 : Fl) (hsign1 : sign1.rep bsign1) {r : Fl} (h : f_math_Copysign f0 sign1 = some r) :
    Calls Try.prog 66 #[.float .f64 bf0, .float .f64 bsign1] w (fun e w' => ∃ (b0 : Nat), e = .returned (.float .f64 b0) ∧ Fl.rep b0 r ∧ Hp S w0 w' (ow)) := by
  unfold f_math_Copysign at h
  refine enter (n := 13) (args := [.float .f64 bf0, .float .f64 bsign1]) Try.func66 rfl rfl (Nat.le_of_ble_eq_true rfl) fun a hf => ?_
  replace hf : Fr 13 a [(0, .float .f64 bf0), (1, .float .f64 bsign1)] := hf
  refine wp_mono (Q := fun e a w => e = .ret ∧ ∃ (b0 : Nat), Fr 13 a [(4, .float .f64 b0)] ∧ Fl.rep b0 r ∧ Hp S w0 w (ow)) ?_ ?_
  rotate_left
  · rintro e a w ⟨rfl, x0, hf, y0, hp⟩
    exact ret1 hf rfl rfl ⟨x0, rfl, y0, hp⟩
  refine wp_seq ?_
  refine wp_reg ?_
  refine st_assign hf rfl rfl (by decide) ?_
  clear hf; intro a ha hf; clear ha
  refine st_nil hf ?_
  refine th_n ?_
  refine wp_seq ?_
  refine wp_reg ?_
  refine st_move hf rfl rfl (by decide) ?_
  clear hf; intro a ha hf; clear ha
  obtain ⟨q1, hq2, h⟩ := bnd h
  refine st_extern (ex := Extern.MathFloatBits.float64bits) (r := .int .u64 (bf0 : Int)) (f := 56) (vs := [.float .f64 bf0]) hf (by decide) Try.func56 rfl rfl (by kernel_rfl) (by kernel_rfl) rfl rfl rfl rfl ?_
  clear hf; intro a ha hf; clear ha
  have he3 := fbits_rep hf0 hq2; rw [← he3] at hf
  refine st_iandn hf (by decide) rfl rfl rfl ?_
  clear hf; intro a ha hf; clear ha
  refine st_move hf rfl rfl (by decide) ?_
  clear hf; intro a ha hf; clear ha
  obtain ⟨q4, hq5, h⟩ := bnd h
  refine st_extern (ex := Extern.MathFloatBits.float64bits) (r := .int .u64 (bsign1 : Int)) (f := 56) (vs := [.float .f64 bsign1]) hf (by decide) Try.func56 rfl rfl (by kernel_rfl) (by kernel_rfl) rfl rfl rfl rfl ?_
  clear hf; intro a ha hf; clear ha
  have he6 := fbits_rep hsign1 hq5; rw [← he6] at hf
  refine st_iand hf (by decide) rfl rfl rfl ?_
  clear hf; intro a ha hf; clear ha
  refine st_ior hf (by decide) rfl rfl rfl ?_
  clear hf; intro a ha hf; clear ha
  refine st_extern (ex := Extern.MathFloatBits.float64frombits) (r := .float .f64 ((ior .u64 (iandn .u64 q1 (9223372036854775808 : Int)) (iand .u64 q4 (9223372036854775808 : Int)))).toNat) (f := 55) (vs := [.int .u64 (ior .u64 (iandn .u64 q1 (9223372036854775808 : Int)) (iand .u64 q4 (9223372036854775808 : Int)))]) hf (by decide) Try.func55 rfl rfl (by kernel_rfl) (by kernel_rfl) rfl rfl rfl rfl ?_
  clear hf; intro a ha hf; clear ha
  refine st_assign hf rfl rfl (by decide) ?_
  clear hf; intro a ha hf; clear ha
  refine st_nil hf ?_
  refine th_n ?_
  refine wp_ret ?_
  obtain rfl := Option.some.inj h
  exact ⟨rfl, ⟨_, hf.sub ⟨rfl, trivial⟩, rfl, hp⟩⟩

noncomputable def f_math_Inf.j1 (vx3 : Int) : Option Fl := (some (Fl.bits (vx3).toNat))
noncomputable def f_math_Inf (sign0 : Int) : Option Fl := (if (decide ((0 : Int) ≤ sign0)) = true then (f_math_Inf.j1 (9218868437227405312 : Int)) else (f_math_Inf.j1 (18442240474082181120 : Int)))
theorem f_math_Inf_c {S : Nat → Prop} {w0 w : World} {ow : List Res} (hp : Hp S w0 w ow) (sign0 : Int) {r : Fl} (h : f_math_Inf sign0 = some r) :
    Calls Try.prog 77 #[.int .i64 sign0] w (fun e w' => ∃ (b0 : Nat), e = .returned (.float .f64 b0) ∧ Fl.rep b0 r ∧ Hp S w0 w' (ow)) := by
  unfold f_math_Inf at h
  refine enter (n := 8) (args := [.int .i64 sign0]) Try.func77 rfl rfl (Nat.le_of_ble_eq_true rfl) fun a hf => ?_
  replace hf : Fr 8 a [(0, .int .i64 sign0)] := hf
  refine wp_mono (Q := fun e a w => e = .ret ∧ ∃ (b0 : Nat), Fr 8 a [(2, .float .f64 b0)] ∧ Fl.rep b0 r ∧ Hp S w0 w (ow)) ?_ ?_
  rotate_left
  · rintro e a w ⟨rfl, x0, hf, y0, hp⟩
    exact ret1 hf rfl rfl ⟨x0, rfl, y0, hp⟩
  refine wp_seq ?_
  refine wp_reg ?_
  refine st_assign hf rfl rfl (by decide) ?_
  clear hf; intro a ha hf; clear ha
  refine st_nil hf ?_
  refine th_n ?_
  refine wp_seq ?_
  refine wp_reg ?_
  refine st_assign hf rfl rfl (by decide) ?_
  clear hf; intro a ha hf; clear ha
  refine st_nil hf ?_
  refine th_n ?_
  refine wp_seq_cut (fun a w => ∃ (vx3 : Int), f_math_Inf.j1 vx3 = some r ∧ Fr 8 a [(3, .int .u64 vx3)] ∧ Hp S w0 w (ow)) ?_ ?_
  · skip
    refine wp_seq ?_
    refine wp_reg ?_
    refine st_move hf rfl rfl (by decide) ?_
    clear hf; intro a ha hf; clear ha
    refine st_igeq hf (by decide) rfl rfl rfl ?_
    clear hf; intro a ha hf; clear ha
    refine st_nil hf ?_
    refine th_n ?_
    refine wp_if hf rfl (fun hb => ?_) (fun hb => ?_)
    · replace h := ifT h hb
      refine wp_reg ?_
      refine st_assign hf rfl rfl (by decide) ?_
      clear hf; intro a ha hf; clear ha
      refine st_nil hf ?_
      refine th_n ?_
      exact ⟨_, h, hf.sub ⟨rfl, trivial⟩, hp⟩
    replace h := ifF h hb
    refine wp_reg ?_
    refine st_assign hf rfl rfl (by decide) ?_
    clear hf; intro a ha hf; clear ha
    refine st_nil hf ?_
    refine th_n ?_
    exact ⟨_, h, hf.sub ⟨rfl, trivial⟩, hp⟩
  rintro a w ⟨vx3, h, hf, hp⟩
  unfold f_math_Inf.j1 at h
  refine wp_seq ?_
  refine wp_reg ?_
  refine st_move hf rfl rfl (by decide) ?_
  clear hf; intro a ha hf; clear ha
  refine st_extern (ex := Extern.MathFloatBits.float64frombits) (r := .float .f64 (vx3).toNat) (f := 55) (vs := [.int .u64 vx3]) hf (by decide) Try.func55 rfl rfl (by kernel_rfl) (by kernel_rfl) rfl rfl rfl rfl ?_
  clear hf; intro a ha hf; clear ha
  refine st_assign hf rfl rfl (by decide) ?_
  clear hf; intro a ha hf; clear ha
  refine st_nil hf ?_
  refine th_n ?_
  refine wp_ret ?_
  obtain rfl := Option.some.inj h
  exact ⟨rfl, ⟨_, hf.sub ⟨rfl, trivial⟩, rfl, hp⟩⟩

noncomputable def f_math_ldexp.j1 (q12 : Int) (exp1 : Int) (m7 : Fl) : Option Fl := (some (fmul m7 (Fl.bits ((ior .u64 (iandn .u64 q12 (9218868437227405312 : Int)) (ishl .u64 (IntKind.u64.wrap (IntKind.i64.wrap (exp1 + (1023 : Int)))) (52 : Int)))).toNat)))
noncomputable def f_math_ldexp (frac0 : Fl) (exp1 : Int) : Option Fl := (if (feq frac0 (Fl.bits 0)) = true then (some frac0) else ((f_math_IsInf frac0 (0 : Int)).bind fun q1 => ((if q1 = true then (some true) else ((f_math_IsNaN frac0).bind fun q6 => (some q6))).bind fun z5 => (if z5 = true then (some frac0) else ((f_math_normalize frac0).bind fun q8 => ((fbits q8.1).bind fun q12 => (if (decide ((IntKind.i64.wrap ((IntKind.i64.wrap (exp1 + q8.2)) + (IntKind.i64.wrap ((iand .i64 (IntKind.i64.wrap (ishr .u64 q12 (52 : Int))) (2047 : Int)) - (1023 : Int))))) < (-1075 : Int))) = true then ((f_math_Copysign (Fl.bits 0) q8.1).bind fun q15 => (some q15)) else (if (decide ((1023 : Int) < (IntKind.i64.wrap ((IntKind.i64.wrap (exp1 + q8.2)) + (IntKind.i64.wrap ((iand .i64 (IntKind.i64.wrap (ishr .u64 q12 (52 : Int))) (2047 : Int)) - (1023 : Int))))))) = true then (if (flt q8.1 (Fl.bits 0)) = true then ((f_math_Inf (-1 : Int)).bind fun q19 => (some q19)) else ((f_math_Inf (1 : Int)).bind fun q23 => (some q23))) else (if (decide ((IntKind.i64.wrap ((IntKind.i64.wrap (exp1 + q8.2)) + (IntKind.i64.wrap ((iand .i64 (IntKind.i64.wrap (ishr .u64 q12 (52 : Int))) (2047 : Int)) - (1023 : Int))))) < (-1022 : Int))) = true then (f_math_ldexp.j1 q12 (IntKind.i64.wrap ((IntKind.i64.wrap ((IntKind.i64.wrap (exp1 + q8.2)) + (IntKind.i64.wrap ((iand .i64 (IntKind.i64.wrap (ishr .u64 q12 (52 : Int))) (2047 : Int)) - (1023 : Int))))) + (53 : Int))) (Fl.bits 4368491638549381120)) else (f_math_ldexp.j1 q12 (IntKind.i64.wrap ((IntKind.i64.wrap (exp1 + q8.2)) + (IntKind.i64.wrap ((iand .i64 (IntKind.i64.wrap (ishr .u64 q12 (52 : Int))) (2047 : Int)) - (1023 : Int))))) (Fl.bits 4607182418800017408)))))))))))
theorem f_math_ldexp_c {S : Nat → Prop} {w0 w : World} {ow : List Res} (hp : Hp S w0 w ow) (bfrac0 : Nat) (frac0 : Fl) (hfrac0 : frac0.rep bfrac0) (exp1 : Int) {r : Fl} (h : f_math_ldexp frac0 exp1 = some r) :
    Calls Try.prog 68 #[.float .f64 bfrac0, .int .i64 exp1] w (fun e w' => ∃ (b0 : Nat), e = .returned (.float .f64 b0) ∧ Fl.rep b0 r ∧ Hp S w0 w' (ow)) := by
  unfold f_math_ldexp at h
  refine enter (n := 63) (args := [.float .f64 bfrac0, .int .i64 exp1]) Try.func68 rfl rfl (Nat.le_of_ble_eq_true rfl) fun a hf => ?_
  replace hf : Fr 63 a [(0, .float .f64 bfrac0), (1, .int .i64 exp1)] := hf
  refine wp_mono (Q := fun e a w => e = .ret ∧ ∃ (b0 : Nat), Fr 63 a [(4, .float .f64 b0)] ∧ Fl.rep b0 r ∧ Hp S w0 w (ow)) ?_ ?_
  rotate_left
  · rintro e a w ⟨rfl, x0, hf, y0, hp⟩
    exact ret1 hf rfl rfl ⟨x0, rfl, y0, hp⟩
  refine wp_seq ?_
  refine wp_reg ?_
  refine st_assign hf rfl rfl (by decide) ?_
  clear hf; intro a ha hf; clear ha
  refine st_nil hf ?_
  refine th_n ?_
  refine wp_seq ?_
  refine wp_block ?_
  refine wp_seq ?_
  refine wp_reg ?_
  refine st_move hf rfl rfl (by decide) ?_
  clear hf; intro a ha hf; clear ha
  refine st_fcmp (r_feq (fx := frac0) (fy := (Fl.bits 0)) hfrac0 rfl) hf (by decide) rfl rfl rfl ?_
  clear hf; intro a ha hf; clear ha
  refine st_assign hf rfl rfl (by decide) ?_
  clear hf; intro a ha hf; clear ha
  refine st_nil hf ?_
  refine th_n ?_
  refine wp_if hf rfl (fun hb => ?_) (fun hb => ?_)
  · replace h := ifT h hb
    refine wp_seq ?_
    refine wp_reg ?_
    refine st_move hf rfl rfl (by decide) ?_
    clear hf; intro a ha hf; clear ha
    refine st_assign hf rfl rfl (by decide) ?_
    clear hf; intro a ha hf; clear ha
    refine st_nil hf ?_
    refine th_n ?_
    refine wp_ret ?_
    refine ib_r ?_
    refine th_r ?_
    obtain rfl := Option.some.inj h
    exact ⟨rfl, ⟨_, hf.sub ⟨rfl, trivial⟩, hfrac0, hp⟩⟩
  replace h := ifF h hb
  refine wp_seq ?_
  refine wp_reg ?_
  refine st_move hf rfl rfl (by decide) ?_
  clear hf; intro a ha hf; clear ha
  obtain ⟨q1, hcall2, h⟩ := bnd h
  refine st_call hf (by decide) Try.func73 rfl rfl rfl rfl rfl (f_math_IsInf_c hp _ _ (show Fl.rep bfrac0 frac0 from hfrac0) _ hcall2) ?_
  rintro _ w ⟨rfl, hp0⟩
  clear hp; have hp := hp0; clear hp0
  replace hp : Hp _ _ _ (ow) := hp
  refine ⟨_, rfl, ?_⟩
  clear hf; intro a hf
  refine st_move hf rfl rfl (by decide) ?_
  clear hf; intro a ha hf; clear ha
  obtain ⟨z5, hz3, h⟩ := bnd h
  refine wpList_cut 3 (fun a w => Fr 63 a [(0, .float .f64 bfrac0), (1, .int .i64 exp1), (18, .bool z5)] ∧ Hp S w0 w (ow)) ?_ ?_
  · rcases Bool.eq_false_or_eq_true q1 with hb4 | hb4
    · skip
      replace hz3 := ifT hz3 hb4
      refine st_skip hf (wantN hf rfl rfl hb4) rfl (by decide) ?_ rfl
      clear hf; intro a hf
      refine st_skip hf (wantN hf rfl rfl hb4) rfl (by decide) ?_ rfl
      clear hf; intro a hf
      obtain rfl := Option.some.inj hz3
      refine st_pick (v := .bool true) hf rfl rfl (fun hb' => ?_) (fun hb' => ?_) (by decide) ?_
      · rfl
      · exact absurd (hb4.symm.trans hb') (by decide)
      clear hf; intro a ha hf; clear ha
      refine st_nil hf (th_n ?_)
      exact ⟨hf.sub ⟨rfl, rfl, rfl, trivial⟩, hp⟩
    replace hz3 := ifF hz3 hb4
    refine st_move hf (wantY hf rfl rfl hb4) rfl (by decide) ?_
    clear hf; intro a ha hf; clear ha
    obtain ⟨q6, hcall7, hz3⟩ := bnd hz3
    refine st_call hf (by decide) Try.func75 rfl rfl (wantY hf rfl rfl hb4) rfl rfl (f_math_IsNaN_c hp _ _ (show Fl.rep bfrac0 frac0 from hfrac0) hcall7) ?_
    rintro _ w ⟨rfl, hp0⟩
    clear hp; have hp := hp0; clear hp0
    replace hp : Hp _ _ _ (ow) := hp
    refine ⟨_, rfl, ?_⟩
    clear hf; intro a hf
    obtain rfl := Option.some.inj hz3
    refine st_pick (v := .bool q6) hf rfl rfl (fun hb' => ?_) (fun hb' => ?_) (by decide) ?_
    · exact absurd (hb4.symm.trans hb') (by decide)
    · rfl
    clear hf; intro a ha hf; clear ha
    refine st_nil hf (th_n ?_)
    exact ⟨hf.sub ⟨rfl, rfl, rfl, trivial⟩, hp⟩
  rintro a w ⟨hf, hp⟩
  refine st_assign hf rfl rfl (by decide) ?_
  clear hf; intro a ha hf; clear ha
  refine st_nil hf ?_
  refine th_n ?_
  refine wp_if hf rfl (fun hb => ?_) (fun hb => ?_)
  · replace h := ifT h hb
    refine wp_seq ?_
    refine wp_reg ?_
    refine st_move hf rfl rfl (by decide) ?_
    clear hf; intro a ha hf; clear ha
    refine st_assign hf rfl rfl (by decide) ?_
    clear hf; intro a ha hf; clear ha
    refine st_nil hf ?_
    refine th_n ?_
    refine wp_ret ?_
    refine ib_r ?_
    refine th_r ?_
    obtain rfl := Option.some.inj h
    exact ⟨rfl, ⟨_, hf.sub ⟨rfl, trivial⟩, hfrac0, hp⟩⟩
  replace h := ifF h hb
  refine wp_skip ?_
  refine ib_n ?_
  refine th_n ?_
  refine wp_seq ?_
  refine wp_reg ?_
  refine st_move hf rfl rfl (by decide) ?_
  clear hf; intro a ha hf; clear ha
  obtain ⟨q8, hcall9, h⟩ := bnd h
  refine st_call hf (by decide) Try.func76 rfl rfl rfl rfl rfl (f_math_normalize_c hp _ _ (show Fl.rep bfrac0 frac0 from hfrac0) hcall9) ?_
  rintro _ w ⟨v10, rfl, y11, hp0⟩
  clear hp; have hp := hp0; clear hp0
  replace hp : Hp _ _ _ (ow) := hp
  refine ⟨_, rfl, ?_⟩
  clear hf; intro a hf
  refine st_move hf rfl rfl (by decide) ?_
  clear hf; intro a ha hf; clear ha
  refine st_extract hf (by decide) rfl rfl rfl ?_
  clear hf; intro a ha hf; clear ha
  refine st_extract hf (by decide) rfl rfl rfl ?_
  clear hf; intro a ha hf; clear ha
  refine st_assign hf rfl rfl (by decide) ?_
  clear hf; intro a ha hf; clear ha
  refine st_assign hf rfl rfl (by decide) ?_
  clear hf; intro a ha hf; clear ha
  refine st_nil hf ?_
  refine th_n ?_
  refine wp_seq ?_
  refine wp_reg ?_
  refine st_move hf rfl rfl (by decide) ?_
  clear hf; intro a ha hf; clear ha
  refine st_move hf rfl rfl (by decide) ?_
  clear hf; intro a ha hf; clear ha
  refine st_iadd hf (by decide) rfl rfl rfl ?_
  clear hf; intro a ha hf; clear ha
  refine st_assign hf rfl rfl (by decide) ?_
  clear hf; intro a ha hf; clear ha
  refine st_nil hf ?_
  refine th_n ?_
  refine wp_seq ?_
  refine wp_reg ?_
  refine st_move hf rfl rfl (by decide) ?_
  clear hf; intro a ha hf; clear ha
  obtain ⟨q12, hq13, h⟩ := bnd h
  refine st_extern (ex := Extern.MathFloatBits.float64bits) (r := .int .u64 (v10 : Int)) (f := 56) (vs := [.float .f64 v10]) hf (by decide) Try.func56 rfl rfl (by kernel_rfl) (by kernel_rfl) rfl rfl rfl rfl ?_
  clear hf; intro a ha hf; clear ha
  have he14 := fbits_rep y11 hq13; rw [← he14] at hf
  refine st_assign hf rfl rfl (by decide) ?_
  clear hf; intro a ha hf; clear ha
  refine st_nil hf ?_
  refine th_n ?_
  refine wp_seq ?_
  refine wp_reg ?_
  refine st_move hf rfl rfl (by decide) ?_
  clear hf; intro a ha hf; clear ha
  refine st_move hf rfl rfl (by decide) ?_
  clear hf; intro a ha hf; clear ha
  refine st_ishr hf (by decide) rfl rfl rfl (by decide) ?_
  clear hf; intro a ha hf; clear ha
  refine st_conv_ii hf (by decide) (by rw [Try.underlying110]; rfl) Try.underlying3 rfl rfl ?_
  clear hf; intro a ha hf; clear ha
  refine st_iand hf (by decide) rfl rfl rfl ?_
  clear hf; intro a ha hf; clear ha
  refine st_isub hf (by decide) rfl rfl rfl ?_
  clear hf; intro a ha hf; clear ha
  refine st_iadd hf (by decide) rfl rfl rfl ?_
  clear hf; intro a ha hf; clear ha
  refine st_assign hf rfl rfl (by decide) ?_
  clear hf; intro a ha hf; clear ha
  refine st_nil hf ?_
  refine th_n ?_
  refine wp_seq ?_
  refine wp_seq ?_
  refine wp_reg ?_
  refine st_move hf rfl rfl (by decide) ?_
  clear hf; intro a ha hf; clear ha
  refine st_ilss hf (by decide) rfl rfl rfl ?_
  clear hf; intro a ha hf; clear ha
  refine st_nil hf ?_
  refine th_n ?_
  refine wp_if hf rfl (fun hb => ?_) (fun hb => ?_)
  · replace h := ifT h hb
    refine wp_seq ?_
    refine wp_reg ?_
    refine st_move hf rfl rfl (by decide) ?_
    clear hf; intro a ha hf; clear ha
    obtain ⟨q15, hcall16, h⟩ := bnd h
    refine st_call hf (by decide) Try.func66 rfl rfl rfl rfl rfl (f_math_Copysign_c hp _ _ (show Fl.rep 0 (Fl.bits 0) from rfl) _ _ (show Fl.rep v10 q8.1 from y11) hcall16) ?_
    rintro _ w ⟨v17, rfl, y18, hp0⟩
    clear hp; have hp := hp0; clear hp0
    replace hp : Hp _ _ _ (ow) := hp
    refine ⟨_, rfl, ?_⟩
    clear hf; intro a hf
    refine st_assign hf rfl rfl (by decide) ?_
    clear hf; intro a ha hf; clear ha
    refine st_nil hf ?_
    refine th_n ?_
    refine wp_ret ?_
    refine th_r ?_
    obtain rfl := Option.some.inj h
    exact ⟨rfl, ⟨_, hf.sub ⟨rfl, trivial⟩, y18, hp⟩⟩
  replace h := ifF h hb
  refine wp_skip ?_
  refine th_n ?_
  refine wp_seq ?_
  refine wp_seq ?_
  refine wp_reg ?_
  refine st_move hf rfl rfl (by decide) ?_
  clear hf; intro a ha hf; clear ha
  refine st_igtr hf (by decide) rfl rfl rfl ?_
  clear hf; intro a ha hf; clear ha
  refine st_nil hf ?_
  refine th_n ?_
  refine wp_if hf rfl (fun hb => ?_) (fun hb => ?_)
  · replace h := ifT h hb
    refine wp_seq ?_
    refine wp_seq ?_
    refine wp_reg ?_
    refine st_move hf rfl rfl (by decide) ?_
    clear hf; intro a ha hf; clear ha
    refine st_fcmp (r_flt (fx := q8.1) (fy := (Fl.bits 0)) y11 rfl) hf (by decide) rfl rfl rfl ?_
    clear hf; intro a ha hf; clear ha
    refine st_nil hf ?_
    refine th_n ?_
    refine wp_if hf rfl (fun hb => ?_) (fun hb => ?_)
    · replace h := ifT h hb
      refine wp_seq ?_
      refine wp_reg ?_
      obtain ⟨q19, hcall20, h⟩ := bnd h
      refine st_call hf (by decide) Try.func77 rfl rfl rfl rfl rfl (f_math_Inf_c hp _ hcall20) ?_
      rintro _ w ⟨v21, rfl, y22, hp0⟩
      clear hp; have hp := hp0; clear hp0
      replace hp : Hp _ _ _ (ow) := hp
      refine ⟨_, rfl, ?_⟩
      clear hf; intro a hf
      refine st_assign hf rfl rfl (by decide) ?_
      clear hf; intro a ha hf; clear ha
      refine st_nil hf ?_
      refine th_n ?_
      refine wp_ret ?_
      refine th_r ?_
      refine th_r ?_
      obtain rfl := Option.some.inj h
      exact ⟨rfl, ⟨_, hf.sub ⟨rfl, trivial⟩, y22, hp⟩⟩
    replace h := ifF h hb
    refine wp_skip ?_
    refine th_n ?_
    refine wp_seq ?_
    refine wp_reg ?_
    obtain ⟨q23, hcall24, h⟩ := bnd h
    refine st_call hf (by decide) Try.func77 rfl rfl rfl rfl rfl (f_math_Inf_c hp _ hcall24) ?_
    rintro _ w ⟨v25, rfl, y26, hp0⟩
    clear hp; have hp := hp0; clear hp0
    replace hp : Hp _ _ _ (ow) := hp
    refine ⟨_, rfl, ?_⟩
    clear hf; intro a hf
    refine st_assign hf rfl rfl (by decide) ?_
    clear hf; intro a ha hf; clear ha
    refine st_nil hf ?_
    refine th_n ?_
    refine wp_ret ?_
    refine th_r ?_
    obtain rfl := Option.some.inj h
    exact ⟨rfl, ⟨_, hf.sub ⟨rfl, trivial⟩, y26, hp⟩⟩
  replace h := ifF h hb
  refine wp_skip ?_
  refine th_n ?_
  refine wp_seq ?_
  refine wp_reg ?_
  refine st_assign hf rfl rfl (by decide) ?_
  clear hf; intro a ha hf; clear ha
  refine st_nil hf ?_
  refine th_n ?_
  refine wp_seq_cut (fun a w => ∃ (exp1 : Int) (m7 : Fl) (bb27 : Nat), f_math_ldexp.j1 q12 exp1 m7 = some r ∧ Fr 63 a [(1, .int .i64 exp1), (6, .int .u64 q12), (7, .float .f64 bb27)] ∧ Fl.rep bb27 m7 ∧ Hp S w0 w (ow)) ?_ ?_
  · skip
    refine wp_seq ?_
    refine wp_reg ?_
    refine st_move hf rfl rfl (by decide) ?_
    clear hf; intro a ha hf; clear ha
    refine st_ilss hf (by decide) rfl rfl rfl ?_
    clear hf; intro a ha hf; clear ha
    refine st_nil hf ?_
    refine th_n ?_
    refine wp_if hf rfl (fun hb => ?_) (fun hb => ?_)
    · replace h := ifT h hb
      refine wp_seq ?_
      refine wp_reg ?_
      refine st_move hf rfl rfl (by decide) ?_
      clear hf; intro a ha hf; clear ha
      refine st_iadd hf (by decide) rfl rfl rfl ?_
      clear hf; intro a ha hf; clear ha
      refine st_assign hf rfl rfl (by decide) ?_
      clear hf; intro a ha hf; clear ha
      refine st_nil hf ?_
      refine th_n ?_
      refine wp_reg ?_
      refine st_assign hf rfl rfl (by decide) ?_
      clear hf; intro a ha hf; clear ha
      refine st_nil hf ?_
      refine th_n ?_
      exact ⟨_, _, _, h, hf.sub ⟨rfl, rfl, rfl, trivial⟩, rfl, hp⟩
    replace h := ifF h hb
    refine wp_skip ?_
    refine th_n ?_
    exact ⟨_, _, _, h, hf.sub ⟨rfl, rfl, rfl, trivial⟩, rfl, hp⟩
  rintro a w ⟨exp1, m7, bb27, h, hf, y28, hp⟩
  unfold f_math_ldexp.j1 at h
  refine wp_seq ?_
  refine wp_reg ?_
  refine st_move hf rfl rfl (by decide) ?_
  clear hf; intro a ha hf; clear ha
  refine st_iandn hf (by decide) rfl rfl rfl ?_
  clear hf; intro a ha hf; clear ha
  refine st_assign hf rfl rfl (by decide) ?_
  clear hf; intro a ha hf; clear ha
  refine st_nil hf ?_
  refine th_n ?_
  refine wp_seq ?_
  refine wp_reg ?_
  refine st_move hf rfl rfl (by decide) ?_
  clear hf; intro a ha hf; clear ha
  refine st_move hf rfl rfl (by decide) ?_
  clear hf; intro a ha hf; clear ha
  refine st_iadd hf (by decide) rfl rfl rfl ?_
  clear hf; intro a ha hf; clear ha
  refine st_conv_ii hf (by decide) (by rw [Try.underlying3]; rfl) Try.underlying110 rfl rfl ?_
  clear hf; intro a ha hf; clear ha
  refine st_ishl hf (by decide) rfl rfl rfl (by decide) ?_
  clear hf; intro a ha hf; clear ha
  refine st_ior hf (by decide) rfl rfl rfl ?_
  clear hf; intro a ha hf; clear ha
  refine st_assign hf rfl rfl (by decide) ?_
  clear hf; intro a ha hf; clear ha
  refine st_nil hf ?_
  refine th_n ?_
  refine wp_seq ?_
  refine wp_reg ?_
  refine st_move hf rfl rfl (by decide) ?_
  clear hf; intro a ha hf; clear ha
  refine st_move hf rfl rfl (by decide) ?_
  clear hf; intro a ha hf; clear ha
  refine st_extern (ex := Extern.MathFloatBits.float64frombits) (r := .float .f64 ((ior .u64 (iandn .u64 q12 (9218868437227405312 : Int)) (ishl .u64 (IntKind.u64.wrap (IntKind.i64.wrap (exp1 + (1023 : Int)))) (52 : Int)))).toNat) (f := 55) (vs := [.int .u64 (ior .u64 (iandn .u64 q12 (9218868437227405312 : Int)) (ishl .u64 (IntKind.u64.wrap (IntKind.i64.wrap (exp1 + (1023 : Int)))) (52 : Int)))]) hf (by decide) Try.func55 rfl rfl (by kernel_rfl) (by kernel_rfl) rfl rfl rfl rfl ?_
  clear hf; intro a ha hf; clear ha
  refine st_farith (op := .mul) rfl hf (by decide) hp rfl rfl rfl (show Fl.rep bb27 m7 from y28) (show Fl.rep (((ior .u64 (iandn .u64 q12 (9218868437227405312 : Int)) (ishl .u64 (IntKind.u64.wrap (IntKind.i64.wrap (exp1 + (1023 : Int)))) (52 : Int)))).toNat) (Fl.bits ((ior .u64 (iandn .u64 q12 (9218868437227405312 : Int)) (ishl .u64 (IntKind.u64.wrap (IntKind.i64.wrap (exp1 + (1023 : Int)))) (52 : Int)))).toNat) from rfl) ?_
  clear hf; intro a w bb29 y30 hf hp0; clear hp; have hp := hp0; clear hp0
  replace hp : Hp _ _ _ (ow) := hp
  refine st_assign hf rfl rfl (by decide) ?_
  clear hf; intro a ha hf; clear ha
  refine st_nil hf ?_
  refine th_n ?_
  refine wp_ret ?_
  obtain rfl := Option.some.inj h
  exact ⟨rfl, ⟨_, hf.sub ⟨rfl, trivial⟩, y30, hp⟩⟩

noncomputable def f_math_Ldexp (frac0 : Fl) (exp1 : Int) : Option Fl := ((f_math_ldexp frac0 exp1).bind fun q1 => (some q1))
theorem f_math_Ldexp_c {S : Nat → Prop} {w0 w : World} {ow : List Res} (hp : Hp S w0 w ow) (bfrac0 : Nat) (frac0 : Fl) (hfrac0 : frac0.rep bfrac0) (exp1 : Int) {r : Fl} (h : f_math_Ldexp frac0 exp1 = some r) :
    Calls Try.prog 60 #[.float .f64 bfrac0, .int .i64 exp1] w (fun e w' => ∃ (b0 : Nat), e = .returned (.float .f64 b0) ∧ Fl.rep b0 r ∧ Hp S w0 w' (ow)) := by
  unfold f_math_Ldexp at h
  refine enter (n := 11) (args := [.float .f64 bfrac0, .int .i64 exp1]) Try.func60 rfl rfl (Nat.le_of_ble_eq_true rfl) fun a hf => ?_
  replace hf : Fr 11 a [(0, .float .f64 bfrac0), (1, .int .i64 exp1)] := hf
  refine wp_mono (Q := fun e a w => e = .ret ∧ ∃ (b0 : Nat), Fr 11 a [(4, .float .f64 b0)] ∧ Fl.rep b0 r ∧ Hp S w0 w (ow)) ?_ ?_
  rotate_left
  · rintro e a w ⟨rfl, x0, hf, y0, hp⟩
    exact ret1 hf rfl rfl ⟨x0, rfl, y0, hp⟩
  refine wp_seq ?_
  refine wp_reg ?_
  refine st_assign hf rfl rfl (by decide) ?_
  clear hf; intro a ha hf; clear ha
  refine st_nil hf ?_
  refine th_n ?_
  refine wp_seq ?_
  refine wp_if hf rfl (fun hb => ?_) (fun hb => ?_)
  · exact absurd hb (by decide)
  refine wp_skip ?_
  refine th_n ?_
  refine wp_seq ?_
  refine wp_reg ?_
  refine st_move hf rfl rfl (by decide) ?_
  clear hf; intro a ha hf; clear ha
  refine st_move hf rfl rfl (by decide) ?_
  clear hf; intro a ha hf; clear ha
  obtain ⟨q1, hcall2, h⟩ := bnd h
  refine st_call hf (by decide) Try.func68 rfl rfl rfl rfl rfl (f_math_ldexp_c hp _ _ (show Fl.rep bfrac0 frac0 from hfrac0) _ hcall2) ?_
  rintro _ w ⟨v3, rfl, y4, hp0⟩
  clear hp; have hp := hp0; clear hp0
  replace hp : Hp _ _ _ (ow) := hp
  refine ⟨_, rfl, ?_⟩
  clear hf; intro a hf
  refine st_assign hf rfl rfl (by decide) ?_
  clear hf; intro a ha hf; clear ha
  refine st_nil hf ?_
  refine th_n ?_
  refine wp_ret ?_
  obtain rfl := Option.some.inj h
  exact ⟨rfl, ⟨_, hf.sub ⟨rfl, trivial⟩, y4, hp⟩⟩

noncomputable def f_strait_of (xx0 : Fl) (n1 : Int) (most2 : Fl) : Option Bool := ((f_math_Ldexp xx0 n1).bind fun q1 => ((f_math_Abs xx0).bind fun q5 => ((if (fle q5 most2) = true then ((f_math_Trunc q1).bind fun q12 => (some (feq q12 q1))) else (some false)).bind fun z11 => (some z11))))
theorem f_strait_of_c {S : Nat → Prop} {w0 w : World} {ow : List Res} (hp : Hp S w0 w ow) (bxx0 : Nat) (xx0 : Fl) (hxx0 : xx0.rep bxx0) (n1 : Int) (bmost2 : Nat) (most2 : Fl) (hmost2 : most2.rep bmost2) {r : Bool} (h : f_strait_of xx0 n1 most2 = some r) :
    Calls Try.prog 42 #[.float .f64 bxx0, .int .i64 n1, .float .f64 bmost2] w (fun e w' => e = .returned (.bool r) ∧ Hp S w0 w' (ow)) := by
  unfold f_strait_of at h
  refine enter (n := 21) (args := [.float .f64 bxx0, .int .i64 n1, .float .f64 bmost2]) Try.func42 rfl rfl (Nat.le_of_ble_eq_true rfl) fun a hf => ?_
  replace hf : Fr 21 a [(0, .float .f64 bxx0), (1, .int .i64 n1), (2, .float .f64 bmost2)] := hf
  refine wp_mono (Q := fun e a w => e = .ret ∧ Fr 21 a [(6, .bool r)] ∧ Hp S w0 w (ow)) ?_ ?_
  rotate_left
  · rintro e a w ⟨rfl, hf, hp⟩
    exact ret1 hf rfl rfl ⟨rfl, hp⟩
  refine wp_seq ?_
  refine wp_reg ?_
  refine st_assign hf rfl rfl (by decide) ?_
  clear hf; intro a ha hf; clear ha
  refine st_nil hf ?_
  refine th_n ?_
  refine wp_seq ?_
  refine wp_reg ?_
  refine st_move hf rfl rfl (by decide) ?_
  clear hf; intro a ha hf; clear ha
  refine st_move hf rfl rfl (by decide) ?_
  clear hf; intro a ha hf; clear ha
  obtain ⟨q1, hcall2, h⟩ := bnd h
  refine st_call hf (by decide) Try.func60 rfl rfl rfl rfl rfl (f_math_Ldexp_c hp _ _ (show Fl.rep bxx0 xx0 from hxx0) _ hcall2) ?_
  rintro _ w ⟨v3, rfl, y4, hp0⟩
  clear hp; have hp := hp0; clear hp0
  replace hp : Hp _ _ _ (ow) := hp
  refine ⟨_, rfl, ?_⟩
  clear hf; intro a hf
  refine st_assign hf rfl rfl (by decide) ?_
  clear hf; intro a ha hf; clear ha
  refine st_nil hf ?_
  refine th_n ?_
  refine wp_seq ?_
  refine wp_reg ?_
  refine st_move hf rfl rfl (by decide) ?_
  clear hf; intro a ha hf; clear ha
  obtain ⟨q5, hcall6, h⟩ := bnd h
  refine st_call hf (by decide) Try.func37 rfl rfl rfl rfl rfl (f_math_Abs_c hp _ _ (show Fl.rep bxx0 xx0 from hxx0) hcall6) ?_
  rintro _ w ⟨v7, rfl, y8, hp0⟩
  clear hp; have hp := hp0; clear hp0
  replace hp : Hp _ _ _ (ow) := hp
  refine ⟨_, rfl, ?_⟩
  clear hf; intro a hf
  refine st_move hf rfl rfl (by decide) ?_
  clear hf; intro a ha hf; clear ha
  refine st_fcmp (r_fle (fx := q5) (fy := most2) y8 hmost2) hf (by decide) rfl rfl rfl ?_
  clear hf; intro a ha hf; clear ha
  refine st_move hf rfl rfl (by decide) ?_
  clear hf; intro a ha hf; clear ha
  obtain ⟨z11, hz9, h⟩ := bnd h
  refine wpList_cut 5 (fun a w => Fr 21 a [(20, .bool z11)] ∧ Hp S w0 w (ow)) ?_ ?_
  · rcases Bool.eq_false_or_eq_true (fle q5 most2) with hb10 | hb10
    · skip
      replace hz9 := ifT hz9 hb10
      refine st_move hf (wantY hf rfl rfl hb10) rfl (by decide) ?_
      clear hf; intro a ha hf; clear ha
      obtain ⟨q12, hcall13, hz9⟩ := bnd hz9
      refine st_call hf (by decide) Try.func38 rfl rfl (wantY hf rfl rfl hb10) rfl rfl (f_math_Trunc_c hp _ _ (show Fl.rep v3 q1 from y4) hcall13) ?_
      rintro _ w ⟨v14, rfl, y15, hp0⟩
      clear hp; have hp := hp0; clear hp0
      replace hp : Hp _ _ _ (ow) := hp
      refine ⟨_, rfl, ?_⟩
      clear hf; intro a hf
      refine st_move hf (wantY hf rfl rfl hb10) rfl (by decide) ?_
      clear hf; intro a ha hf; clear ha
      refine st_fcmp (r_feq (fx := q12) (fy := q1) y15 y4) hf (by decide) (wantY hf rfl rfl hb10) rfl rfl ?_
      clear hf; intro a ha hf; clear ha
      obtain rfl := Option.some.inj hz9
      refine st_pick (v := .bool (feq q12 q1)) hf rfl rfl (fun hb' => ?_) (fun hb' => ?_) (by decide) ?_
      · rfl
      · exact absurd (hb10.symm.trans hb') (by decide)
      clear hf; intro a ha hf; clear ha
      refine st_nil hf (th_n ?_)
      exact ⟨hf.sub ⟨rfl, trivial⟩, hp⟩
    replace hz9 := ifF hz9 hb10
    refine st_skip hf (wantN hf rfl rfl hb10) rfl (by decide) ?_ rfl
    clear hf; intro a hf
    refine st_skip hf (wantN hf rfl rfl hb10) rfl (by decide) ?_ rfl
    clear hf; intro a hf
    refine st_skip hf (wantN hf rfl rfl hb10) rfl (by decide) ?_ rfl
    clear hf; intro a hf
    refine st_skip hf (wantN hf rfl rfl hb10) rfl (by decide) ?_ rfl
    clear hf; intro a hf
    obtain rfl := Option.some.inj hz9
    refine st_pick (v := .bool false) hf rfl rfl (fun hb' => ?_) (fun hb' => ?_) (by decide) ?_
    · exact absurd (hb10.symm.trans hb') (by decide)
    · rfl
    clear hf; intro a ha hf; clear ha
    refine st_nil hf (th_n ?_)
    exact ⟨hf.sub ⟨rfl, trivial⟩, hp⟩
  rintro a w ⟨hf, hp⟩
  refine st_assign hf rfl rfl (by decide) ?_
  clear hf; intro a ha hf; clear ha
  refine st_nil hf ?_
  refine th_n ?_
  refine wp_ret ?_
  obtain rfl := Option.some.inj h
  exact ⟨rfl, ⟨hf.sub ⟨rfl, trivial⟩, hp⟩⟩

noncomputable def f_strait_taps.s1c (l0 : (List (Fl × Fl))) (sum3 : Fl) (t8 : Int) : Option ((Fl × Int) ⊕ (Fl ⊕ Bool)) := (if (decide (t8 < (l0.length : Int))) = true then (if 0 ≤ t8 ∧ t8 < (l0.length : Int) then ((f_strait_of ((gt l0 t8).1) (6 : Int) (Fl.bits 4607182418800017408)).bind fun q10 => ((if (!q10) = true then (some true) else ((f_strait_of ((gt l0 t8).2) (6 : Int) (Fl.bits 4607182418800017408)).bind fun q15 => (some (!q15)))).bind fun z14 => (if z14 = true then (some (Sum.inr (Sum.inr false))) else ((f_math_Abs ((gt l0 t8).1)).bind fun q17 => ((f_math_Abs ((gt l0 t8).2)).bind fun q21 => (some (Sum.inl ((fadd sum3 (fadd q17 q21)), (IntKind.i64.wrap (t8 + (1 : Int))))))))))) else none) else (some (Sum.inr (Sum.inl sum3))))
noncomputable def f_strait_taps.s1 (l0 : (List (Fl × Fl))) (s : (Fl × Int)) : Option ((Fl × Int) ⊕ (Fl ⊕ Bool)) := f_strait_taps.s1c l0 s.1 s.2
noncomputable def f_strait_taps (l0 : (List (Fl × Fl))) : Option Bool := ((loop (f_strait_taps.s1 l0) ((Fl.bits 0), (0 : Int))).bind (fun q29 => sm q29 (fun q30 => (some (((decide ((0 : Int) < (l0.length : Int))) && (decide ((l0.length : Int) ≤ (64 : Int)))) && (fle q30 (Fl.bits 4616189618054758400))))) (fun q31 => (some q31))))
theorem f_strait_taps_c {S : Nat → Prop} {w0 w : World} {ow : List Res} (hp : Hp S w0 w ow) (vl0 : Value) (l0 : (List (Fl × Fl))) (hl0 : RdS Ek.c128 S w0 vl0 l0) {r : Bool} (h : f_strait_taps l0 = some r) :
    Calls Try.prog 39 #[vl0] w (fun e w' => e = .returned (.bool r) ∧ Hp S w0 w' (ow)) := by
  unfold f_strait_taps at h
  refine enter (n := 44) (args := [vl0]) Try.func39 rfl rfl (Nat.le_of_ble_eq_true rfl) fun a hf => ?_
  replace hf : Fr 44 a [(0, vl0)] := hf
  refine wp_mono (Q := fun e a w => e = .ret ∧ Fr 44 a [(2, .bool r)] ∧ Hp S w0 w (ow)) ?_ ?_
  rotate_left
  · rintro e a w ⟨rfl, hf, hp⟩
    exact ret1 hf rfl rfl ⟨rfl, hp⟩
  refine wp_seq ?_
  refine wp_reg ?_
  refine st_assign hf rfl rfl (by decide) ?_
  clear hf; intro a ha hf; clear ha
  refine st_nil hf ?_
  refine th_n ?_
  refine wp_seq ?_
  refine wp_reg ?_
  refine st_assign hf rfl rfl (by decide) ?_
  clear hf; intro a ha hf; clear ha
  refine st_nil hf ?_
  refine th_n ?_
  refine wp_seq ?_
  refine wp_seq ?_
  refine wp_reg ?_
  refine st_move hf rfl rfl (by decide) ?_
  clear hf; intro a ha hf; clear ha
  refine st_len (E := Ek.c128) hf (by decide) Try.underlying32 rfl rfl (hl0.sl hp) ?_
  clear hf; intro a ha hf; clear ha
  refine st_move hf rfl rfl (by decide) ?_
  clear hf; intro a ha hf; clear ha
  refine st_nil hf ?_
  refine th_n ?_
  refine wp_block ?_
  obtain ⟨q29, hl, h⟩ := bnd h
  refine wp_loop_pure (f := (f_strait_taps.s1 l0)) (s := ((Fl.bits 0), (0 : Int))) (fun s a w => ∃ (bb1 : Nat), Fr 44 a [(0, vl0), (3, .float .f64 bb1), (6, vl0), (7, .int .i64 (l0.length : Int)), (8, .int .i64 s.2)] ∧ Fl.rep bb1 s.1 ∧ Hp S w0 w (ow)) (fun q e a w => match q with | (Sum.inl q) => e = .exit 0 ∧ ∃ (bb3 : Nat), Fr 44 a [(0, vl0), (3, .float .f64 bb3)] ∧ Fl.rep bb3 q ∧ Hp S w0 w (ow) | (Sum.inr q) => e = .ret ∧ Fr 44 a [(2, .bool q)] ∧ Hp S w0 w (ow)) ?_ hl ⟨_, hf.sub ⟨rfl, rfl, rfl, rfl, rfl, trivial⟩, rfl, hp⟩ ?_
  · clear hl hf hp
    intro s x a w h hI
    obtain ⟨sum3, t8⟩ := s
    obtain ⟨bb1, hf, y2, hp⟩ : ∃ (bb1 : Nat), Fr 44 a [(0, vl0), (3, .float .f64 bb1), (6, vl0), (7, .int .i64 (l0.length : Int)), (8, .int .i64 t8)] ∧ Fl.rep bb1 sum3 ∧ Hp S w0 w (ow) := hI
    replace h : f_strait_taps.s1c l0 sum3 t8 = some x := h
    unfold f_strait_taps.s1c at h
    refine wp_seq ?_
    refine wp_reg ?_
    refine st_ilss hf (by decide) rfl rfl rfl ?_
    clear hf; intro a ha hf; clear ha
    refine st_nil hf ?_
    refine th_n ?_
    refine wp_seq ?_
    refine wp_if hf rfl (fun hb => ?_) (fun hb => ?_)
    · replace h := ifT h hb
      refine wp_skip ?_
      refine th_n ?_
      refine wp_seq ?_
      refine wp_block ?_
      refine wp_seq ?_
      refine wp_reg ?_
      obtain ⟨hc5, h⟩ := chk h
      refine st_index (E := Ek.c128) hf (by decide) Try.underlying32 elt39 rfl rfl rfl (hl0.sl hp) hc5.1 hc5.2 ?_
      clear hf; intro a ha hf; clear ha
      refine st_ldC hf (by decide) pl39 rfl rfl (hl0.sl hp) hc5.1 hc5.2 ?_
      clear hf; intro a bb6 bb7 y8 y9 ha hf; clear ha
      refine st_assign hf rfl rfl (by decide) ?_
      clear hf; intro a ha hf; clear ha
      refine st_nil hf ?_
      refine th_n ?_
      refine wp_seq ?_
      refine wp_seq ?_
      refine wp_reg ?_
      refine st_move hf rfl rfl (by decide) ?_
      clear hf; intro a ha hf; clear ha
      refine st_real hf (by decide) rfl rfl ?_
      clear hf; intro a ha hf; clear ha
      obtain ⟨q10, hcall11, h⟩ := bnd h
      refine st_call hf (by decide) Try.func42 rfl rfl rfl rfl rfl (f_strait_of_c hp _ _ (show Fl.rep bb6 ((gt l0 t8).1) from y8) _ _ _ (show Fl.rep 4607182418800017408 (Fl.bits 4607182418800017408) from rfl) hcall11) ?_
      rintro _ w ⟨rfl, hp0⟩
      clear hp; have hp := hp0; clear hp0
      replace hp : Hp _ _ _ (ow) := hp
      refine ⟨_, rfl, ?_⟩
      clear hf; intro a hf
      refine st_not hf (by decide) rfl rfl ?_
      clear hf; intro a ha hf; clear ha
      refine st_move hf rfl rfl (by decide) ?_
      clear hf; intro a ha hf; clear ha
      obtain ⟨z14, hz12, h⟩ := bnd h
      refine wpList_cut 5 (fun a w => Fr 44 a [(0, vl0), (3, .float .f64 bb1), (5, .complex .f64 bb6 bb7), (6, vl0), (7, .int .i64 (l0.length : Int)), (8, .int .i64 t8), (21, .bool z14)] ∧ Hp S w0 w (ow)) ?_ ?_
      · rcases Bool.eq_false_or_eq_true (!q10) with hb13 | hb13
        · skip
          replace hz12 := ifT hz12 hb13
          refine st_skip hf (wantN hf rfl rfl hb13) rfl (by decide) ?_ rfl
          clear hf; intro a hf
          refine st_skip hf (wantN hf rfl rfl hb13) rfl (by decide) ?_ rfl
          clear hf; intro a hf
          refine st_skip hf (wantN hf rfl rfl hb13) rfl (by decide) ?_ rfl
          clear hf; intro a hf
          refine st_skip hf (wantN hf rfl rfl hb13) rfl (by decide) ?_ rfl
          clear hf; intro a hf
          obtain rfl := Option.some.inj hz12
          refine st_pick (v := .bool true) hf rfl rfl (fun hb' => ?_) (fun hb' => ?_) (by decide) ?_
          · rfl
          · exact absurd (hb13.symm.trans hb') (by decide)
          clear hf; intro a ha hf; clear ha
          refine st_nil hf (th_n ?_)
          exact ⟨hf.sub ⟨rfl, rfl, rfl, rfl, rfl, rfl, rfl, trivial⟩, hp⟩
        replace hz12 := ifF hz12 hb13
        refine st_move hf (wantY hf rfl rfl hb13) rfl (by decide) ?_
        clear hf; intro a ha hf; clear ha
        refine st_imag hf (by decide) (wantY hf rfl rfl hb13) rfl ?_
        clear hf; intro a ha hf; clear ha
        obtain ⟨q15, hcall16, hz12⟩ := bnd hz12
        refine st_call hf (by decide) Try.func42 rfl rfl (wantY hf rfl rfl hb13) rfl rfl (f_strait_of_c hp _ _ (show Fl.rep bb7 ((gt l0 t8).2) from y9) _ _ _ (show Fl.rep 4607182418800017408 (Fl.bits 4607182418800017408) from rfl) hcall16) ?_
        rintro _ w ⟨rfl, hp0⟩
        clear hp; have hp := hp0; clear hp0
        replace hp : Hp _ _ _ (ow) := hp
        refine ⟨_, rfl, ?_⟩
        clear hf; intro a hf
        refine st_not hf (by decide) (wantY hf rfl rfl hb13) rfl ?_
        clear hf; intro a ha hf; clear ha
        obtain rfl := Option.some.inj hz12
        refine st_pick (v := .bool (!q15)) hf rfl rfl (fun hb' => ?_) (fun hb' => ?_) (by decide) ?_
        · exact absurd (hb13.symm.trans hb') (by decide)
        · rfl
        clear hf; intro a ha hf; clear ha
        refine st_nil hf (th_n ?_)
        exact ⟨hf.sub ⟨rfl, rfl, rfl, rfl, rfl, rfl, rfl, trivial⟩, hp⟩
      rintro a w ⟨hf, hp⟩
      refine st_nil hf ?_
      refine th_n ?_
      refine wp_if hf rfl (fun hb => ?_) (fun hb => ?_)
      · replace h := ifT h hb
        refine wp_seq ?_
        refine wp_reg ?_
        refine st_assign hf rfl rfl (by decide) ?_
        clear hf; intro a ha hf; clear ha
        refine st_nil hf ?_
        refine th_n ?_
        refine wp_ret ?_
        refine th_r ?_
        refine ib_r ?_
        refine th_r ?_
        obtain rfl := Option.some.inj h
        exact rnd_r (by simp) ⟨rfl, ⟨hf.sub ⟨rfl, trivial⟩, hp⟩⟩
      replace h := ifF h hb
      refine wp_skip ?_
      refine th_n ?_
      refine wp_reg ?_
      refine st_move hf rfl rfl (by decide) ?_
      clear hf; intro a ha hf; clear ha
      refine st_move hf rfl rfl (by decide) ?_
      clear hf; intro a ha hf; clear ha
      refine st_real hf (by decide) rfl rfl ?_
      clear hf; intro a ha hf; clear ha
      obtain ⟨q17, hcall18, h⟩ := bnd h
      refine st_call hf (by decide) Try.func37 rfl rfl rfl rfl rfl (f_math_Abs_c hp _ _ (show Fl.rep bb6 ((gt l0 t8).1) from y8) hcall18) ?_
      rintro _ w ⟨v19, rfl, y20, hp0⟩
      clear hp; have hp := hp0; clear hp0
      replace hp : Hp _ _ _ (ow) := hp
      refine ⟨_, rfl, ?_⟩
      clear hf; intro a hf
      refine st_move hf rfl rfl (by decide) ?_
      clear hf; intro a ha hf; clear ha
      refine st_imag hf (by decide) rfl rfl ?_
      clear hf; intro a ha hf; clear ha
      obtain ⟨q21, hcall22, h⟩ := bnd h
      refine st_call hf (by decide) Try.func37 rfl rfl rfl rfl rfl (f_math_Abs_c hp _ _ (show Fl.rep bb7 ((gt l0 t8).2) from y9) hcall22) ?_
      rintro _ w ⟨v23, rfl, y24, hp0⟩
      clear hp; have hp := hp0; clear hp0
      replace hp : Hp _ _ _ (ow) := hp
      refine ⟨_, rfl, ?_⟩
      clear hf; intro a hf
      refine st_farith (op := .add) rfl hf (by decide) hp rfl rfl rfl (show Fl.rep v19 q17 from y20) (show Fl.rep v23 q21 from y24) ?_
      clear hf; intro a w bb25 y26 hf hp0; clear hp; have hp := hp0; clear hp0
      replace hp : Hp _ _ _ (ow) := hp
      refine st_farith (op := .add) rfl hf (by decide) hp rfl rfl rfl (show Fl.rep bb1 sum3 from y2) (show Fl.rep bb25 (fadd q17 q21) from y26) ?_
      clear hf; intro a w bb27 y28 hf hp0; clear hp; have hp := hp0; clear hp0
      replace hp : Hp _ _ _ (ow) := hp
      refine st_assign hf rfl rfl (by decide) ?_
      clear hf; intro a ha hf; clear ha
      refine st_nil hf ?_
      refine ib_n ?_
      refine th_n ?_
      refine wp_reg ?_
      refine st_iadd hf (by decide) rfl rfl rfl ?_
      clear hf; intro a ha hf; clear ha
      refine st_move hf rfl rfl (by decide) ?_
      clear hf; intro a ha hf; clear ha
      refine st_nil hf ?_
      obtain rfl := Option.some.inj h
      exact rnd_l ⟨_, hf.sub ⟨rfl, rfl, rfl, rfl, rfl, trivial⟩, y28, hp⟩
    replace h := ifF h hb
    refine wp_exit ?_
    refine th_e ?_
    obtain rfl := Option.some.inj h
    exact rnd_r (by simp) ⟨rfl, _, hf.sub ⟨rfl, rfl, trivial⟩, y2, hp⟩
  clear hl hf hp
  intro e a w hne hO
  rcases q29 with q30 | q31
  · replace h := smL h
    obtain ⟨rfl, bb3, hf, y4, hp⟩ := hO
    refine ib_same ?_
    refine th_n ?_
    refine wp_seq ?_
    refine wp_reg ?_
    refine st_move hf rfl rfl (by decide) ?_
    clear hf; intro a ha hf; clear ha
    refine st_len (E := Ek.c128) hf (by decide) Try.underlying32 rfl rfl (hl0.sl hp) ?_
    clear hf; intro a ha hf; clear ha
    refine st_igtr hf (by decide) rfl rfl rfl ?_
    clear hf; intro a ha hf; clear ha
    refine st_move hf rfl rfl (by decide) ?_
    clear hf; intro a ha hf; clear ha
    refine wpList_cut 4 (fun a w => Fr 44 a [(3, .float .f64 bb3), (39, .bool ((decide ((0 : Int) < (l0.length : Int))) && (decide ((l0.length : Int) ≤ (64 : Int)))))] ∧ Hp S w0 w (ow)) ?_ ?_
    · rcases Bool.eq_false_or_eq_true (decide ((0 : Int) < (l0.length : Int))) with hb33 | hb33
      · skip
        refine st_move hf (wantY hf rfl rfl hb33) rfl (by decide) ?_
        clear hf; intro a ha hf; clear ha
        refine st_len (E := Ek.c128) hf (by decide) Try.underlying32 (wantY hf rfl rfl hb33) rfl (hl0.sl hp) ?_
        clear hf; intro a ha hf; clear ha
        refine st_ileq hf (by decide) (wantY hf rfl rfl hb33) rfl rfl ?_
        clear hf; intro a ha hf; clear ha
        refine st_pick (v := .bool (decide ((l0.length : Int) ≤ (64 : Int)))) hf rfl rfl (fun hb' => ?_) (fun hb' => ?_) (by decide) ?_
        · rfl
        · exact absurd (hb33.symm.trans hb') (by decide)
        clear hf; intro a ha hf; clear ha
        refine st_nil hf (th_n ?_)
        exact ⟨hf.sub ⟨rfl, (by rw [hb33]; rfl), trivial⟩, hp⟩
      refine st_skip hf (wantN hf rfl rfl hb33) rfl (by decide) ?_ rfl
      clear hf; intro a hf
      refine st_skip hf (wantN hf rfl rfl hb33) rfl (by decide) ?_ rfl
      clear hf; intro a hf
      refine st_skip hf (wantN hf rfl rfl hb33) rfl (by decide) ?_ rfl
      clear hf; intro a hf
      refine st_pick (v := .bool false) hf rfl rfl (fun hb' => ?_) (fun hb' => ?_) (by decide) ?_
      · exact absurd (hb33.symm.trans hb') (by decide)
      · rfl
      clear hf; intro a ha hf; clear ha
      refine st_nil hf (th_n ?_)
      exact ⟨hf.sub ⟨rfl, (by rw [hb33]; rfl), trivial⟩, hp⟩
    rintro a w ⟨hf, hp⟩
    refine st_move hf rfl rfl (by decide) ?_
    clear hf; intro a ha hf; clear ha
    refine wpList_cut 3 (fun a w => Fr 44 a [(43, .bool (((decide ((0 : Int) < (l0.length : Int))) && (decide ((l0.length : Int) ≤ (64 : Int)))) && (fle q30 (Fl.bits 4616189618054758400))))] ∧ Hp S w0 w (ow)) ?_ ?_
    · rcases Bool.eq_false_or_eq_true ((decide ((0 : Int) < (l0.length : Int))) && (decide ((l0.length : Int) ≤ (64 : Int)))) with hb35 | hb35
      · skip
        refine st_move hf (wantY hf rfl rfl hb35) rfl (by decide) ?_
        clear hf; intro a ha hf; clear ha
        refine st_fcmp (r_fle (fx := q30) (fy := (Fl.bits 4616189618054758400)) y4 rfl) hf (by decide) (wantY hf rfl rfl hb35) rfl rfl ?_
        clear hf; intro a ha hf; clear ha
        refine st_pick (v := .bool (fle q30 (Fl.bits 4616189618054758400))) hf rfl rfl (fun hb' => ?_) (fun hb' => ?_) (by decide) ?_
        · rfl
        · exact absurd (hb35.symm.trans hb') (by decide)
        clear hf; intro a ha hf; clear ha
        refine st_nil hf (th_n ?_)
        exact ⟨hf.sub ⟨(by rw [hb35]; rfl), trivial⟩, hp⟩
      refine st_skip hf (wantN hf rfl rfl hb35) rfl (by decide) ?_ rfl
      clear hf; intro a hf
      refine st_skip hf (wantN hf rfl rfl hb35) rfl (by decide) ?_ rfl
      clear hf; intro a hf
      refine st_pick (v := .bool false) hf rfl rfl (fun hb' => ?_) (fun hb' => ?_) (by decide) ?_
      · exact absurd (hb35.symm.trans hb') (by decide)
      · rfl
      clear hf; intro a ha hf; clear ha
      refine st_nil hf (th_n ?_)
      exact ⟨hf.sub ⟨(by rw [hb35]; rfl), trivial⟩, hp⟩
    rintro a w ⟨hf, hp⟩
    refine st_assign hf rfl rfl (by decide) ?_
    clear hf; intro a ha hf; clear ha
    refine st_nil hf ?_
    refine th_n ?_
    refine wp_ret ?_
    obtain rfl := Option.some.inj h
    exact ⟨rfl, ⟨hf.sub ⟨rfl, trivial⟩, hp⟩⟩
  replace h := smR h
  obtain ⟨rfl, hf, hp⟩ := hO
  refine ib_r ?_
  refine th_r ?_
  obtain rfl := Option.some.inj h
  exact ⟨rfl, ⟨hf.sub ⟨rfl, trivial⟩, hp⟩⟩

noncomputable def f_strait_Check (sx0_Rate : Int) (sx0_Delay : Int) (sx0_Taps : (List (Fl × Fl))) (sx0_Echo : (List (Fl × Fl))) : Option Int := (if ((((decide (sx0_Rate < (1 : Int))) || (decide ((8 : Int) < sx0_Rate))) || (decide (sx0_Delay < (0 : Int)))) || (decide ((65536 : Int) < sx0_Delay))) = true then (some (1 : Int)) else ((f_strait_taps sx0_Taps).bind fun q9 => ((if (!q9) = true then (some true) else ((if (decide ((0 : Int) < (sx0_Echo.length : Int))) = true then ((f_strait_taps sx0_Echo).bind fun q17 => (some (!q17))) else (some false)).bind fun z16 => (some z16))).bind fun z13 => (if z13 = true then (some (8 : Int)) else (some (0 : Int))))))
theorem f_strait_Check_c {S : Nat → Prop} {w0 w : World} {ow : List Res} (hp : Hp S w0 w ow) (sx0_Rate : Int) (sx0_Delay : Int) (vsx0_Taps : Value) (sx0_Taps : (List (Fl × Fl))) (hsx0_Taps : RdS Ek.c128 S w0 vsx0_Taps sx0_Taps) (vsx0_Echo : Value) (sx0_Echo : (List (Fl × Fl))) (hsx0_Echo : RdS Ek.c128 S w0 vsx0_Echo sx0_Echo) {r : Int} (h : f_strait_Check sx0_Rate sx0_Delay sx0_Taps sx0_Echo = some r) :
    Calls Try.prog 23 #[.agg #[.int .i64 sx0_Rate, .int .i64 sx0_Delay, vsx0_Taps, vsx0_Echo]] w (fun e w' => e = .returned (.int .i64 r) ∧ Hp S w0 w' (ow)) := by
  unfold f_strait_Check at h
  refine enter (n := 39) (args := [.agg #[.int .i64 sx0_Rate, .int .i64 sx0_Delay, vsx0_Taps, vsx0_Echo]]) Try.func23 rfl rfl (Nat.le_of_ble_eq_true rfl) fun a hf => ?_
  replace hf : Fr 39 a [(0, .agg #[.int .i64 sx0_Rate, .int .i64 sx0_Delay, vsx0_Taps, vsx0_Echo])] := hf
  refine wp_mono (Q := fun e a w => e = .ret ∧ Fr 39 a [(2, .int .i64 r)] ∧ Hp S w0 w (ow)) ?_ ?_
  rotate_left
  · rintro e a w ⟨rfl, hf, hp⟩
    exact ret1 hf rfl rfl ⟨rfl, hp⟩
  refine wp_seq ?_
  refine wp_reg ?_
  refine st_boxO (cs := [.int .i64 sx0_Rate, .int .i64 sx0_Delay, vsx0_Taps, vsx0_Echo]) hf (by decide) hp rfl rfl rfl ?_
  clear hf; intro a w v1 hf hp0; clear hp; have hp := hp0; clear hp0
  replace hp : Hp _ _ _ (Res.obj 38 v1 [.int .i64 sx0_Rate, .int .i64 sx0_Delay, vsx0_Taps, vsx0_Echo] :: ow) := hp
  refine st_assign hf rfl rfl (by decide) ?_
  clear hf; intro a ha hf; clear ha
  refine st_nil hf ?_
  refine th_n ?_
  refine wp_seq ?_
  refine wp_block ?_
  refine wp_seq ?_
  refine wp_reg ?_
  refine st_fa (o' := 0) hf (by decide) (off := 0) (sz := 1) (by kernel_rfl) (by decide) rfl rfl (hp.ob (i := 0) rfl) rfl ?_
  clear hf; intro a ha hf; clear ha
  refine st_ldO (u := .int .i64 sx0_Rate) hf (by decide) pl3 rfl rfl (hp.ob (i := 0) rfl) rfl ?_
  clear hf; intro a ha hf; clear ha
  refine st_ilss hf (by decide) rfl rfl rfl ?_
  clear hf; intro a ha hf; clear ha
  refine st_move hf rfl rfl (by decide) ?_
  clear hf; intro a ha hf; clear ha
  refine wpList_cut 4 (fun a w => Fr 39 a [(1, optr v1 0), (11, .bool ((decide (sx0_Rate < (1 : Int))) || (decide ((8 : Int) < sx0_Rate))))] ∧ Hp S w0 w (Res.obj 38 v1 [.int .i64 sx0_Rate, .int .i64 sx0_Delay, vsx0_Taps, vsx0_Echo] :: ow)) ?_ ?_
  · rcases Bool.eq_false_or_eq_true (decide (sx0_Rate < (1 : Int))) with hb4 | hb4
    · skip
      refine st_skip hf (wantN hf rfl rfl hb4) rfl (by decide) ?_ rfl
      clear hf; intro a hf
      refine st_skip hf (wantN hf rfl rfl hb4) rfl (by decide) ?_ rfl
      clear hf; intro a hf
      refine st_skip hf (wantN hf rfl rfl hb4) rfl (by decide) ?_ rfl
      clear hf; intro a hf
      refine st_pick (v := .bool true) hf rfl rfl (fun hb' => ?_) (fun hb' => ?_) (by decide) ?_
      · rfl
      · exact absurd (hb4.symm.trans hb') (by decide)
      clear hf; intro a ha hf; clear ha
      refine st_nil hf (th_n ?_)
      exact ⟨hf.sub ⟨rfl, (by rw [hb4]; rfl), trivial⟩, hp⟩
    refine st_fa (o' := 0) hf (by decide) (off := 0) (sz := 1) (by kernel_rfl) (by decide) (wantY hf rfl rfl hb4) rfl (hp.ob (i := 0) rfl) rfl ?_
    clear hf; intro a ha hf; clear ha
    refine st_ldO (u := .int .i64 sx0_Rate) hf (by decide) pl3 (wantY hf rfl rfl hb4) rfl (hp.ob (i := 0) rfl) rfl ?_
    clear hf; intro a ha hf; clear ha
    refine st_igtr hf (by decide) (wantY hf rfl rfl hb4) rfl rfl ?_
    clear hf; intro a ha hf; clear ha
    refine st_pick (v := .bool (decide ((8 : Int) < sx0_Rate))) hf rfl rfl (fun hb' => ?_) (fun hb' => ?_) (by decide) ?_
    · exact absurd (hb4.symm.trans hb') (by decide)
    · rfl
    clear hf; intro a ha hf; clear ha
    refine st_nil hf (th_n ?_)
    exact ⟨hf.sub ⟨rfl, (by rw [hb4]; rfl), trivial⟩, hp⟩
  rintro a w ⟨hf, hp⟩
  refine st_move hf rfl rfl (by decide) ?_
  clear hf; intro a ha hf; clear ha
  refine wpList_cut 4 (fun a w => Fr 39 a [(1, optr v1 0), (16, .bool (((decide (sx0_Rate < (1 : Int))) || (decide ((8 : Int) < sx0_Rate))) || (decide (sx0_Delay < (0 : Int)))))] ∧ Hp S w0 w (Res.obj 38 v1 [.int .i64 sx0_Rate, .int .i64 sx0_Delay, vsx0_Taps, vsx0_Echo] :: ow)) ?_ ?_
  · rcases Bool.eq_false_or_eq_true ((decide (sx0_Rate < (1 : Int))) || (decide ((8 : Int) < sx0_Rate))) with hb6 | hb6
    · skip
      refine st_skip hf (wantN hf rfl rfl hb6) rfl (by decide) ?_ rfl
      clear hf; intro a hf
      refine st_skip hf (wantN hf rfl rfl hb6) rfl (by decide) ?_ rfl
      clear hf; intro a hf
      refine st_skip hf (wantN hf rfl rfl hb6) rfl (by decide) ?_ rfl
      clear hf; intro a hf
      refine st_pick (v := .bool true) hf rfl rfl (fun hb' => ?_) (fun hb' => ?_) (by decide) ?_
      · rfl
      · exact absurd (hb6.symm.trans hb') (by decide)
      clear hf; intro a ha hf; clear ha
      refine st_nil hf (th_n ?_)
      exact ⟨hf.sub ⟨rfl, (by rw [hb6]; rfl), trivial⟩, hp⟩
    refine st_fa (o' := 1) hf (by decide) (off := 1) (sz := 1) (by kernel_rfl) (by decide) (wantY hf rfl rfl hb6) rfl (hp.ob (i := 0) rfl) rfl ?_
    clear hf; intro a ha hf; clear ha
    refine st_ldO (u := .int .i64 sx0_Delay) hf (by decide) pl3 (wantY hf rfl rfl hb6) rfl (hp.ob (i := 0) rfl) rfl ?_
    clear hf; intro a ha hf; clear ha
    refine st_ilss hf (by decide) (wantY hf rfl rfl hb6) rfl rfl ?_
    clear hf; intro a ha hf; clear ha
    refine st_pick (v := .bool (decide (sx0_Delay < (0 : Int)))) hf rfl rfl (fun hb' => ?_) (fun hb' => ?_) (by decide) ?_
    · exact absurd (hb6.symm.trans hb') (by decide)
    · rfl
    clear hf; intro a ha hf; clear ha
    refine st_nil hf (th_n ?_)
    exact ⟨hf.sub ⟨rfl, (by rw [hb6]; rfl), trivial⟩, hp⟩
  rintro a w ⟨hf, hp⟩
  refine st_move hf rfl rfl (by decide) ?_
  clear hf; intro a ha hf; clear ha
  refine wpList_cut 4 (fun a w => Fr 39 a [(1, optr v1 0), (21, .bool ((((decide (sx0_Rate < (1 : Int))) || (decide ((8 : Int) < sx0_Rate))) || (decide (sx0_Delay < (0 : Int)))) || (decide ((65536 : Int) < sx0_Delay))))] ∧ Hp S w0 w (Res.obj 38 v1 [.int .i64 sx0_Rate, .int .i64 sx0_Delay, vsx0_Taps, vsx0_Echo] :: ow)) ?_ ?_
  · rcases Bool.eq_false_or_eq_true (((decide (sx0_Rate < (1 : Int))) || (decide ((8 : Int) < sx0_Rate))) || (decide (sx0_Delay < (0 : Int)))) with hb8 | hb8
    · skip
      refine st_skip hf (wantN hf rfl rfl hb8) rfl (by decide) ?_ rfl
      clear hf; intro a hf
      refine st_skip hf (wantN hf rfl rfl hb8) rfl (by decide) ?_ rfl
      clear hf; intro a hf
      refine st_skip hf (wantN hf rfl rfl hb8) rfl (by decide) ?_ rfl
      clear hf; intro a hf
      refine st_pick (v := .bool true) hf rfl rfl (fun hb' => ?_) (fun hb' => ?_) (by decide) ?_
      · rfl
      · exact absurd (hb8.symm.trans hb') (by decide)
      clear hf; intro a ha hf; clear ha
      refine st_nil hf (th_n ?_)
      exact ⟨hf.sub ⟨rfl, (by rw [hb8]; rfl), trivial⟩, hp⟩
    refine st_fa (o' := 1) hf (by decide) (off := 1) (sz := 1) (by kernel_rfl) (by decide) (wantY hf rfl rfl hb8) rfl (hp.ob (i := 0) rfl) rfl ?_
    clear hf; intro a ha hf; clear ha
    refine st_ldO (u := .int .i64 sx0_Delay) hf (by decide) pl3 (wantY hf rfl rfl hb8) rfl (hp.ob (i := 0) rfl) rfl ?_
    clear hf; intro a ha hf; clear ha
    refine st_igtr hf (by decide) (wantY hf rfl rfl hb8) rfl rfl ?_
    clear hf; intro a ha hf; clear ha
    refine st_pick (v := .bool (decide ((65536 : Int) < sx0_Delay))) hf rfl rfl (fun hb' => ?_) (fun hb' => ?_) (by decide) ?_
    · exact absurd (hb8.symm.trans hb') (by decide)
    · rfl
    clear hf; intro a ha hf; clear ha
    refine st_nil hf (th_n ?_)
    exact ⟨hf.sub ⟨rfl, (by rw [hb8]; rfl), trivial⟩, hp⟩
  rintro a w ⟨hf, hp⟩
  refine st_assign hf rfl rfl (by decide) ?_
  clear hf; intro a ha hf; clear ha
  refine st_nil hf ?_
  refine th_n ?_
  refine wp_if hf rfl (fun hb => ?_) (fun hb => ?_)
  · replace h := ifT h hb
    refine wp_seq ?_
    refine wp_reg ?_
    refine st_assign hf rfl rfl (by decide) ?_
    clear hf; intro a ha hf; clear ha
    refine st_nil hf ?_
    refine th_n ?_
    refine wp_ret ?_
    refine ib_r ?_
    refine th_r ?_
    obtain rfl := Option.some.inj h
    have hp : Hp _ _ _ (ow) := Hp.sel (pre := [Res.obj 38 v1 [.int .i64 sx0_Rate, .int .i64 sx0_Delay, vsx0_Taps, vsx0_Echo]]) (tail := ow) (rs' := []) hp [] (by decide) (by simp) rfl
    exact ⟨rfl, ⟨hf.sub ⟨rfl, trivial⟩, hp⟩⟩
  replace h := ifF h hb
  refine wp_seq ?_
  refine wp_reg ?_
  refine st_fa (o' := 2) hf (by decide) (off := 2) (sz := 1) (by kernel_rfl) (by decide) rfl rfl (hp.ob (i := 0) rfl) rfl ?_
  clear hf; intro a ha hf; clear ha
  refine st_ldO (u := vsx0_Taps) hf (by decide) pl32 rfl rfl (hp.ob (i := 0) rfl) rfl ?_
  clear hf; intro a ha hf; clear ha
  obtain ⟨q9, hcall10, h⟩ := bnd h
  refine st_call hf (by decide) Try.func39 rfl rfl rfl rfl rfl (f_strait_taps_c hp _ _ hsx0_Taps hcall10) ?_
  rintro _ w ⟨rfl, hp0⟩
  clear hp; have hp := hp0; clear hp0
  replace hp : Hp _ _ _ (Res.obj 38 v1 [.int .i64 sx0_Rate, .int .i64 sx0_Delay, vsx0_Taps, vsx0_Echo] :: ow) := hp
  refine ⟨_, rfl, ?_⟩
  clear hf; intro a hf
  refine st_not hf (by decide) rfl rfl ?_
  clear hf; intro a ha hf; clear ha
  refine st_move hf rfl rfl (by decide) ?_
  clear hf; intro a ha hf; clear ha
  obtain ⟨z13, hz11, h⟩ := bnd h
  refine wpList_cut 11 (fun a w => Fr 39 a [(38, .bool z13)] ∧ Hp S w0 w (Res.obj 38 v1 [.int .i64 sx0_Rate, .int .i64 sx0_Delay, vsx0_Taps, vsx0_Echo] :: ow)) ?_ ?_
  · rcases Bool.eq_false_or_eq_true (!q9) with hb12 | hb12
    · skip
      replace hz11 := ifT hz11 hb12
      refine st_skip hf (wantN hf rfl rfl hb12) rfl (by decide) ?_ rfl
      clear hf; intro a hf
      refine st_skip hf (wantN hf rfl rfl hb12) rfl (by decide) ?_ rfl
      clear hf; intro a hf
      refine st_skip hf (wantN hf rfl rfl hb12) rfl (by decide) ?_ rfl
      clear hf; intro a hf
      refine st_skip hf (wantN hf rfl rfl hb12) rfl (by decide) ?_ rfl
      clear hf; intro a hf
      refine st_skipU hf (wantN hf rfl rfl hb12) rfl (by decide) ?_
      clear hf; intro a hf
      refine st_skip hf (wantU hf rfl rfl) rfl (by decide) ?_ rfl
      clear hf; intro a hf
      refine st_skip hf (wantU hf rfl rfl) rfl (by decide) ?_ rfl
      clear hf; intro a hf
      refine st_skip hf (wantU hf rfl rfl) rfl (by decide) ?_ rfl
      clear hf; intro a hf
      refine st_skip hf (wantU hf rfl rfl) rfl (by decide) ?_ rfl
      clear hf; intro a hf
      refine st_skip hf (wantN hf rfl rfl hb12) rfl (by decide) ?_ rfl
      clear hf; intro a hf
      obtain rfl := Option.some.inj hz11
      refine st_pick (v := .bool true) hf rfl rfl (fun hb' => ?_) (fun hb' => ?_) (by decide) ?_
      · rfl
      · exact absurd (hb12.symm.trans hb') (by decide)
      clear hf; intro a ha hf; clear ha
      refine st_nil hf (th_n ?_)
      exact ⟨hf.sub ⟨rfl, trivial⟩, hp⟩
    replace hz11 := ifF hz11 hb12
    refine st_fa (o' := 3) hf (by decide) (off := 3) (sz := 1) (by kernel_rfl) (by decide) (wantY hf rfl rfl hb12) rfl (hp.ob (i := 0) rfl) rfl ?_
    clear hf; intro a ha hf; clear ha
    refine st_ldO (u := vsx0_Echo) hf (by decide) pl32 (wantY hf rfl rfl hb12) rfl (hp.ob (i := 0) rfl) rfl ?_
    clear hf; intro a ha hf; clear ha
    refine st_len (E := Ek.c128) hf (by decide) Try.underlying32 (wantY hf rfl rfl hb12) rfl (hsx0_Echo.sl hp) ?_
    clear hf; intro a ha hf; clear ha
    refine st_igtr hf (by decide) (wantY hf rfl rfl hb12) rfl rfl ?_
    clear hf; intro a ha hf; clear ha
    refine st_move hf (wantY hf rfl rfl hb12) rfl (by decide) ?_
    clear hf; intro a ha hf; clear ha
    obtain ⟨z16, hz14, hz11⟩ := bnd hz11
    refine wpList_cut 5 (fun a w => Fr 39 a [(27, .bool (!q9)), (37, .bool z16)] ∧ Hp S w0 w (Res.obj 38 v1 [.int .i64 sx0_Rate, .int .i64 sx0_Delay, vsx0_Taps, vsx0_Echo] :: ow)) ?_ ?_
    · rcases Bool.eq_false_or_eq_true (decide ((0 : Int) < (sx0_Echo.length : Int))) with hb15 | hb15
      · skip
        replace hz14 := ifT hz14 hb15
        refine st_fa (o' := 3) hf (by decide) (off := 3) (sz := 1) (by kernel_rfl) (by decide) (wantY hf rfl rfl hb15) rfl (hp.ob (i := 0) rfl) rfl ?_
        clear hf; intro a ha hf; clear ha
        refine st_ldO (u := vsx0_Echo) hf (by decide) pl32 (wantY hf rfl rfl hb15) rfl (hp.ob (i := 0) rfl) rfl ?_
        clear hf; intro a ha hf; clear ha
        obtain ⟨q17, hcall18, hz14⟩ := bnd hz14
        refine st_call hf (by decide) Try.func39 rfl rfl (wantY hf rfl rfl hb15) rfl rfl (f_strait_taps_c hp _ _ hsx0_Echo hcall18) ?_
        rintro _ w ⟨rfl, hp0⟩
        clear hp; have hp := hp0; clear hp0
        replace hp : Hp _ _ _ (Res.obj 38 v1 [.int .i64 sx0_Rate, .int .i64 sx0_Delay, vsx0_Taps, vsx0_Echo] :: ow) := hp
        refine ⟨_, rfl, ?_⟩
        clear hf; intro a hf
        refine st_not hf (by decide) (wantY hf rfl rfl hb15) rfl ?_
        clear hf; intro a ha hf; clear ha
        obtain rfl := Option.some.inj hz14
        refine st_pick (v := .bool (!q17)) hf (wantY hf rfl rfl hb12) rfl (fun hb' => ?_) (fun hb' => ?_) (by decide) ?_
        · rfl
        · exact absurd (hb15.symm.trans hb') (by decide)
        clear hf; intro a ha hf; clear ha
        refine st_nil hf (th_n ?_)
        exact ⟨hf.sub ⟨rfl, rfl, trivial⟩, hp⟩
      replace hz14 := ifF hz14 hb15
      refine st_skip hf (wantN hf rfl rfl hb15) rfl (by decide) ?_ rfl
      clear hf; intro a hf
      refine st_skip hf (wantN hf rfl rfl hb15) rfl (by decide) ?_ rfl
      clear hf; intro a hf
      refine st_skip hf (wantN hf rfl rfl hb15) rfl (by decide) ?_ rfl
      clear hf; intro a hf
      refine st_skip hf (wantN hf rfl rfl hb15) rfl (by decide) ?_ rfl
      clear hf; intro a hf
      obtain rfl := Option.some.inj hz14
      refine st_pick (v := .bool false) hf (wantY hf rfl rfl hb12) rfl (fun hb' => ?_) (fun hb' => ?_) (by decide) ?_
      · exact absurd (hb15.symm.trans hb') (by decide)
      · rfl
      clear hf; intro a ha hf; clear ha
      refine st_nil hf (th_n ?_)
      exact ⟨hf.sub ⟨rfl, rfl, trivial⟩, hp⟩
    rintro a w ⟨hf, hp⟩
    obtain rfl := Option.some.inj hz11
    refine st_pick (v := .bool z16) hf rfl rfl (fun hb' => ?_) (fun hb' => ?_) (by decide) ?_
    · exact absurd (hb12.symm.trans hb') (by decide)
    · rfl
    clear hf; intro a ha hf; clear ha
    refine st_nil hf (th_n ?_)
    exact ⟨hf.sub ⟨rfl, trivial⟩, hp⟩
  rintro a w ⟨hf, hp⟩
  refine st_assign hf rfl rfl (by decide) ?_
  clear hf; intro a ha hf; clear ha
  refine st_nil hf ?_
  refine th_n ?_
  refine wp_if hf rfl (fun hb => ?_) (fun hb => ?_)
  · replace h := ifT h hb
    refine wp_seq ?_
    refine wp_reg ?_
    refine st_assign hf rfl rfl (by decide) ?_
    clear hf; intro a ha hf; clear ha
    refine st_nil hf ?_
    refine th_n ?_
    refine wp_ret ?_
    refine ib_r ?_
    refine th_r ?_
    obtain rfl := Option.some.inj h
    have hp : Hp _ _ _ (ow) := Hp.sel (pre := [Res.obj 38 v1 [.int .i64 sx0_Rate, .int .i64 sx0_Delay, vsx0_Taps, vsx0_Echo]]) (tail := ow) (rs' := []) hp [] (by decide) (by simp) rfl
    exact ⟨rfl, ⟨hf.sub ⟨rfl, trivial⟩, hp⟩⟩
  replace h := ifF h hb
  refine wp_skip ?_
  refine ib_n ?_
  refine th_n ?_
  refine wp_seq ?_
  refine wp_reg ?_
  refine st_assign hf rfl rfl (by decide) ?_
  clear hf; intro a ha hf; clear ha
  refine st_nil hf ?_
  refine th_n ?_
  refine wp_ret ?_
  obtain rfl := Option.some.inj h
  have hp : Hp _ _ _ (ow) := Hp.sel (pre := [Res.obj 38 v1 [.int .i64 sx0_Rate, .int .i64 sx0_Delay, vsx0_Taps, vsx0_Echo]]) (tail := ow) (rs' := []) hp [] (by decide) (by simp) rfl
  exact ⟨rfl, ⟨hf.sub ⟨rfl, trivial⟩, hp⟩⟩

noncomputable def f_strait_plain_1 (zx0 : (Fl × Fl)) : Option Bool := ((f_strait_of zx0.1 (6 : Int) (Fl.bits 4638707616191610880)).bind fun q1 => ((if (!q1) = true then (some true) else ((f_strait_of zx0.2 (6 : Int) (Fl.bits 4638707616191610880)).bind fun q6 => (some (!q6)))).bind fun z5 => (some z5)))
theorem f_strait_plain_1_c {S : Nat → Prop} {w0 w : World} {ow : List Res} (hp : Hp S w0 w ow) (bzx0 czx0 : Nat) (zx0 : Fl × Fl) (hzx0 : zx0.1.rep bzx0) (kzx0 : zx0.2.rep czx0) {r : Bool} (h : f_strait_plain_1 zx0 = some r) :
    Calls Try.prog 41 #[.complex .f64 bzx0 czx0] w (fun e w' => e = .returned (.bool r) ∧ Hp S w0 w' (ow)) := by
  unfold f_strait_plain_1 at h
  refine enter (n := 13) (args := [.complex .f64 bzx0 czx0]) Try.func41 rfl rfl (Nat.le_of_ble_eq_true rfl) fun a hf => ?_
  replace hf : Fr 13 a [(0, .complex .f64 bzx0 czx0)] := hf
  refine wp_mono (Q := fun e a w => e = .ret ∧ Fr 13 a [(2, .bool r)] ∧ Hp S w0 w (ow)) ?_ ?_
  rotate_left
  · rintro e a w ⟨rfl, hf, hp⟩
    exact ret1 hf rfl rfl ⟨rfl, hp⟩
  refine wp_seq ?_
  refine wp_reg ?_
  refine st_assign hf rfl rfl (by decide) ?_
  clear hf; intro a ha hf; clear ha
  refine st_nil hf ?_
  refine th_n ?_
  refine wp_seq ?_
  refine wp_reg ?_
  refine st_move hf rfl rfl (by decide) ?_
  clear hf; intro a ha hf; clear ha
  refine st_real hf (by decide) rfl rfl ?_
  clear hf; intro a ha hf; clear ha
  obtain ⟨q1, hcall2, h⟩ := bnd h
  refine st_call hf (by decide) Try.func42 rfl rfl rfl rfl rfl (f_strait_of_c hp _ _ (show Fl.rep bzx0 zx0.1 from hzx0) _ _ _ (show Fl.rep 4638707616191610880 (Fl.bits 4638707616191610880) from rfl) hcall2) ?_
  rintro _ w ⟨rfl, hp0⟩
  clear hp; have hp := hp0; clear hp0
  replace hp : Hp _ _ _ (ow) := hp
  refine ⟨_, rfl, ?_⟩
  clear hf; intro a hf
  refine st_not hf (by decide) rfl rfl ?_
  clear hf; intro a ha hf; clear ha
  refine st_move hf rfl rfl (by decide) ?_
  clear hf; intro a ha hf; clear ha
  obtain ⟨z5, hz3, h⟩ := bnd h
  refine wpList_cut 5 (fun a w => Fr 13 a [(12, .bool z5)] ∧ Hp S w0 w (ow)) ?_ ?_
  · rcases Bool.eq_false_or_eq_true (!q1) with hb4 | hb4
    · skip
      replace hz3 := ifT hz3 hb4
      refine st_skip hf (wantN hf rfl rfl hb4) rfl (by decide) ?_ rfl
      clear hf; intro a hf
      refine st_skip hf (wantN hf rfl rfl hb4) rfl (by decide) ?_ rfl
      clear hf; intro a hf
      refine st_skip hf (wantN hf rfl rfl hb4) rfl (by decide) ?_ rfl
      clear hf; intro a hf
      refine st_skip hf (wantN hf rfl rfl hb4) rfl (by decide) ?_ rfl
      clear hf; intro a hf
      obtain rfl := Option.some.inj hz3
      refine st_pick (v := .bool true) hf rfl rfl (fun hb' => ?_) (fun hb' => ?_) (by decide) ?_
      · rfl
      · exact absurd (hb4.symm.trans hb') (by decide)
      clear hf; intro a ha hf; clear ha
      refine st_nil hf (th_n ?_)
      exact ⟨hf.sub ⟨rfl, trivial⟩, hp⟩
    replace hz3 := ifF hz3 hb4
    refine st_move hf (wantY hf rfl rfl hb4) rfl (by decide) ?_
    clear hf; intro a ha hf; clear ha
    refine st_imag hf (by decide) (wantY hf rfl rfl hb4) rfl ?_
    clear hf; intro a ha hf; clear ha
    obtain ⟨q6, hcall7, hz3⟩ := bnd hz3
    refine st_call hf (by decide) Try.func42 rfl rfl (wantY hf rfl rfl hb4) rfl rfl (f_strait_of_c hp _ _ (show Fl.rep czx0 zx0.2 from kzx0) _ _ _ (show Fl.rep 4638707616191610880 (Fl.bits 4638707616191610880) from rfl) hcall7) ?_
    rintro _ w ⟨rfl, hp0⟩
    clear hp; have hp := hp0; clear hp0
    replace hp : Hp _ _ _ (ow) := hp
    refine ⟨_, rfl, ?_⟩
    clear hf; intro a hf
    refine st_not hf (by decide) (wantY hf rfl rfl hb4) rfl ?_
    clear hf; intro a ha hf; clear ha
    obtain rfl := Option.some.inj hz3
    refine st_pick (v := .bool (!q6)) hf rfl rfl (fun hb' => ?_) (fun hb' => ?_) (by decide) ?_
    · exact absurd (hb4.symm.trans hb') (by decide)
    · rfl
    clear hf; intro a ha hf; clear ha
    refine st_nil hf (th_n ?_)
    exact ⟨hf.sub ⟨rfl, trivial⟩, hp⟩
  rintro a w ⟨hf, hp⟩
  refine st_assign hf rfl rfl (by decide) ?_
  clear hf; intro a ha hf; clear ha
  refine st_nil hf ?_
  refine th_n ?_
  refine wp_ret ?_
  obtain rfl := Option.some.inj h
  exact ⟨rfl, ⟨hf.sub ⟨rfl, trivial⟩, hp⟩⟩

noncomputable def f_slices_IndexFunc_complex128_complex128.s1c (sx0 : (List (Fl × Fl))) (t8 : Int) : Option (Int ⊕ (Unit ⊕ Int)) := (if (decide (t8 < (sx0.length : Int))) = true then (if 0 ≤ t8 ∧ t8 < (sx0.length : Int) then ((f_strait_plain_1 (gt sx0 t8)).bind fun q6 => (if q6 = true then (some (Sum.inr (Sum.inr t8))) else (some (Sum.inl (IntKind.i64.wrap (t8 + (1 : Int))))))) else none) else (some (Sum.inr (Sum.inl ()))))
noncomputable def f_slices_IndexFunc_complex128_complex128.s1 (sx0 : (List (Fl × Fl))) (s : Int) : Option (Int ⊕ (Unit ⊕ Int)) := f_slices_IndexFunc_complex128_complex128.s1c sx0 s
noncomputable def f_slices_IndexFunc_complex128_complex128 (sx0 : (List (Fl × Fl))) : Option Int := ((loop (f_slices_IndexFunc_complex128_complex128.s1 sx0) (0 : Int)).bind (fun q8 => sm q8 (fun q9 => (some (-1 : Int))) (fun q10 => (some q10))))
theorem f_slices_IndexFunc_complex128_complex128_c {S : Nat → Prop} {w0 w : World} {ow : List Res} (hp : Hp S w0 w ow) (vsx0 : Value) (sx0 : (List (Fl × Fl))) (hsx0 : RdS Ek.c128 S w0 vsx0 sx0) {r : Int} (h : f_slices_IndexFunc_complex128_complex128 sx0 = some r) :
    Calls Try.prog 59 #[vsx0, .func (.func 41) #[] #[]] w (fun e w' => e = .returned (.int .i64 r) ∧ Hp S w0 w' (ow)) := by
  unfold f_slices_IndexFunc_complex128_complex128 at h
  refine enter (n := 19) (args := [vsx0, .func (.func 41) #[] #[]]) Try.func59 rfl rfl (Nat.le_of_ble_eq_true rfl) fun a hf => ?_
  replace hf : Fr 19 a [(0, vsx0), (1, .func (.func 41) #[] #[])] := hf
  refine wp_mono (Q := fun e a w => e = .ret ∧ Fr 19 a [(4, .int .i64 r)] ∧ Hp S w0 w (ow)) ?_ ?_
  rotate_left
  · rintro e a w ⟨rfl, hf, hp⟩
    exact ret1 hf rfl rfl ⟨rfl, hp⟩
  refine wp_seq ?_
  refine wp_reg ?_
  refine st_assign hf rfl rfl (by decide) ?_
  clear hf; intro a ha hf; clear ha
  refine st_nil hf ?_
  refine th_n ?_
  refine wp_seq ?_
  refine wp_seq ?_
  refine wp_reg ?_
  refine st_move hf rfl rfl (by decide) ?_
  clear hf; intro a ha hf; clear ha
  refine st_len (E := Ek.c128) hf (by decide) Try.underlying32 rfl rfl (hsx0.sl hp) ?_
  clear hf; intro a ha hf; clear ha
  refine st_move hf rfl rfl (by decide) ?_
  clear hf; intro a ha hf; clear ha
  refine st_nil hf ?_
  refine th_n ?_
  refine wp_block ?_
  obtain ⟨q8, hl, h⟩ := bnd h
  refine wp_loop_pure (f := (f_slices_IndexFunc_complex128_complex128.s1 sx0)) (s := (0 : Int)) (fun s a w => Fr 19 a [(0, vsx0), (1, .func (.func 41) #[] #[]), (7, .int .i64 (sx0.length : Int)), (8, .int .i64 s)] ∧ Hp S w0 w (ow)) (fun q e a w => match q with | (Sum.inl q) => e = .exit 0 ∧ Fr 19 a [] ∧ Hp S w0 w (ow) | (Sum.inr q) => e = .ret ∧ Fr 19 a [(4, .int .i64 q)] ∧ Hp S w0 w (ow)) ?_ hl ⟨hf.sub ⟨rfl, rfl, rfl, rfl, trivial⟩, hp⟩ ?_
  · clear hl hf hp
    intro s x a w h hI
    obtain ⟨t8, hs⟩ : ∃ z, z = s := ⟨s, rfl⟩; subst hs
    obtain ⟨hf, hp⟩ : Fr 19 a [(0, vsx0), (1, .func (.func 41) #[] #[]), (7, .int .i64 (sx0.length : Int)), (8, .int .i64 t8)] ∧ Hp S w0 w (ow) := hI
    replace h : f_slices_IndexFunc_complex128_complex128.s1c sx0 t8 = some x := h
    unfold f_slices_IndexFunc_complex128_complex128.s1c at h
    refine wp_seq ?_
    refine wp_reg ?_
    refine st_ilss hf (by decide) rfl rfl rfl ?_
    clear hf; intro a ha hf; clear ha
    refine st_nil hf ?_
    refine th_n ?_
    refine wp_seq ?_
    refine wp_if hf rfl (fun hb => ?_) (fun hb => ?_)
    · replace h := ifT h hb
      refine wp_skip ?_
      refine th_n ?_
      refine wp_seq ?_
      refine wp_block ?_
      refine wp_seq ?_
      refine wp_reg ?_
      refine st_move hf rfl rfl (by decide) ?_
      clear hf; intro a ha hf; clear ha
      refine st_assign hf rfl rfl (by decide) ?_
      clear hf; intro a ha hf; clear ha
      refine st_nil hf ?_
      refine th_n ?_
      refine wp_seq ?_
      refine wp_reg ?_
      refine st_move hf rfl rfl (by decide) ?_
      clear hf; intro a ha hf; clear ha
      refine st_move hf rfl rfl (by decide) ?_
      clear hf; intro a ha hf; clear ha
      refine st_move hf rfl rfl (by decide) ?_
      clear hf; intro a ha hf; clear ha
      obtain ⟨hc1, h⟩ := chk h
      refine st_index (E := Ek.c128) hf (by decide) Try.underlying32 elt39 rfl rfl rfl (hsx0.sl hp) hc1.1 hc1.2 ?_
      clear hf; intro a ha hf; clear ha
      refine st_ldC hf (by decide) pl39 rfl rfl (hsx0.sl hp) hc1.1 hc1.2 ?_
      clear hf; intro a bb2 bb3 y4 y5 ha hf; clear ha
      obtain ⟨q6, hcall7, h⟩ := bnd h
      refine st_call hf (by decide) Try.func41 rfl rfl rfl rfl rfl (f_strait_plain_1_c hp _ _ _ (show Fl.rep bb2 ((gt sx0 t8)).1 from y4) (show Fl.rep bb3 ((gt sx0 t8)).2 from y5) hcall7) ?_
      rintro _ w ⟨rfl, hp0⟩
      clear hp; have hp := hp0; clear hp0
      replace hp : Hp _ _ _ (ow) := hp
      refine ⟨_, rfl, ?_⟩
      clear hf; intro a hf
      refine st_nil hf ?_
      refine th_n ?_
      refine wp_if hf rfl (fun hb => ?_) (fun hb => ?_)
      · replace h := ifT h hb
        refine wp_seq ?_
        refine wp_reg ?_
        refine st_move hf rfl rfl (by decide) ?_
        clear hf; intro a ha hf; clear ha
        refine st_assign hf rfl rfl (by decide) ?_
        clear hf; intro a ha hf; clear ha
        refine st_nil hf ?_
        refine th_n ?_
        refine wp_ret ?_
        refine ib_r ?_
        refine th_r ?_
        obtain rfl := Option.some.inj h
        exact rnd_r (by simp) ⟨rfl, ⟨hf.sub ⟨rfl, trivial⟩, hp⟩⟩
      replace h := ifF h hb
      refine wp_skip ?_
      refine ib_n ?_
      refine th_n ?_
      refine wp_reg ?_
      refine st_iadd hf (by decide) rfl rfl rfl ?_
      clear hf; intro a ha hf; clear ha
      refine st_move hf rfl rfl (by decide) ?_
      clear hf; intro a ha hf; clear ha
      refine st_nil hf ?_
      obtain rfl := Option.some.inj h
      exact rnd_l ⟨hf.sub ⟨rfl, rfl, rfl, rfl, trivial⟩, hp⟩
    replace h := ifF h hb
    refine wp_exit ?_
    refine th_e ?_
    obtain rfl := Option.some.inj h
    exact rnd_r (by simp) ⟨rfl, hf.sub trivial, hp⟩
  clear hl hf hp
  intro e a w hne hO
  rcases q8 with q9 | q10
  · replace h := smL h
    obtain ⟨rfl, hf, hp⟩ := hO
    refine ib_same ?_
    refine th_n ?_
    refine wp_seq ?_
    refine wp_reg ?_
    refine st_assign hf rfl rfl (by decide) ?_
    clear hf; intro a ha hf; clear ha
    refine st_nil hf ?_
    refine th_n ?_
    refine wp_ret ?_
    obtain rfl := Option.some.inj h
    exact ⟨rfl, ⟨hf.sub ⟨rfl, trivial⟩, hp⟩⟩
  replace h := smR h
  obtain ⟨rfl, hf, hp⟩ := hO
  refine ib_r ?_
  refine th_r ?_
  obtain rfl := Option.some.inj h
  exact ⟨rfl, ⟨hf.sub ⟨rfl, trivial⟩, hp⟩⟩

noncomputable def f_slices_ContainsFunc_complex128_complex128 (sx0 : (List (Fl × Fl))) : Option Bool := ((f_slices_IndexFunc_complex128_complex128 sx0).bind fun q1 => (some (decide ((0 : Int) ≤ q1))))
theorem f_slices_ContainsFunc_complex128_complex128_c {S : Nat → Prop} {w0 w : World} {ow : List Res} (hp : Hp S w0 w ow) (vsx0 : Value) (sx0 : (List (Fl × Fl))) (hsx0 : RdS Ek.c128 S w0 vsx0 sx0) {r : Bool} (h : f_slices_ContainsFunc_complex128_complex128 sx0 = some r) :
    Calls Try.prog 40 #[vsx0, .func (.func 41) #[] #[]] w (fun e w' => e = .returned (.bool r) ∧ Hp S w0 w' (ow)) := by
  unfold f_slices_ContainsFunc_complex128_complex128 at h
  refine enter (n := 9) (args := [vsx0, .func (.func 41) #[] #[]]) Try.func40 rfl rfl (Nat.le_of_ble_eq_true rfl) fun a hf => ?_
  replace hf : Fr 9 a [(0, vsx0), (1, .func (.func 41) #[] #[])] := hf
  refine wp_mono (Q := fun e a w => e = .ret ∧ Fr 9 a [(4, .bool r)] ∧ Hp S w0 w (ow)) ?_ ?_
  rotate_left
  · rintro e a w ⟨rfl, hf, hp⟩
    exact ret1 hf rfl rfl ⟨rfl, hp⟩
  refine wp_seq ?_
  refine wp_reg ?_
  refine st_assign hf rfl rfl (by decide) ?_
  clear hf; intro a ha hf; clear ha
  refine st_nil hf ?_
  refine th_n ?_
  refine wp_seq ?_
  refine wp_reg ?_
  refine st_move hf rfl rfl (by decide) ?_
  clear hf; intro a ha hf; clear ha
  refine st_move hf rfl rfl (by decide) ?_
  clear hf; intro a ha hf; clear ha
  obtain ⟨q1, hcall2, h⟩ := bnd h
  refine st_call hf (by decide) Try.func59 rfl rfl rfl rfl rfl (f_slices_IndexFunc_complex128_complex128_c hp _ _ hsx0 hcall2) ?_
  rintro _ w ⟨rfl, hp0⟩
  clear hp; have hp := hp0; clear hp0
  replace hp : Hp _ _ _ (ow) := hp
  refine ⟨_, rfl, ?_⟩
  clear hf; intro a hf
  refine st_igeq hf (by decide) rfl rfl rfl ?_
  clear hf; intro a ha hf; clear ha
  refine st_assign hf rfl rfl (by decide) ?_
  clear hf; intro a ha hf; clear ha
  refine st_nil hf ?_
  refine th_n ?_
  refine wp_ret ?_
  obtain rfl := Option.some.inj h
  exact ⟨rfl, ⟨hf.sub ⟨rfl, trivial⟩, hp⟩⟩

noncomputable def f_strait_plain (l0 : (List (Fl × Fl))) : Option Bool := ((f_slices_ContainsFunc_complex128_complex128 l0).bind fun q1 => (some (!q1)))
theorem f_strait_plain_c {S : Nat → Prop} {w0 w : World} {ow : List Res} (hp : Hp S w0 w ow) (vl0 : Value) (l0 : (List (Fl × Fl))) (hl0 : RdS Ek.c128 S w0 vl0 l0) {r : Bool} (h : f_strait_plain l0 = some r) :
    Calls Try.prog 24 #[vl0] w (fun e w' => e = .returned (.bool r) ∧ Hp S w0 w' (ow)) := by
  unfold f_strait_plain at h
  refine enter (n := 6) (args := [vl0]) Try.func24 rfl rfl (Nat.le_of_ble_eq_true rfl) fun a hf => ?_
  replace hf : Fr 6 a [(0, vl0)] := hf
  refine wp_mono (Q := fun e a w => e = .ret ∧ Fr 6 a [(2, .bool r)] ∧ Hp S w0 w (ow)) ?_ ?_
  rotate_left
  · rintro e a w ⟨rfl, hf, hp⟩
    exact ret1 hf rfl rfl ⟨rfl, hp⟩
  refine wp_seq ?_
  refine wp_reg ?_
  refine st_assign hf rfl rfl (by decide) ?_
  clear hf; intro a ha hf; clear ha
  refine st_nil hf ?_
  refine th_n ?_
  refine wp_seq ?_
  refine wp_reg ?_
  refine st_move hf rfl rfl (by decide) ?_
  clear hf; intro a ha hf; clear ha
  obtain ⟨q1, hcall2, h⟩ := bnd h
  refine st_call hf (by decide) Try.func40 rfl rfl rfl rfl rfl (f_slices_ContainsFunc_complex128_complex128_c hp _ _ hl0 hcall2) ?_
  rintro _ w ⟨rfl, hp0⟩
  clear hp; have hp := hp0; clear hp0
  replace hp : Hp _ _ _ (ow) := hp
  refine ⟨_, rfl, ?_⟩
  clear hf; intro a hf
  refine st_not hf (by decide) rfl rfl ?_
  clear hf; intro a ha hf; clear ha
  refine st_assign hf rfl rfl (by decide) ?_
  clear hf; intro a ha hf; clear ha
  refine st_nil hf ?_
  refine th_n ?_
  refine wp_ret ?_
  obtain rfl := Option.some.inj h
  exact ⟨rfl, ⟨hf.sub ⟨rfl, trivial⟩, hp⟩⟩

noncomputable def f_strait_lay.s2c (xx1 : (List (Fl × Fl))) (hx2 : (List (Fl × Fl))) (apart3 : Int) (late4 : Int) (t19 : Int) (out0 : (List (Fl × Fl))) (t31 : Int) : Option (((List (Fl × Fl)) × Int) ⊕ (List (Fl × Fl))) := (if (decide (t31 < (xx1.length : Int))) = true then (if 0 ≤ t31 ∧ t31 < (xx1.length : Int) then (if (decide ((out0.length : Int) ≤ (IntKind.i64.wrap ((IntKind.i64.wrap (late4 + (IntKind.i64.wrap (t19 * apart3)))) + t31)))) = true then (some (Sum.inr out0)) else (if 0 ≤ (IntKind.i64.wrap ((IntKind.i64.wrap (late4 + (IntKind.i64.wrap (t19 * apart3)))) + t31)) ∧ (IntKind.i64.wrap ((IntKind.i64.wrap (late4 + (IntKind.i64.wrap (t19 * apart3)))) + t31)) < (out0.length : Int) then (if 0 ≤ (IntKind.i64.wrap ((IntKind.i64.wrap (late4 + (IntKind.i64.wrap (t19 * apart3)))) + t31)) ∧ (IntKind.i64.wrap ((IntKind.i64.wrap (late4 + (IntKind.i64.wrap (t19 * apart3)))) + t31)) < (out0.length : Int) then (some (Sum.inl ((out0.set ((IntKind.i64.wrap ((IntKind.i64.wrap (late4 + (IntKind.i64.wrap (t19 * apart3)))) + t31))).toNat (cadd (gt out0 (IntKind.i64.wrap ((IntKind.i64.wrap (late4 + (IntKind.i64.wrap (t19 * apart3)))) + t31))) ((fsub (fmul ((gt hx2 t19).1) ((gt xx1 t31).1)) (fmul ((gt hx2 t19).2) ((gt xx1 t31).2))), (fadd (fmul ((gt hx2 t19).1) ((gt xx1 t31).2)) (fmul ((gt hx2 t19).2) ((gt xx1 t31).1)))))), (IntKind.i64.wrap (t31 + (1 : Int)))))) else none) else none)) else none) else (some (Sum.inr out0)))
noncomputable def f_strait_lay.s2 (xx1 : (List (Fl × Fl))) (hx2 : (List (Fl × Fl))) (apart3 : Int) (late4 : Int) (t19 : Int) (s : ((List (Fl × Fl)) × Int)) : Option (((List (Fl × Fl)) × Int) ⊕ (List (Fl × Fl))) := f_strait_lay.s2c xx1 hx2 apart3 late4 t19 s.1 s.2
noncomputable def f_strait_lay.s1c (xx1 : (List (Fl × Fl))) (hx2 : (List (Fl × Fl))) (apart3 : Int) (late4 : Int) (out0 : (List (Fl × Fl))) (t19 : Int) : Option (((List (Fl × Fl)) × Int) ⊕ (List (Fl × Fl))) := (if (decide (t19 < (hx2.length : Int))) = true then (if 0 ≤ t19 ∧ t19 < (hx2.length : Int) then ((loop (f_strait_lay.s2 xx1 hx2 apart3 late4 t19) (out0, (0 : Int))).bind (fun q34 => (some (Sum.inl (q34, (IntKind.i64.wrap (t19 + (1 : Int)))))))) else none) else (some (Sum.inr out0)))
noncomputable def f_strait_lay.s1 (xx1 : (List (Fl × Fl))) (hx2 : (List (Fl × Fl))) (apart3 : Int) (late4 : Int) (s : ((List (Fl × Fl)) × Int)) : Option (((List (Fl × Fl)) × Int) ⊕ (List (Fl × Fl))) := f_strait_lay.s1c xx1 hx2 apart3 late4 s.1 s.2
noncomputable def f_strait_lay (out0 : (List (Fl × Fl))) (xx1 : (List (Fl × Fl))) (hx2 : (List (Fl × Fl))) (apart3 : Int) (late4 : Int) : Option (List (Fl × Fl)) := ((loop (f_strait_lay.s1 xx1 hx2 apart3 late4) (out0, (0 : Int))).bind (fun q35 => (some q35)))
theorem f_strait_lay_c {S : Nat → Prop} {w0 w : World} {ow : List Res} (vout0 : Value) (tbout0 : Nat) (out0 : (List (Fl × Fl))) (vxx1 : Value) (xx1 : (List (Fl × Fl))) (hxx1 : RdS Ek.c128 S w0 vxx1 xx1) (vhx2 : Value) (hx2 : (List (Fl × Fl))) (hhx2 : RdS Ek.c128 S w0 vhx2 hx2) (apart3 : Int) (late4 : Int) (hp : Hp S w0 w (Res.sl Ek.c128 tbout0 vout0 out0 :: ow)) {r : (List (Fl × Fl))} (h : f_strait_lay out0 xx1 hx2 apart3 late4 = some r) :
    Calls Try.prog 25 #[vout0, vxx1, vhx2, .int .i64 apart3, .int .i64 late4] w (fun e w' => e = .returned (.tuple #[]) ∧ Hp S w0 w' (Res.sl Ek.c128 tbout0 vout0 r :: ow)) := by
  unfold f_strait_lay at h
  refine enter (n := 77) (args := [vout0, vxx1, vhx2, .int .i64 apart3, .int .i64 late4]) Try.func25 rfl rfl (Nat.le_of_ble_eq_true rfl) fun a hf => ?_
  replace hf : Fr 77 a [(0, vout0), (1, vxx1), (2, vhx2), (3, .int .i64 apart3), (4, .int .i64 late4)] := hf
  refine wp_mono (Q := fun e a w => (e = .ret ∨ e = .normal) ∧ Fr 77 a [] ∧ Hp S w0 w (Res.sl Ek.c128 tbout0 vout0 r :: ow)) ?_ ?_
  rotate_left
  · rintro e a w ⟨rfl | rfl, hf, hp⟩
    · exact ret0 hf rfl ⟨rfl, hp⟩
    · exact ret0n hf rfl ⟨rfl, hp⟩
  refine wp_seq ?_
  refine wp_reg ?_
  refine st_move hf rfl rfl (by decide) ?_
  clear hf; intro a ha hf; clear ha
  refine st_len (E := Ek.c128) hf (by decide) Try.underlying32 rfl rfl (hhx2.sl hp) ?_
  clear hf; intro a ha hf; clear ha
  refine st_move hf rfl rfl (by decide) ?_
  clear hf; intro a ha hf; clear ha
  refine st_nil hf ?_
  refine th_n ?_
  refine wp_block ?_
  obtain ⟨q35, hl, h⟩ := bnd h
  refine wp_loop_pure (f := (f_strait_lay.s1 xx1 hx2 apart3 late4)) (s := (out0, (0 : Int))) (fun s a w => Fr 77 a [(0, vout0), (1, vxx1), (3, .int .i64 apart3), (4, .int .i64 late4), (17, vhx2), (18, .int .i64 (hx2.length : Int)), (19, .int .i64 s.2)] ∧ Hp S w0 w (Res.sl Ek.c128 tbout0 vout0 s.1 :: ow)) (fun q e a w => e = .exit 0 ∧ Fr 77 a [(0, vout0)] ∧ Hp S w0 w (Res.sl Ek.c128 tbout0 vout0 q :: ow)) ?_ hl ⟨hf.sub ⟨rfl, rfl, rfl, rfl, rfl, rfl, rfl, trivial⟩, hp⟩ ?_
  · clear hl hf hp
    intro s x a w h hI
    obtain ⟨out0, t19⟩ := s
    obtain ⟨hf, hp⟩ : Fr 77 a [(0, vout0), (1, vxx1), (3, .int .i64 apart3), (4, .int .i64 late4), (17, vhx2), (18, .int .i64 (hx2.length : Int)), (19, .int .i64 t19)] ∧ Hp S w0 w (Res.sl Ek.c128 tbout0 vout0 out0 :: ow) := hI
    replace h : f_strait_lay.s1c xx1 hx2 apart3 late4 out0 t19 = some x := h
    unfold f_strait_lay.s1c at h
    refine wp_seq ?_
    refine wp_reg ?_
    refine st_ilss hf (by decide) rfl rfl rfl ?_
    clear hf; intro a ha hf; clear ha
    refine st_nil hf ?_
    refine th_n ?_
    refine wp_seq ?_
    refine wp_if hf rfl (fun hb => ?_) (fun hb => ?_)
    · replace h := ifT h hb
      refine wp_skip ?_
      refine th_n ?_
      refine wp_seq ?_
      refine wp_block ?_
      refine wp_seq ?_
      refine wp_reg ?_
      refine st_move hf rfl rfl (by decide) ?_
      clear hf; intro a ha hf; clear ha
      obtain ⟨hc2, h⟩ := chk h
      refine st_index (E := Ek.c128) hf (by decide) Try.underlying32 elt39 rfl rfl rfl (hhx2.sl hp) hc2.1 hc2.2 ?_
      clear hf; intro a ha hf; clear ha
      refine st_ldC hf (by decide) pl39 rfl rfl (hhx2.sl hp) hc2.1 hc2.2 ?_
      clear hf; intro a bb3 bb4 y5 y6 ha hf; clear ha
      refine st_assign hf rfl rfl (by decide) ?_
      clear hf; intro a ha hf; clear ha
      refine st_assign hf rfl rfl (by decide) ?_
      clear hf; intro a ha hf; clear ha
      refine st_nil hf ?_
      refine th_n ?_
      refine wp_seq ?_
      refine wp_reg ?_
      refine st_move hf rfl rfl (by decide) ?_
      clear hf; intro a ha hf; clear ha
      refine st_move hf rfl rfl (by decide) ?_
      clear hf; intro a ha hf; clear ha
      refine st_move hf rfl rfl (by decide) ?_
      clear hf; intro a ha hf; clear ha
      refine st_imul hf (by decide) rfl rfl rfl ?_
      clear hf; intro a ha hf; clear ha
      refine st_iadd hf (by decide) rfl rfl rfl ?_
      clear hf; intro a ha hf; clear ha
      refine st_assign hf rfl rfl (by decide) ?_
      clear hf; intro a ha hf; clear ha
      refine st_nil hf ?_
      refine th_n ?_
      refine wp_seq ?_
      refine wp_reg ?_
      refine st_move hf rfl rfl (by decide) ?_
      clear hf; intro a ha hf; clear ha
      refine st_len (E := Ek.c128) hf (by decide) Try.underlying32 rfl rfl (hxx1.sl hp) ?_
      clear hf; intro a ha hf; clear ha
      refine st_move hf rfl rfl (by decide) ?_
      clear hf; intro a ha hf; clear ha
      refine st_nil hf ?_
      refine th_n ?_
      refine wp_block ?_
      obtain ⟨q34, hl, h⟩ := bnd h
      refine wp_loop_pure (f := (f_strait_lay.s2 xx1 hx2 apart3 late4 t19)) (s := (out0, (0 : Int))) (fun s a w => Fr 77 a [(0, vout0), (1, vxx1), (3, .int .i64 apart3), (4, .int .i64 late4), (11, .complex .f64 bb3 bb4), (12, .int .i64 (IntKind.i64.wrap (late4 + (IntKind.i64.wrap (t19 * apart3))))), (17, vhx2), (18, .int .i64 (hx2.length : Int)), (19, .int .i64 t19), (29, vxx1), (30, .int .i64 (xx1.length : Int)), (31, .int .i64 s.2)] ∧ Hp S w0 w (Res.sl Ek.c128 tbout0 vout0 s.1 :: ow)) (fun q e a w => e = .exit 2 ∧ Fr 77 a [(0, vout0), (1, vxx1), (3, .int .i64 apart3), (4, .int .i64 late4), (17, vhx2), (18, .int .i64 (hx2.length : Int)), (19, .int .i64 t19)] ∧ Hp S w0 w (Res.sl Ek.c128 tbout0 vout0 q :: ow)) ?_ hl ⟨hf.sub ⟨rfl, rfl, rfl, rfl, rfl, rfl, rfl, rfl, rfl, rfl, rfl, rfl, trivial⟩, hp⟩ ?_
      · clear hl hf hp
        intro s x a w h hI
        obtain ⟨out0, t31⟩ := s
        obtain ⟨hf, hp⟩ : Fr 77 a [(0, vout0), (1, vxx1), (3, .int .i64 apart3), (4, .int .i64 late4), (11, .complex .f64 bb3 bb4), (12, .int .i64 (IntKind.i64.wrap (late4 + (IntKind.i64.wrap (t19 * apart3))))), (17, vhx2), (18, .int .i64 (hx2.length : Int)), (19, .int .i64 t19), (29, vxx1), (30, .int .i64 (xx1.length : Int)), (31, .int .i64 t31)] ∧ Hp S w0 w (Res.sl Ek.c128 tbout0 vout0 out0 :: ow) := hI
        replace h : f_strait_lay.s2c xx1 hx2 apart3 late4 t19 out0 t31 = some x := h
        unfold f_strait_lay.s2c at h
        refine wp_seq ?_
        refine wp_reg ?_
        refine st_ilss hf (by decide) rfl rfl rfl ?_
        clear hf; intro a ha hf; clear ha
        refine st_nil hf ?_
        refine th_n ?_
        refine wp_seq ?_
        refine wp_if hf rfl (fun hb => ?_) (fun hb => ?_)
        · replace h := ifT h hb
          refine wp_skip ?_
          refine th_n ?_
          refine wp_seq ?_
          refine wp_block ?_
          refine wp_seq ?_
          refine wp_reg ?_
          refine st_move hf rfl rfl (by decide) ?_
          clear hf; intro a ha hf; clear ha
          obtain ⟨hc7, h⟩ := chk h
          refine st_index (E := Ek.c128) hf (by decide) Try.underlying32 elt39 rfl rfl rfl (hxx1.sl hp) hc7.1 hc7.2 ?_
          clear hf; intro a ha hf; clear ha
          refine st_ldC hf (by decide) pl39 rfl rfl (hxx1.sl hp) hc7.1 hc7.2 ?_
          clear hf; intro a bb8 bb9 y10 y11 ha hf; clear ha
          refine st_assign hf rfl rfl (by decide) ?_
          clear hf; intro a ha hf; clear ha
          refine st_assign hf rfl rfl (by decide) ?_
          clear hf; intro a ha hf; clear ha
          refine st_nil hf ?_
          refine th_n ?_
          refine wp_seq ?_
          refine wp_seq ?_
          refine wp_reg ?_
          refine st_move hf rfl rfl (by decide) ?_
          clear hf; intro a ha hf; clear ha
          refine st_move hf rfl rfl (by decide) ?_
          clear hf; intro a ha hf; clear ha
          refine st_iadd hf (by decide) rfl rfl rfl ?_
          clear hf; intro a ha hf; clear ha
          refine st_move hf rfl rfl (by decide) ?_
          clear hf; intro a ha hf; clear ha
          refine st_len (E := Ek.c128) hf (by decide) Try.underlying32 rfl rfl (hp.sl (i := 0) rfl) ?_
          clear hf; intro a ha hf; clear ha
          refine st_igeq hf (by decide) rfl rfl rfl ?_
          clear hf; intro a ha hf; clear ha
          refine st_nil hf ?_
          refine th_n ?_
          refine wp_if hf rfl (fun hb => ?_) (fun hb => ?_)
          · replace h := ifT h hb
            refine wp_exit ?_
            refine th_e ?_
            refine ib_ne rfl ?_
            refine th_e ?_
            obtain rfl := Option.some.inj h
            exact rnd_r (by simp) ⟨rfl, hf.sub ⟨rfl, rfl, rfl, rfl, rfl, rfl, rfl, trivial⟩, hp⟩
          replace h := ifF h hb
          refine wp_skip ?_
          refine th_n ?_
          refine wp_seq ?_
          refine wp_reg ?_
          refine st_move hf rfl rfl (by decide) ?_
          clear hf; intro a ha hf; clear ha
          refine st_real hf (by decide) rfl rfl ?_
          clear hf; intro a ha hf; clear ha
          refine st_move hf rfl rfl (by decide) ?_
          clear hf; intro a ha hf; clear ha
          refine st_real hf (by decide) rfl rfl ?_
          clear hf; intro a ha hf; clear ha
          refine st_farith (op := .mul) rfl hf (by decide) hp rfl rfl rfl (show Fl.rep bb3 ((gt hx2 t19).1) from y5) (show Fl.rep bb8 ((gt xx1 t31).1) from y10) ?_
          clear hf; intro a w bb12 y13 hf hp0; clear hp; have hp := hp0; clear hp0
          replace hp : Hp _ _ _ (Res.sl Ek.c128 tbout0 vout0 out0 :: ow) := hp
          refine st_move hf rfl rfl (by decide) ?_
          clear hf; intro a ha hf; clear ha
          refine st_imag hf (by decide) rfl rfl ?_
          clear hf; intro a ha hf; clear ha
          refine st_move hf rfl rfl (by decide) ?_
          clear hf; intro a ha hf; clear ha
          refine st_imag hf (by decide) rfl rfl ?_
          clear hf; intro a ha hf; clear ha
          refine st_farith (op := .mul) rfl hf (by decide) hp rfl rfl rfl (show Fl.rep bb4 ((gt hx2 t19).2) from y6) (show Fl.rep bb9 ((gt xx1 t31).2) from y11) ?_
          clear hf; intro a w bb14 y15 hf hp0; clear hp; have hp := hp0; clear hp0
          replace hp : Hp _ _ _ (Res.sl Ek.c128 tbout0 vout0 out0 :: ow) := hp
          refine st_farith (op := .sub) rfl hf (by decide) hp rfl rfl rfl (show Fl.rep bb12 (fmul ((gt hx2 t19).1) ((gt xx1 t31).1)) from y13) (show Fl.rep bb14 (fmul ((gt hx2 t19).2) ((gt xx1 t31).2)) from y15) ?_
          clear hf; intro a w bb16 y17 hf hp0; clear hp; have hp := hp0; clear hp0
          replace hp : Hp _ _ _ (Res.sl Ek.c128 tbout0 vout0 out0 :: ow) := hp
          refine st_assign hf rfl rfl (by decide) ?_
          clear hf; intro a ha hf; clear ha
          refine st_nil hf ?_
          refine th_n ?_
          refine wp_seq ?_
          refine wp_reg ?_
          refine st_move hf rfl rfl (by decide) ?_
          clear hf; intro a ha hf; clear ha
          refine st_real hf (by decide) rfl rfl ?_
          clear hf; intro a ha hf; clear ha
          refine st_move hf rfl rfl (by decide) ?_
          clear hf; intro a ha hf; clear ha
          refine st_imag hf (by decide) rfl rfl ?_
          clear hf; intro a ha hf; clear ha
          refine st_farith (op := .mul) rfl hf (by decide) hp rfl rfl rfl (show Fl.rep bb3 ((gt hx2 t19).1) from y5) (show Fl.rep bb9 ((gt xx1 t31).2) from y11) ?_
          clear hf; intro a w bb18 y19 hf hp0; clear hp; have hp := hp0; clear hp0
          replace hp : Hp _ _ _ (Res.sl Ek.c128 tbout0 vout0 out0 :: ow) := hp
          refine st_move hf rfl rfl (by decide) ?_
          clear hf; intro a ha hf; clear ha
          refine st_imag hf (by decide) rfl rfl ?_
          clear hf; intro a ha hf; clear ha
          refine st_move hf rfl rfl (by decide) ?_
          clear hf; intro a ha hf; clear ha
          refine st_real hf (by decide) rfl rfl ?_
          clear hf; intro a ha hf; clear ha
          refine st_farith (op := .mul) rfl hf (by decide) hp rfl rfl rfl (show Fl.rep bb4 ((gt hx2 t19).2) from y6) (show Fl.rep bb8 ((gt xx1 t31).1) from y10) ?_
          clear hf; intro a w bb20 y21 hf hp0; clear hp; have hp := hp0; clear hp0
          replace hp : Hp _ _ _ (Res.sl Ek.c128 tbout0 vout0 out0 :: ow) := hp
          refine st_farith (op := .add) rfl hf (by decide) hp rfl rfl rfl (show Fl.rep bb18 (fmul ((gt hx2 t19).1) ((gt xx1 t31).2)) from y19) (show Fl.rep bb20 (fmul ((gt hx2 t19).2) ((gt xx1 t31).1)) from y21) ?_
          clear hf; intro a w bb22 y23 hf hp0; clear hp; have hp := hp0; clear hp0
          replace hp : Hp _ _ _ (Res.sl Ek.c128 tbout0 vout0 out0 :: ow) := hp
          refine st_assign hf rfl rfl (by decide) ?_
          clear hf; intro a ha hf; clear ha
          refine st_nil hf ?_
          refine th_n ?_
          refine wp_reg ?_
          refine st_move hf rfl rfl (by decide) ?_
          clear hf; intro a ha hf; clear ha
          refine st_move hf rfl rfl (by decide) ?_
          clear hf; intro a ha hf; clear ha
          refine st_move hf rfl rfl (by decide) ?_
          clear hf; intro a ha hf; clear ha
          refine st_iadd hf (by decide) rfl rfl rfl ?_
          clear hf; intro a ha hf; clear ha
          obtain ⟨hc24, h⟩ := chk h
          refine st_index (E := Ek.c128) hf (by decide) Try.underlying32 elt39 rfl rfl rfl (hp.sl (i := 0) rfl) hc24.1 hc24.2 ?_
          clear hf; intro a ha hf; clear ha
          refine st_ldC hf (by decide) pl39 rfl rfl (hp.sl (i := 0) rfl) hc24.1 hc24.2 ?_
          clear hf; intro a bb25 bb26 y27 y28 ha hf; clear ha
          refine st_move hf rfl rfl (by decide) ?_
          clear hf; intro a ha hf; clear ha
          refine st_move hf rfl rfl (by decide) ?_
          clear hf; intro a ha hf; clear ha
          refine st_complex hf (by decide) rfl rfl rfl ?_
          clear hf; intro a ha hf; clear ha
          refine st_carith (op := .add) (zx := (gt out0 (IntKind.i64.wrap ((IntKind.i64.wrap (late4 + (IntKind.i64.wrap (t19 * apart3)))) + t31)))) (zy := ((fsub (fmul ((gt hx2 t19).1) ((gt xx1 t31).1)) (fmul ((gt hx2 t19).2) ((gt xx1 t31).2))), (fadd (fmul ((gt hx2 t19).1) ((gt xx1 t31).2)) (fmul ((gt hx2 t19).2) ((gt xx1 t31).1))))) rfl hf (by decide) hp rfl rfl rfl y27 y28 y17 y23 ?_
          clear hf; intro a w bb29 bb30 y31 y32 hf hp0; clear hp; have hp := hp0; clear hp0
          replace hp : Hp _ _ _ (Res.sl Ek.c128 tbout0 vout0 out0 :: ow) := hp
          obtain ⟨hc33, h⟩ := chk h
          refine st_index (E := Ek.c128) hf (by decide) Try.underlying32 elt39 rfl rfl rfl (hp.sl (i := 0) rfl) hc33.1 hc33.2 ?_
          clear hf; intro a ha hf; clear ha
          refine st_store (E := Ek.c128) hf elt39 hp (i := 0) rfl rfl rfl rfl (show Ek.c128.rep [.complex .f64 bb29 bb30] (cadd (gt out0 (IntKind.i64.wrap ((IntKind.i64.wrap (late4 + (IntKind.i64.wrap (t19 * apart3)))) + t31))) ((fsub (fmul ((gt hx2 t19).1) ((gt xx1 t31).1)) (fmul ((gt hx2 t19).2) ((gt xx1 t31).2))), (fadd (fmul ((gt hx2 t19).1) ((gt xx1 t31).2)) (fmul ((gt hx2 t19).2) ((gt xx1 t31).1))))) from ⟨_, _, rfl, y31, y32⟩) hc33.1 hc33.2 ?_
          clear hf; intro a w hf hp0; clear hp; have hp := hp0; clear hp0
          replace hp : Hp _ _ _ (Res.sl Ek.c128 tbout0 vout0 (out0.set ((IntKind.i64.wrap ((IntKind.i64.wrap (late4 + (IntKind.i64.wrap (t19 * apart3)))) + t31))).toNat (cadd (gt out0 (IntKind.i64.wrap ((IntKind.i64.wrap (late4 + (IntKind.i64.wrap (t19 * apart3)))) + t31))) ((fsub (fmul ((gt hx2 t19).1) ((gt xx1 t31).1)) (fmul ((gt hx2 t19).2) ((gt xx1 t31).2))), (fadd (fmul ((gt hx2 t19).1) ((gt xx1 t31).2)) (fmul ((gt hx2 t19).2) ((gt xx1 t31).1)))))) :: ow) := hp
          refine st_nil hf ?_
          refine ib_n ?_
          refine th_n ?_
          refine wp_reg ?_
          refine st_iadd hf (by decide) rfl rfl rfl ?_
          clear hf; intro a ha hf; clear ha
          refine st_move hf rfl rfl (by decide) ?_
          clear hf; intro a ha hf; clear ha
          refine st_nil hf ?_
          obtain rfl := Option.some.inj h
          exact rnd_l ⟨hf.sub ⟨rfl, rfl, rfl, rfl, rfl, rfl, rfl, rfl, rfl, rfl, rfl, rfl, trivial⟩, hp⟩
        replace h := ifF h hb
        refine wp_exit ?_
        refine th_e ?_
        obtain rfl := Option.some.inj h
        exact rnd_r (by simp) ⟨rfl, hf.sub ⟨rfl, rfl, rfl, rfl, rfl, rfl, rfl, trivial⟩, hp⟩
      clear hl hf hp
      intro e a w hne hO
      obtain ⟨rfl, hf, hp⟩ := hO
      refine ib_same ?_
      refine ib_n ?_
      refine th_n ?_
      refine wp_reg ?_
      refine st_iadd hf (by decide) rfl rfl rfl ?_
      clear hf; intro a ha hf; clear ha
      refine st_move hf rfl rfl (by decide) ?_
      clear hf; intro a ha hf; clear ha
      refine st_nil hf ?_
      obtain rfl := Option.some.inj h
      exact rnd_l ⟨hf.sub ⟨rfl, rfl, rfl, rfl, rfl, rfl, rfl, trivial⟩, hp⟩
    replace h := ifF h hb
    refine wp_exit ?_
    refine th_e ?_
    obtain rfl := Option.some.inj h
    exact rnd_r (by simp) ⟨rfl, hf.sub ⟨rfl, trivial⟩, hp⟩
  clear hl hf hp
  intro e a w hne hO
  obtain ⟨rfl, hf, hp⟩ := hO
  refine ib_same ?_
  obtain rfl := Option.some.inj h
  exact ⟨(.inr rfl), ⟨hf.sub trivial, hp⟩⟩

noncomputable def f_strait_Pass (sx0_Rate : Int) (sx0_Delay : Int) (sx0_Taps : (List (Fl × Fl))) (sx0_Echo : (List (Fl × Fl))) (xx1 : (List (Fl × Fl))) (own2 : (List (Fl × Fl))) (n3 : Int) : Option ((List (Fl × Fl)) × Int) := ((f_strait_Check sx0_Rate sx0_Delay sx0_Taps sx0_Echo).bind fun q3 => (if (q3 != (0 : Int)) = true then (some ([], q3)) else (if ((((decide (n3 < (0 : Int))) || (decide ((65536 : Int) < n3))) || (decide ((65536 : Int) < (xx1.length : Int)))) || (decide ((65536 : Int) < (own2.length : Int)))) = true then (some ([], (1 : Int))) else ((f_strait_plain xx1).bind fun q13 => ((if (!q13) = true then (some true) else ((f_strait_plain own2).bind fun q18 => (some (!q18)))).bind fun z17 => (if z17 = true then (some ([], (7 : Int))) else (if 0 ≤ n3 ∧ n3 ≤ n3 ∧ n3 * 16 ≤ 281474976710656 then ((f_strait_lay (List.replicate (n3).toNat (Fl.bits 0, Fl.bits 0)) xx1 sx0_Taps sx0_Rate sx0_Delay).bind fun q24 => ((f_strait_lay q24 own2 sx0_Echo (1 : Int) (0 : Int)).bind fun q27 => (some (q27, (0 : Int))))) else none)))))))
theorem f_strait_Pass_c {S : Nat → Prop} {w0 w : World} {ow : List Res} (hp : Hp S w0 w ow) (sx0_Rate : Int) (sx0_Delay : Int) (vsx0_Taps : Value) (sx0_Taps : (List (Fl × Fl))) (hsx0_Taps : RdS Ek.c128 S w0 vsx0_Taps sx0_Taps) (vsx0_Echo : Value) (sx0_Echo : (List (Fl × Fl))) (hsx0_Echo : RdS Ek.c128 S w0 vsx0_Echo sx0_Echo) (vxx1 : Value) (xx1 : (List (Fl × Fl))) (hxx1 : RdS Ek.c128 S w0 vxx1 xx1) (vown2 : Value) (own2 : (List (Fl × Fl))) (hown2 : RdS Ek.c128 S w0 vown2 own2) (n3 : Int) {r : ((List (Fl × Fl)) × Int)} (h : f_strait_Pass sx0_Rate sx0_Delay sx0_Taps sx0_Echo xx1 own2 n3 = some r) :
    Calls Try.prog 16 #[.agg #[.int .i64 sx0_Rate, .int .i64 sx0_Delay, vsx0_Taps, vsx0_Echo], vxx1, vown2, .int .i64 n3] w (fun e w' => ∃ (u0 : Value), e = .returned (.tuple #[u0, .int .i64 r.2]) ∧ Hp S w0 w' (Res.sl Ek.c128 39 u0 r.1 :: ow)) := by
  unfold f_strait_Pass at h
  refine enter (n := 58) (args := [.agg #[.int .i64 sx0_Rate, .int .i64 sx0_Delay, vsx0_Taps, vsx0_Echo], vxx1, vown2, .int .i64 n3]) Try.func16 rfl rfl (Nat.le_of_ble_eq_true rfl) fun a hf => ?_
  replace hf : Fr 58 a [(0, .agg #[.int .i64 sx0_Rate, .int .i64 sx0_Delay, vsx0_Taps, vsx0_Echo]), (1, vxx1), (2, vown2), (3, .int .i64 n3)] := hf
  refine wp_mono (Q := fun e a w => e = .ret ∧ ∃ (u0 : Value), Fr 58 a [(8, u0), (9, .int .i64 r.2)] ∧ Hp S w0 w (Res.sl Ek.c128 39 u0 r.1 :: ow)) ?_ ?_
  rotate_left
  · rintro e a w ⟨rfl, x0, hf, hp⟩
    exact ret2 hf rfl rfl rfl ⟨x0, rfl, hp⟩
  refine wp_seq ?_
  refine wp_reg ?_
  refine st_boxO (cs := [.int .i64 sx0_Rate, .int .i64 sx0_Delay, vsx0_Taps, vsx0_Echo]) hf (by decide) hp rfl rfl rfl ?_
  clear hf; intro a w v1 hf hp0; clear hp; have hp := hp0; clear hp0
  replace hp : Hp _ _ _ (Res.obj 38 v1 [.int .i64 sx0_Rate, .int .i64 sx0_Delay, vsx0_Taps, vsx0_Echo] :: ow) := hp
  refine st_assign hf rfl rfl (by decide) ?_
  clear hf; intro a ha hf; clear ha
  refine st_assign hf rfl rfl (by decide) ?_
  clear hf; intro a ha hf; clear ha
  refine st_nil hf ?_
  refine th_n ?_
  refine wp_seq ?_
  refine wp_seq ?_
  refine wp_reg ?_
  refine st_ldOA (m := 4) (us := [.int .i64 sx0_Rate, .int .i64 sx0_Delay, vsx0_Taps, vsx0_Echo]) hf (by decide) (by kernel_rfl) rfl rfl (hp.ob (i := 0) rfl) rfl rfl ?_
  clear hf; intro a ha hf; clear ha
  obtain ⟨q3, hcall4, h⟩ := bnd h
  refine st_call hf (by decide) Try.func23 rfl rfl rfl rfl rfl (f_strait_Check_c hp _ _ _ _ hsx0_Taps _ _ hsx0_Echo hcall4) ?_
  rintro _ w ⟨rfl, hp0⟩
  clear hp; have hp := hp0; clear hp0
  replace hp : Hp _ _ _ (Res.obj 38 v1 [.int .i64 sx0_Rate, .int .i64 sx0_Delay, vsx0_Taps, vsx0_Echo] :: ow) := hp
  refine ⟨_, rfl, ?_⟩
  clear hf; intro a hf
  refine st_assign hf rfl rfl (by decide) ?_
  clear hf; intro a ha hf; clear ha
  refine st_nil hf ?_
  refine th_n ?_
  refine wp_seq ?_
  refine wp_reg ?_
  refine st_move hf rfl rfl (by decide) ?_
  clear hf; intro a ha hf; clear ha
  refine st_ineq hf (by decide) rfl rfl rfl ?_
  clear hf; intro a ha hf; clear ha
  refine st_nil hf ?_
  refine th_n ?_
  refine wp_if hf rfl (fun hb => ?_) (fun hb => ?_)
  · replace h := ifT h hb
    refine wp_seq ?_
    refine wp_reg ?_
    refine st_move hf rfl rfl (by decide) ?_
    clear hf; intro a ha hf; clear ha
    refine st_assign hf rfl rfl (by decide) ?_
    clear hf; intro a ha hf; clear ha
    refine st_assign hf rfl rfl (by decide) ?_
    clear hf; intro a ha hf; clear ha
    refine st_nil hf ?_
    refine th_n ?_
    refine wp_ret ?_
    refine th_r ?_
    obtain rfl := Option.some.inj h
    have hp := hp.nil Ek.c128 39
    have hp : Hp _ _ _ (Res.sl Ek.c128 39 (.slice none 0 0) ([]) :: ow) := Hp.sel (pre := [Res.sl Ek.c128 39 (.slice none 0 0) ([]), Res.obj 38 v1 [.int .i64 sx0_Rate, .int .i64 sx0_Delay, vsx0_Taps, vsx0_Echo]]) (tail := ow) (rs' := [Res.sl Ek.c128 39 (.slice none 0 0) ([])]) hp [0] (by decide) (by simp) rfl
    exact ⟨rfl, ⟨_, hf.sub ⟨rfl, rfl, trivial⟩, hp⟩⟩
  replace h := ifF h hb
  refine wp_skip ?_
  refine th_n ?_
  refine wp_seq ?_
  refine wp_seq ?_
  refine wp_reg ?_
  refine st_move hf rfl rfl (by decide) ?_
  clear hf; intro a ha hf; clear ha
  refine st_ilss hf (by decide) rfl rfl rfl ?_
  clear hf; intro a ha hf; clear ha
  refine st_move hf rfl rfl (by decide) ?_
  clear hf; intro a ha hf; clear ha
  refine wpList_cut 3 (fun a w => Fr 58 a [(1, vxx1), (2, vown2), (3, .int .i64 n3), (4, optr v1 0), (22, .bool ((decide (n3 < (0 : Int))) || (decide ((65536 : Int) < n3))))] ∧ Hp S w0 w (Res.obj 38 v1 [.int .i64 sx0_Rate, .int .i64 sx0_Delay, vsx0_Taps, vsx0_Echo] :: ow)) ?_ ?_
  · rcases Bool.eq_false_or_eq_true (decide (n3 < (0 : Int))) with hb7 | hb7
    · skip
      refine st_skip hf (wantN hf rfl rfl hb7) rfl (by decide) ?_ rfl
      clear hf; intro a hf
      refine st_skip hf (wantN hf rfl rfl hb7) rfl (by decide) ?_ rfl
      clear hf; intro a hf
      refine st_pick (v := .bool true) hf rfl rfl (fun hb' => ?_) (fun hb' => ?_) (by decide) ?_
      · rfl
      · exact absurd (hb7.symm.trans hb') (by decide)
      clear hf; intro a ha hf; clear ha
      refine st_nil hf (th_n ?_)
      exact ⟨hf.sub ⟨rfl, rfl, rfl, rfl, (by rw [hb7]; rfl), trivial⟩, hp⟩
    refine st_move hf (wantY hf rfl rfl hb7) rfl (by decide) ?_
    clear hf; intro a ha hf; clear ha
    refine st_igtr hf (by decide) (wantY hf rfl rfl hb7) rfl rfl ?_
    clear hf; intro a ha hf; clear ha
    refine st_pick (v := .bool (decide ((65536 : Int) < n3))) hf rfl rfl (fun hb' => ?_) (fun hb' => ?_) (by decide) ?_
    · exact absurd (hb7.symm.trans hb') (by decide)
    · rfl
    clear hf; intro a ha hf; clear ha
    refine st_nil hf (th_n ?_)
    exact ⟨hf.sub ⟨rfl, rfl, rfl, rfl, (by rw [hb7]; rfl), trivial⟩, hp⟩
  rintro a w ⟨hf, hp⟩
  refine st_move hf rfl rfl (by decide) ?_
  clear hf; intro a ha hf; clear ha
  refine wpList_cut 4 (fun a w => Fr 58 a [(1, vxx1), (2, vown2), (3, .int .i64 n3), (4, optr v1 0), (27, .bool (((decide (n3 < (0 : Int))) || (decide ((65536 : Int) < n3))) || (decide ((65536 : Int) < (xx1.length : Int)))))] ∧ Hp S w0 w (Res.obj 38 v1 [.int .i64 sx0_Rate, .int .i64 sx0_Delay, vsx0_Taps, vsx0_Echo] :: ow)) ?_ ?_
  · rcases Bool.eq_false_or_eq_true ((decide (n3 < (0 : Int))) || (decide ((65536 : Int) < n3))) with hb9 | hb9
    · skip
      refine st_skip hf (wantN hf rfl rfl hb9) rfl (by decide) ?_ rfl
      clear hf; intro a hf
      refine st_skip hf (wantN hf rfl rfl hb9) rfl (by decide) ?_ rfl
      clear hf; intro a hf
      refine st_skip hf (wantN hf rfl rfl hb9) rfl (by decide) ?_ rfl
      clear hf; intro a hf
      refine st_pick (v := .bool true) hf rfl rfl (fun hb' => ?_) (fun hb' => ?_) (by decide) ?_
      · rfl
      · exact absurd (hb9.symm.trans hb') (by decide)
      clear hf; intro a ha hf; clear ha
      refine st_nil hf (th_n ?_)
      exact ⟨hf.sub ⟨rfl, rfl, rfl, rfl, (by rw [hb9]; rfl), trivial⟩, hp⟩
    refine st_move hf (wantY hf rfl rfl hb9) rfl (by decide) ?_
    clear hf; intro a ha hf; clear ha
    refine st_len (E := Ek.c128) hf (by decide) Try.underlying32 (wantY hf rfl rfl hb9) rfl (hxx1.sl hp) ?_
    clear hf; intro a ha hf; clear ha
    refine st_igtr hf (by decide) (wantY hf rfl rfl hb9) rfl rfl ?_
    clear hf; intro a ha hf; clear ha
    refine st_pick (v := .bool (decide ((65536 : Int) < (xx1.length : Int)))) hf rfl rfl (fun hb' => ?_) (fun hb' => ?_) (by decide) ?_
    · exact absurd (hb9.symm.trans hb') (by decide)
    · rfl
    clear hf; intro a ha hf; clear ha
    refine st_nil hf (th_n ?_)
    exact ⟨hf.sub ⟨rfl, rfl, rfl, rfl, (by rw [hb9]; rfl), trivial⟩, hp⟩
  rintro a w ⟨hf, hp⟩
  refine st_move hf rfl rfl (by decide) ?_
  clear hf; intro a ha hf; clear ha
  refine wpList_cut 4 (fun a w => Fr 58 a [(1, vxx1), (2, vown2), (3, .int .i64 n3), (4, optr v1 0), (32, .bool ((((decide (n3 < (0 : Int))) || (decide ((65536 : Int) < n3))) || (decide ((65536 : Int) < (xx1.length : Int)))) || (decide ((65536 : Int) < (own2.length : Int)))))] ∧ Hp S w0 w (Res.obj 38 v1 [.int .i64 sx0_Rate, .int .i64 sx0_Delay, vsx0_Taps, vsx0_Echo] :: ow)) ?_ ?_
  · rcases Bool.eq_false_or_eq_true (((decide (n3 < (0 : Int))) || (decide ((65536 : Int) < n3))) || (decide ((65536 : Int) < (xx1.length : Int)))) with hb11 | hb11
    · skip
      refine st_skip hf (wantN hf rfl rfl hb11) rfl (by decide) ?_ rfl
      clear hf; intro a hf
      refine st_skip hf (wantN hf rfl rfl hb11) rfl (by decide) ?_ rfl
      clear hf; intro a hf
      refine st_skip hf (wantN hf rfl rfl hb11) rfl (by decide) ?_ rfl
      clear hf; intro a hf
      refine st_pick (v := .bool true) hf rfl rfl (fun hb' => ?_) (fun hb' => ?_) (by decide) ?_
      · rfl
      · exact absurd (hb11.symm.trans hb') (by decide)
      clear hf; intro a ha hf; clear ha
      refine st_nil hf (th_n ?_)
      exact ⟨hf.sub ⟨rfl, rfl, rfl, rfl, (by rw [hb11]; rfl), trivial⟩, hp⟩
    refine st_move hf (wantY hf rfl rfl hb11) rfl (by decide) ?_
    clear hf; intro a ha hf; clear ha
    refine st_len (E := Ek.c128) hf (by decide) Try.underlying32 (wantY hf rfl rfl hb11) rfl (hown2.sl hp) ?_
    clear hf; intro a ha hf; clear ha
    refine st_igtr hf (by decide) (wantY hf rfl rfl hb11) rfl rfl ?_
    clear hf; intro a ha hf; clear ha
    refine st_pick (v := .bool (decide ((65536 : Int) < (own2.length : Int)))) hf rfl rfl (fun hb' => ?_) (fun hb' => ?_) (by decide) ?_
    · exact absurd (hb11.symm.trans hb') (by decide)
    · rfl
    clear hf; intro a ha hf; clear ha
    refine st_nil hf (th_n ?_)
    exact ⟨hf.sub ⟨rfl, rfl, rfl, rfl, (by rw [hb11]; rfl), trivial⟩, hp⟩
  rintro a w ⟨hf, hp⟩
  refine st_nil hf ?_
  refine th_n ?_
  refine wp_if hf rfl (fun hb => ?_) (fun hb => ?_)
  · replace h := ifT h hb
    refine wp_seq ?_
    refine wp_reg ?_
    refine st_assign hf rfl rfl (by decide) ?_
    clear hf; intro a ha hf; clear ha
    refine st_assign hf rfl rfl (by decide) ?_
    clear hf; intro a ha hf; clear ha
    refine st_nil hf ?_
    refine th_n ?_
    refine wp_ret ?_
    refine th_r ?_
    obtain rfl := Option.some.inj h
    have hp := hp.nil Ek.c128 39
    have hp : Hp _ _ _ (Res.sl Ek.c128 39 (.slice none 0 0) ([]) :: ow) := Hp.sel (pre := [Res.sl Ek.c128 39 (.slice none 0 0) ([]), Res.obj 38 v1 [.int .i64 sx0_Rate, .int .i64 sx0_Delay, vsx0_Taps, vsx0_Echo]]) (tail := ow) (rs' := [Res.sl Ek.c128 39 (.slice none 0 0) ([])]) hp [0] (by decide) (by simp) rfl
    exact ⟨rfl, ⟨_, hf.sub ⟨rfl, rfl, trivial⟩, hp⟩⟩
  replace h := ifF h hb
  refine wp_skip ?_
  refine th_n ?_
  refine wp_seq ?_
  refine wp_seq ?_
  refine wp_reg ?_
  refine st_move hf rfl rfl (by decide) ?_
  clear hf; intro a ha hf; clear ha
  obtain ⟨q13, hcall14, h⟩ := bnd h
  refine st_call hf (by decide) Try.func24 rfl rfl rfl rfl rfl (f_strait_plain_c hp _ _ hxx1 hcall14) ?_
  rintro _ w ⟨rfl, hp0⟩
  clear hp; have hp := hp0; clear hp0
  replace hp : Hp _ _ _ (Res.obj 38 v1 [.int .i64 sx0_Rate, .int .i64 sx0_Delay, vsx0_Taps, vsx0_Echo] :: ow) := hp
  refine ⟨_, rfl, ?_⟩
  clear hf; intro a hf
  refine st_not hf (by decide) rfl rfl ?_
  clear hf; intro a ha hf; clear ha
  refine st_move hf rfl rfl (by decide) ?_
  clear hf; intro a ha hf; clear ha
  obtain ⟨z17, hz15, h⟩ := bnd h
  refine wpList_cut 4 (fun a w => Fr 58 a [(1, vxx1), (2, vown2), (3, .int .i64 n3), (4, optr v1 0), (40, .bool z17)] ∧ Hp S w0 w (Res.obj 38 v1 [.int .i64 sx0_Rate, .int .i64 sx0_Delay, vsx0_Taps, vsx0_Echo] :: ow)) ?_ ?_
  · rcases Bool.eq_false_or_eq_true (!q13) with hb16 | hb16
    · skip
      replace hz15 := ifT hz15 hb16
      refine st_skip hf (wantN hf rfl rfl hb16) rfl (by decide) ?_ rfl
      clear hf; intro a hf
      refine st_skip hf (wantN hf rfl rfl hb16) rfl (by decide) ?_ rfl
      clear hf; intro a hf
      refine st_skip hf (wantN hf rfl rfl hb16) rfl (by decide) ?_ rfl
      clear hf; intro a hf
      obtain rfl := Option.some.inj hz15
      refine st_pick (v := .bool true) hf rfl rfl (fun hb' => ?_) (fun hb' => ?_) (by decide) ?_
      · rfl
      · exact absurd (hb16.symm.trans hb') (by decide)
      clear hf; intro a ha hf; clear ha
      refine st_nil hf (th_n ?_)
      exact ⟨hf.sub ⟨rfl, rfl, rfl, rfl, rfl, trivial⟩, hp⟩
    replace hz15 := ifF hz15 hb16
    refine st_move hf (wantY hf rfl rfl hb16) rfl (by decide) ?_
    clear hf; intro a ha hf; clear ha
    obtain ⟨q18, hcall19, hz15⟩ := bnd hz15
    refine st_call hf (by decide) Try.func24 rfl rfl (wantY hf rfl rfl hb16) rfl rfl (f_strait_plain_c hp _ _ hown2 hcall19) ?_
    rintro _ w ⟨rfl, hp0⟩
    clear hp; have hp := hp0; clear hp0
    replace hp : Hp _ _ _ (Res.obj 38 v1 [.int .i64 sx0_Rate, .int .i64 sx0_Delay, vsx0_Taps, vsx0_Echo] :: ow) := hp
    refine ⟨_, rfl, ?_⟩
    clear hf; intro a hf
    refine st_not hf (by decide) (wantY hf rfl rfl hb16) rfl ?_
    clear hf; intro a ha hf; clear ha
    obtain rfl := Option.some.inj hz15
    refine st_pick (v := .bool (!q18)) hf rfl rfl (fun hb' => ?_) (fun hb' => ?_) (by decide) ?_
    · exact absurd (hb16.symm.trans hb') (by decide)
    · rfl
    clear hf; intro a ha hf; clear ha
    refine st_nil hf (th_n ?_)
    exact ⟨hf.sub ⟨rfl, rfl, rfl, rfl, rfl, trivial⟩, hp⟩
  rintro a w ⟨hf, hp⟩
  refine st_nil hf ?_
  refine th_n ?_
  refine wp_if hf rfl (fun hb => ?_) (fun hb => ?_)
  · replace h := ifT h hb
    refine wp_seq ?_
    refine wp_reg ?_
    refine st_assign hf rfl rfl (by decide) ?_
    clear hf; intro a ha hf; clear ha
    refine st_assign hf rfl rfl (by decide) ?_
    clear hf; intro a ha hf; clear ha
    refine st_nil hf ?_
    refine th_n ?_
    refine wp_ret ?_
    refine th_r ?_
    obtain rfl := Option.some.inj h
    have hp := hp.nil Ek.c128 39
    have hp : Hp _ _ _ (Res.sl Ek.c128 39 (.slice none 0 0) ([]) :: ow) := Hp.sel (pre := [Res.sl Ek.c128 39 (.slice none 0 0) ([]), Res.obj 38 v1 [.int .i64 sx0_Rate, .int .i64 sx0_Delay, vsx0_Taps, vsx0_Echo]]) (tail := ow) (rs' := [Res.sl Ek.c128 39 (.slice none 0 0) ([])]) hp [0] (by decide) (by simp) rfl
    exact ⟨rfl, ⟨_, hf.sub ⟨rfl, rfl, trivial⟩, hp⟩⟩
  replace h := ifF h hb
  refine wp_skip ?_
  refine th_n ?_
  refine wp_seq ?_
  refine wp_reg ?_
  refine st_move hf rfl rfl (by decide) ?_
  clear hf; intro a ha hf; clear ha
  obtain ⟨hc21, h⟩ := chk h
  refine st_make (E := Ek.c128) hf (by decide) elt39 Try.underlying32 (by decide) hp rfl rfl rfl hc21.1 hc21.2.1 hc21.2.2 ?_
  clear hf; intro a w v22 hf hp0; clear hp; have hp := hp0; clear hp0
  replace hp : Hp _ _ _ (Res.sl Ek.c128 39 v22 (List.replicate (n3).toNat (Fl.bits 0, Fl.bits 0)) :: Res.obj 38 v1 [.int .i64 sx0_Rate, .int .i64 sx0_Delay, vsx0_Taps, vsx0_Echo] :: ow) := hp
  refine st_assign hf rfl rfl (by decide) ?_
  clear hf; intro a ha hf; clear ha
  refine st_nil hf ?_
  refine th_n ?_
  refine wp_seq ?_
  refine wp_reg ?_
  refine st_move hf rfl rfl (by decide) ?_
  clear hf; intro a ha hf; clear ha
  refine st_move hf rfl rfl (by decide) ?_
  clear hf; intro a ha hf; clear ha
  refine st_fa (o' := 2) hf (by decide) (off := 2) (sz := 1) (by kernel_rfl) (by decide) rfl rfl (hp.ob (i := 1) rfl) rfl ?_
  clear hf; intro a ha hf; clear ha
  refine st_ldO (u := vsx0_Taps) hf (by decide) pl32 rfl rfl (hp.ob (i := 1) rfl) rfl ?_
  clear hf; intro a ha hf; clear ha
  refine st_fa (o' := 0) hf (by decide) (off := 0) (sz := 1) (by kernel_rfl) (by decide) rfl rfl (hp.ob (i := 1) rfl) rfl ?_
  clear hf; intro a ha hf; clear ha
  refine st_ldO (u := .int .i64 sx0_Rate) hf (by decide) pl3 rfl rfl (hp.ob (i := 1) rfl) rfl ?_
  clear hf; intro a ha hf; clear ha
  refine st_fa (o' := 1) hf (by decide) (off := 1) (sz := 1) (by kernel_rfl) (by decide) rfl rfl (hp.ob (i := 1) rfl) rfl ?_
  clear hf; intro a ha hf; clear ha
  refine st_ldO (u := .int .i64 sx0_Delay) hf (by decide) pl3 rfl rfl (hp.ob (i := 1) rfl) rfl ?_
  clear hf; intro a ha hf; clear ha
  obtain ⟨q24, hcall25, h⟩ := bnd h
  have hp26 : Hp _ _ _ (Res.sl Ek.c128 39 v22 (List.replicate (n3).toNat (Fl.bits 0, Fl.bits 0)) :: Res.obj 38 v1 [.int .i64 sx0_Rate, .int .i64 sx0_Delay, vsx0_Taps, vsx0_Echo] :: ow) := Hp.sel (pre := [Res.sl Ek.c128 39 v22 (List.replicate (n3).toNat (Fl.bits 0, Fl.bits 0)), Res.obj 38 v1 [.int .i64 sx0_Rate, .int .i64 sx0_Delay, vsx0_Taps, vsx0_Echo]]) (tail := ow) (rs' := [Res.sl Ek.c128 39 v22 (List.replicate (n3).toNat (Fl.bits 0, Fl.bits 0)), Res.obj 38 v1 [.int .i64 sx0_Rate, .int .i64 sx0_Delay, vsx0_Taps, vsx0_Echo]]) hp [0, 1] (by decide) (by simp) rfl
  refine st_call hf (by decide) Try.func25 rfl rfl rfl rfl rfl (f_strait_lay_c _ _ _ _ _ hxx1 _ _ hsx0_Taps _ _ hp26 hcall25) ?_
  rintro _ w ⟨rfl, hp0⟩
  clear hp; have hp := hp0; clear hp0
  replace hp : Hp _ _ _ (Res.sl Ek.c128 39 v22 q24 :: Res.obj 38 v1 [.int .i64 sx0_Rate, .int .i64 sx0_Delay, vsx0_Taps, vsx0_Echo] :: ow) := hp
  refine ⟨_, rfl, ?_⟩
  clear hf; intro a hf
  refine st_nil hf ?_
  refine th_n ?_
  refine wp_seq ?_
  refine wp_reg ?_
  refine st_move hf rfl rfl (by decide) ?_
  clear hf; intro a ha hf; clear ha
  refine st_move hf rfl rfl (by decide) ?_
  clear hf; intro a ha hf; clear ha
  refine st_fa (o' := 3) hf (by decide) (off := 3) (sz := 1) (by kernel_rfl) (by decide) rfl rfl (hp.ob (i := 1) rfl) rfl ?_
  clear hf; intro a ha hf; clear ha
  refine st_ldO (u := vsx0_Echo) hf (by decide) pl32 rfl rfl (hp.ob (i := 1) rfl) rfl ?_
  clear hf; intro a ha hf; clear ha
  obtain ⟨q27, hcall28, h⟩ := bnd h
  have hp29 : Hp _ _ _ (Res.sl Ek.c128 39 v22 q24 :: Res.obj 38 v1 [.int .i64 sx0_Rate, .int .i64 sx0_Delay, vsx0_Taps, vsx0_Echo] :: ow) := Hp.sel (pre := [Res.sl Ek.c128 39 v22 q24, Res.obj 38 v1 [.int .i64 sx0_Rate, .int .i64 sx0_Delay, vsx0_Taps, vsx0_Echo]]) (tail := ow) (rs' := [Res.sl Ek.c128 39 v22 q24, Res.obj 38 v1 [.int .i64 sx0_Rate, .int .i64 sx0_Delay, vsx0_Taps, vsx0_Echo]]) hp [0, 1] (by decide) (by simp) rfl
  refine st_call hf (by decide) Try.func25 rfl rfl rfl rfl rfl (f_strait_lay_c _ _ _ _ _ hown2 _ _ hsx0_Echo _ _ hp29 hcall28) ?_
  rintro _ w ⟨rfl, hp0⟩
  clear hp; have hp := hp0; clear hp0
  replace hp : Hp _ _ _ (Res.sl Ek.c128 39 v22 q27 :: Res.obj 38 v1 [.int .i64 sx0_Rate, .int .i64 sx0_Delay, vsx0_Taps, vsx0_Echo] :: ow) := hp
  refine ⟨_, rfl, ?_⟩
  clear hf; intro a hf
  refine st_nil hf ?_
  refine th_n ?_
  refine wp_seq ?_
  refine wp_reg ?_
  refine st_move hf rfl rfl (by decide) ?_
  clear hf; intro a ha hf; clear ha
  refine st_assign hf rfl rfl (by decide) ?_
  clear hf; intro a ha hf; clear ha
  refine st_assign hf rfl rfl (by decide) ?_
  clear hf; intro a ha hf; clear ha
  refine st_nil hf ?_
  refine th_n ?_
  refine wp_ret ?_
  obtain rfl := Option.some.inj h
  have hp : Hp _ _ _ (Res.sl Ek.c128 39 v22 q27 :: ow) := Hp.sel (pre := [Res.sl Ek.c128 39 v22 q27, Res.obj 38 v1 [.int .i64 sx0_Rate, .int .i64 sx0_Delay, vsx0_Taps, vsx0_Echo]]) (tail := ow) (rs' := [Res.sl Ek.c128 39 v22 q27]) hp [0] (by decide) (by simp) rfl
  exact ⟨rfl, ⟨_, hf.sub ⟨rfl, rfl, trivial⟩, hp⟩⟩

noncomputable def f_foghorntop_through (p0_Rate : Int) (p0_Fore : Int) (p0_Taps : (List Fl)) (sx1_Rate : Int) (sx1_Delay : Int) (sx1_Taps : (List (Fl × Fl))) (sx1_Echo : (List (Fl × Fl))) (l2 : (List (Fl × Fl))) : Option ((List (Fl × Fl)) × Bool) := ((f_pulse_Shape p0_Rate p0_Fore p0_Taps l2).bind fun q5 => ((f_strait_Pass sx1_Rate sx1_Delay sx1_Taps sx1_Echo q5.1 ([]) (IntKind.i64.wrap ((IntKind.i64.wrap ((q5.1.length : Int) + sx1_Delay)) + (IntKind.i64.wrap ((sx1_Taps.length : Int) * sx1_Rate))))).bind fun q9 => (some (q9.1, ((q5.2 == (0 : Int)) && (q9.2 == (0 : Int)))))))
theorem f_foghorntop_through_c {S : Nat → Prop} {w0 w : World} {ow : List Res} (hp : Hp S w0 w ow) (p0_Rate : Int) (p0_Fore : Int) (vp0_Taps : Value) (p0_Taps : (List Fl)) (hp0_Taps : RdS Ek.f64 S w0 vp0_Taps p0_Taps) (sx1_Rate : Int) (sx1_Delay : Int) (vsx1_Taps : Value) (sx1_Taps : (List (Fl × Fl))) (hsx1_Taps : RdS Ek.c128 S w0 vsx1_Taps sx1_Taps) (vsx1_Echo : Value) (sx1_Echo : (List (Fl × Fl))) (hsx1_Echo : RdS Ek.c128 S w0 vsx1_Echo sx1_Echo) (vl2 : Value) (l2 : (List (Fl × Fl))) (hl2 : RdS Ek.c128 S w0 vl2 l2) {r : ((List (Fl × Fl)) × Bool)} (h : f_foghorntop_through p0_Rate p0_Fore p0_Taps sx1_Rate sx1_Delay sx1_Taps sx1_Echo l2 = some r) :
    Calls Try.prog 9 #[.agg #[.int .i64 p0_Rate, .int .i64 p0_Fore, vp0_Taps], .agg #[.int .i64 sx1_Rate, .int .i64 sx1_Delay, vsx1_Taps, vsx1_Echo], vl2] w (fun e w' => ∃ (u0 : Value), e = .returned (.tuple #[u0, .bool r.2]) ∧ Hp S w0 w' (Res.sl Ek.c128 39 u0 r.1 :: ow)) := by
  unfold f_foghorntop_through at h
  refine enter (n := 43) (args := [.agg #[.int .i64 p0_Rate, .int .i64 p0_Fore, vp0_Taps], .agg #[.int .i64 sx1_Rate, .int .i64 sx1_Delay, vsx1_Taps, vsx1_Echo], vl2]) Try.func9 rfl rfl (Nat.le_of_ble_eq_true rfl) fun a hf => ?_
  replace hf : Fr 43 a [(0, .agg #[.int .i64 p0_Rate, .int .i64 p0_Fore, vp0_Taps]), (1, .agg #[.int .i64 sx1_Rate, .int .i64 sx1_Delay, vsx1_Taps, vsx1_Echo]), (2, vl2)] := hf
  refine wp_mono (Q := fun e a w => e = .ret ∧ ∃ (u0 : Value), Fr 43 a [(6, u0), (7, .bool r.2)] ∧ Hp S w0 w (Res.sl Ek.c128 39 u0 r.1 :: ow)) ?_ ?_
  rotate_left
  · rintro e a w ⟨rfl, x0, hf, hp⟩
    exact ret2 hf rfl rfl rfl ⟨x0, rfl, hp⟩
  refine wp_seq ?_
  refine wp_reg ?_
  refine st_boxO (cs := [.int .i64 p0_Rate, .int .i64 p0_Fore, vp0_Taps]) hf (by decide) hp rfl rfl rfl ?_
  clear hf; intro a w v1 hf hp0; clear hp; have hp := hp0; clear hp0
  replace hp : Hp _ _ _ (Res.obj 28 v1 [.int .i64 p0_Rate, .int .i64 p0_Fore, vp0_Taps] :: ow) := hp
  refine st_boxO (cs := [.int .i64 sx1_Rate, .int .i64 sx1_Delay, vsx1_Taps, vsx1_Echo]) hf (by decide) hp rfl rfl rfl ?_
  clear hf; intro a w v3 hf hp0; clear hp; have hp := hp0; clear hp0
  replace hp : Hp _ _ _ (Res.obj 38 v3 [.int .i64 sx1_Rate, .int .i64 sx1_Delay, vsx1_Taps, vsx1_Echo] :: Res.obj 28 v1 [.int .i64 p0_Rate, .int .i64 p0_Fore, vp0_Taps] :: ow) := hp
  refine st_assign hf rfl rfl (by decide) ?_
  clear hf; intro a ha hf; clear ha
  refine st_assign hf rfl rfl (by decide) ?_
  clear hf; intro a ha hf; clear ha
  refine st_nil hf ?_
  refine th_n ?_
  refine wp_seq ?_
  refine wp_reg ?_
  refine st_ldOA (m := 3) (us := [.int .i64 p0_Rate, .int .i64 p0_Fore, vp0_Taps]) hf (by decide) (by kernel_rfl) rfl rfl (hp.ob (i := 1) rfl) rfl rfl ?_
  clear hf; intro a ha hf; clear ha
  refine st_move hf rfl rfl (by decide) ?_
  clear hf; intro a ha hf; clear ha
  obtain ⟨q5, hcall6, h⟩ := bnd h
  refine st_call hf (by decide) Try.func15 rfl rfl rfl rfl rfl (f_pulse_Shape_c hp _ _ _ _ hp0_Taps _ _ hl2 hcall6) ?_
  rintro _ w ⟨v7, rfl, hp0⟩
  clear hp; have hp := hp0; clear hp0
  replace hp : Hp _ _ _ (Res.sl Ek.c128 39 v7 q5.1 :: Res.obj 38 v3 [.int .i64 sx1_Rate, .int .i64 sx1_Delay, vsx1_Taps, vsx1_Echo] :: Res.obj 28 v1 [.int .i64 p0_Rate, .int .i64 p0_Fore, vp0_Taps] :: ow) := hp
  refine ⟨_, rfl, ?_⟩
  clear hf; intro a hf
  refine st_move hf rfl rfl (by decide) ?_
  clear hf; intro a ha hf; clear ha
  refine st_extract hf (by decide) rfl rfl rfl ?_
  clear hf; intro a ha hf; clear ha
  refine st_extract hf (by decide) rfl rfl rfl ?_
  clear hf; intro a ha hf; clear ha
  refine st_assign hf rfl rfl (by decide) ?_
  clear hf; intro a ha hf; clear ha
  refine st_assign hf rfl rfl (by decide) ?_
  clear hf; intro a ha hf; clear ha
  refine st_nil hf ?_
  refine th_n ?_
  refine wp_seq ?_
  refine wp_reg ?_
  refine st_ldOA (m := 4) (us := [.int .i64 sx1_Rate, .int .i64 sx1_Delay, vsx1_Taps, vsx1_Echo]) hf (by decide) (by kernel_rfl) rfl rfl (hp.ob (i := 1) rfl) rfl rfl ?_
  clear hf; intro a ha hf; clear ha
  refine st_move hf rfl rfl (by decide) ?_
  clear hf; intro a ha hf; clear ha
  refine st_move hf rfl rfl (by decide) ?_
  clear hf; intro a ha hf; clear ha
  refine st_len (E := Ek.c128) hf (by decide) Try.underlying32 rfl rfl (hp.sl (i := 0) rfl) ?_
  clear hf; intro a ha hf; clear ha
  refine st_fa (o' := 1) hf (by decide) (off := 1) (sz := 1) (by kernel_rfl) (by decide) rfl rfl (hp.ob (i := 1) rfl) rfl ?_
  clear hf; intro a ha hf; clear ha
  refine st_ldO (u := .int .i64 sx1_Delay) hf (by decide) pl3 rfl rfl (hp.ob (i := 1) rfl) rfl ?_
  clear hf; intro a ha hf; clear ha
  refine st_iadd hf (by decide) rfl rfl rfl ?_
  clear hf; intro a ha hf; clear ha
  refine st_fa (o' := 2) hf (by decide) (off := 2) (sz := 1) (by kernel_rfl) (by decide) rfl rfl (hp.ob (i := 1) rfl) rfl ?_
  clear hf; intro a ha hf; clear ha
  refine st_ldO (u := vsx1_Taps) hf (by decide) pl32 rfl rfl (hp.ob (i := 1) rfl) rfl ?_
  clear hf; intro a ha hf; clear ha
  refine st_len (E := Ek.c128) hf (by decide) Try.underlying32 rfl rfl (hsx1_Taps.sl hp) ?_
  clear hf; intro a ha hf; clear ha
  refine st_fa (o' := 0) hf (by decide) (off := 0) (sz := 1) (by kernel_rfl) (by decide) rfl rfl (hp.ob (i := 1) rfl) rfl ?_
  clear hf; intro a ha hf; clear ha
  refine st_ldO (u := .int .i64 sx1_Rate) hf (by decide) pl3 rfl rfl (hp.ob (i := 1) rfl) rfl ?_
  clear hf; intro a ha hf; clear ha
  refine st_imul hf (by decide) rfl rfl rfl ?_
  clear hf; intro a ha hf; clear ha
  refine st_iadd hf (by decide) rfl rfl rfl ?_
  clear hf; intro a ha hf; clear ha
  obtain ⟨q9, hcall10, h⟩ := bnd h
  obtain ⟨S11, hp12, rd13, up14, bk15⟩ := Hp.lendS hp (i := 0) rfl
  refine st_call hf (by decide) Try.func16 rfl rfl rfl rfl rfl (f_strait_Pass_c hp12 _ _ _ _ ((hsx1_Taps.now hp).mono up14) _ _ ((hsx1_Echo.now hp).mono up14) _ _ rd13 _ _ (RdS.nil _ _ _) _ hcall10) ?_
  rintro _ w ⟨v16, rfl, hp0⟩
  have hp0 := bk15 _ _ hp0
  clear hp; have hp := hp0; clear hp0
  replace hp : Hp _ _ _ (Res.sl Ek.c128 39 v7 q5.1 :: Res.sl Ek.c128 39 v16 q9.1 :: Res.obj 38 v3 [.int .i64 sx1_Rate, .int .i64 sx1_Delay, vsx1_Taps, vsx1_Echo] :: Res.obj 28 v1 [.int .i64 p0_Rate, .int .i64 p0_Fore, vp0_Taps] :: ow) := hp
  refine ⟨_, rfl, ?_⟩
  clear hf; intro a hf
  refine st_move hf rfl rfl (by decide) ?_
  clear hf; intro a ha hf; clear ha
  refine st_extract hf (by decide) rfl rfl rfl ?_
  clear hf; intro a ha hf; clear ha
  refine st_extract hf (by decide) rfl rfl rfl ?_
  clear hf; intro a ha hf; clear ha
  refine st_assign hf rfl rfl (by decide) ?_
  clear hf; intro a ha hf; clear ha
  refine st_assign hf rfl rfl (by decide) ?_
  clear hf; intro a ha hf; clear ha
  refine st_nil hf ?_
  refine th_n ?_
  refine wp_seq ?_
  refine wp_reg ?_
  refine st_move hf rfl rfl (by decide) ?_
  clear hf; intro a ha hf; clear ha
  refine st_move hf rfl rfl (by decide) ?_
  clear hf; intro a ha hf; clear ha
  refine st_ieql hf (by decide) rfl rfl rfl ?_
  clear hf; intro a ha hf; clear ha
  refine st_move hf rfl rfl (by decide) ?_
  clear hf; intro a ha hf; clear ha
  refine wpList_cut 3 (fun a w => Fr 43 a [(36, v16), (42, .bool ((q5.2 == (0 : Int)) && (q9.2 == (0 : Int))))] ∧ Hp S w0 w (Res.sl Ek.c128 39 v7 q5.1 :: Res.sl Ek.c128 39 v16 q9.1 :: Res.obj 38 v3 [.int .i64 sx1_Rate, .int .i64 sx1_Delay, vsx1_Taps, vsx1_Echo] :: Res.obj 28 v1 [.int .i64 p0_Rate, .int .i64 p0_Fore, vp0_Taps] :: ow)) ?_ ?_
  · rcases Bool.eq_false_or_eq_true (q5.2 == (0 : Int)) with hb19 | hb19
    · skip
      refine st_move hf (wantY hf rfl rfl hb19) rfl (by decide) ?_
      clear hf; intro a ha hf; clear ha
      refine st_ieql hf (by decide) (wantY hf rfl rfl hb19) rfl rfl ?_
      clear hf; intro a ha hf; clear ha
      refine st_pick (v := .bool (q9.2 == (0 : Int))) hf rfl rfl (fun hb' => ?_) (fun hb' => ?_) (by decide) ?_
      · rfl
      · exact absurd (hb19.symm.trans hb') (by decide)
      clear hf; intro a ha hf; clear ha
      refine st_nil hf (th_n ?_)
      exact ⟨hf.sub ⟨rfl, (by rw [hb19]; rfl), trivial⟩, hp⟩
    refine st_skip hf (wantN hf rfl rfl hb19) rfl (by decide) ?_ rfl
    clear hf; intro a hf
    refine st_skip hf (wantN hf rfl rfl hb19) rfl (by decide) ?_ rfl
    clear hf; intro a hf
    refine st_pick (v := .bool false) hf rfl rfl (fun hb' => ?_) (fun hb' => ?_) (by decide) ?_
    · exact absurd (hb19.symm.trans hb') (by decide)
    · rfl
    clear hf; intro a ha hf; clear ha
    refine st_nil hf (th_n ?_)
    exact ⟨hf.sub ⟨rfl, (by rw [hb19]; rfl), trivial⟩, hp⟩
  rintro a w ⟨hf, hp⟩
  refine st_assign hf rfl rfl (by decide) ?_
  clear hf; intro a ha hf; clear ha
  refine st_assign hf rfl rfl (by decide) ?_
  clear hf; intro a ha hf; clear ha
  refine st_nil hf ?_
  refine th_n ?_
  refine wp_ret ?_
  obtain rfl := Option.some.inj h
  have hp : Hp _ _ _ (Res.sl Ek.c128 39 v16 q9.1 :: ow) := Hp.sel (pre := [Res.sl Ek.c128 39 v7 q5.1, Res.sl Ek.c128 39 v16 q9.1, Res.obj 38 v3 [.int .i64 sx1_Rate, .int .i64 sx1_Delay, vsx1_Taps, vsx1_Echo], Res.obj 28 v1 [.int .i64 p0_Rate, .int .i64 p0_Fore, vp0_Taps]]) (tail := ow) (rs' := [Res.sl Ek.c128 39 v16 q9.1]) hp [1] (by decide) (by simp) rfl
  exact ⟨rfl, ⟨_, hf.sub ⟨rfl, rfl, trivial⟩, hp⟩⟩

end Go.Proofs.Ytgdhjjdgghilhaa
